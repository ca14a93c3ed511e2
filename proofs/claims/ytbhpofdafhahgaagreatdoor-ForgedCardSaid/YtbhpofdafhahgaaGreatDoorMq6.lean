/- Part 6: CodecC CodecD CodecE CodecF CodecG CodecH CodecI. -/
import Derived.Maps.OwnOps
import Derived.Maps.Views
import Derived.Test.YtbhpofdafhahgaaGreatDoorMq5
set_option linter.all false
set_option maxHeartbeats 8000000
set_option maxRecDepth 100000
namespace Go.Proofs.YtbhpofdafhahgaaGreatDoor
open Go.RowKit
variable {fn:Func} {t:Tmp} {tmps:Array Value} {b N r k:Nat} {l0 lr nm l2:List UInt8} {b0 rA br wF:Bool} {names:List (List UInt8)} {c:Pl.Cl} {aZ:List Pl.Cl}
variable (o:Pl.jb) (w:World) (g:Nat) (l:List UInt8) (bad:Bool) (e:Ending) (w':World) (row:List Pl.Vl) (v:Pl.Vl)
theorem afU:Pl.Dj l=if l.length<1 then none else if Pl.num (l.take 1)=1 then(if(l.drop 1).length<8 then none else some (⟨1,Pl.num ((l.drop 1).take 8),[]⟩,(l.drop 1).drop 8))
 else if((l.drop 1).length<1\/((l.drop 1).drop 1).length<Pl.num ((l.drop 1).take 1))\/¬(Pl.num (l.take 1)=2/\(((l.drop 1).drop 1).take (Pl.num ((l.drop 1).take 1))).length<=16)then none
  else some (⟨2,0,((l.drop 1).drop 1).take (Pl.num ((l.drop 1).take 1))⟩,((l.drop 1).drop 1).drop (Pl.num ((l.drop 1).take 1))):=by
 unfold Pl.Dj;rw[zZ];by_cases h:l.length<1
 ·rw[ah h,ah h];rfl
 ·rw[aj h,aj h];simp only[eS];by_cases h1:Pl.num (l.take 1)=1
  ·rw[ah h1,ah h1,zZ];by_cases h2:(l.drop 1).length<8
   ·rw[ah h2,ah h2];rfl
   ·rw[aj h2,aj h2];rfl
  ·rw[aj h1,aj h1,LM];by_cases h2:(l.drop 1).length<1\/((l.drop 1).drop 1).length<Pl.num ((l.drop 1).take 1)
   ·rw[ah h2,ah (.inl h2)];rfl
   ·rw[aj h2];simp only[eS];by_cases h3:Pl.num (l.take 1)=2/\(((l.drop 1).drop 1).take (Pl.num ((l.drop 1).take 1))).length<=16
    ·rw[ah h3,aj zo]
    ·rw[aj h3,ah (.inr h3)]
theorem zI{w:World}{g:Nat}{a b:Int}{s:ByteArray}(h:fn.results= #[.cell t 88])(ht:tmps.getD t undef= .pointer (some ⟨g,0,none⟩))(hB:ay w g 88 [.int .i64 a,.int .i64 b,.string s]):
 (results fn tmps).run Tryz.prog w= .ok (.agg #[.int .i64 a,.int .i64 b,.string s]) w:=by
 have c0:=hB.cell 0;have c1:=hB.cell 1;have c2:=hB.cell 2;simp only[aL,au]at c0 c1 c2;simp only[fF]at ht;simp[results,h,ht,go_sem,c0,c1,c2,asAddr]
theorem Mz(w:World)(h:rL w g l bad):
 bG 187 #[.pointer (some ⟨g,0,none⟩)] w λe w'=>∃v:Pl.Vl,e= .returned (vlV v)/\(v.ty<256/\v.n<18446744073709551616/\v.s.length<=255)/\Rd (Pl.Dj l) g bad v w w':=by
 have tN:g<w.heap.size:=h.lt;have hn:=Pl.eN l 1;have yV:=afU l;obtain⟨ty,mr⟩:=ze (Pl.num (l.take 1));obtain⟨l1,l7⟩:=ze (l.drop 1);obtain⟨b2,w0,bz,Lt,pL,B0⟩:=zE w 88 [.int .i64 0,.int .i64 0,.string ⟨#[]⟩];have yY:=zi (sd g 1 l bad w0 (h.aa pL) zo);rw[mr,l7]at yY yV;rw[mr]at hn;have HO0:=zi (ag.ae pL (·=g));have pO:g≠b2:=zo;clear pL h mr l7;go_enter Tryz.func187,Tryz.ntmps187;go_wp2_with fail;refine yY.mono ?_;rintro e w1 ⟨rfl,Px,nY⟩;obtain⟨EB,fJ⟩:=dz (HO0.aE (ag.jk nY)) (B0.grown nY (by simpa using cy pO));obtain⟨b3,wz,bg,XP,CU,BZ⟩:=zE w1 88 [.int .i64 0,.int .i64 0,.string ⟨#[]⟩];obtain⟨z0,z1,z2,e0,e1,e2⟩:=dD BZ;obtain⟨w1a,acI⟩:=ze (((wz.setCell ⟨b3,0,none⟩ (.int .i64 (ty:Int))).setCell ⟨b3,1,none⟩ (.int .i64 0)).setCell ⟨b3,2,none⟩ (.string ⟨#[]⟩));have Od:Below w1.heap.size w1 w1a:=by rw[<-acI];have h1:w1.heap.size<=b3:=zo;exact((CU.setCell (p:=⟨b3,0,none⟩) h1 _).setCell (p:=⟨b3,1,none⟩) h1 _).setCell (p:=⟨b3,2,none⟩) h1 _
 have BV:ay w1a b3 88 [.int .i64 (ty:Int),.int .i64 0,.string ⟨#[]⟩]:=by rw[<-acI];exact BZ.Nj _ _ _
 obtain⟨afu,agl,ahu⟩:=kt (Px.aa Od) (fJ.aa Od fJ.lt) (EB.aa Od);obtain⟨c0,c1,c2,f0,f1,f2⟩:=dD BV;clear Px nY Od CU BZ;have ma:w.heap.size<=w1.heap.size:=EB.size;have Cr:g≠b3:=zo;have h23:b2≠b3:=by have:=fJ.lt;omega
 obtain⟨n8,PK⟩:=ze (Pl.num (l1.take 8));have ahL:n8<18446744073709551616:=by have h5:=Pl.eN l1 8;rw[PK]at h5;have hp8:(256:Nat)^8=18446744073709551616:=zj;omega
 by_cases h1:ty=1
 ·have q1:(((ty:Nat):Int)==1)=true:=by rw[h1];rfl
  have HN8:=zi (SM g l1 _ w1a afu);rw[PK]at HN8;have HT:=zi h1;clear h1;go_wp2_with fail;refine HN8.mono ?_;rintro e w2 ⟨rfl,I5,rQ⟩;have eY:=zi (agl.grown rQ (by simpa using cy pO));have hv2:=BV.grown rQ (by simpa using cy Cr);obtain⟨kJ,HV2,CQ⟩:=kt (ahu.aE (ag.jk rQ)) hv2 I5;clear c0 c1 c2 f0 f1 f2;obtain⟨c0,c1,c2,f0,f1,f2⟩:=dD hv2;obtain⟨w3,fX⟩:=ze (w2.setCell ⟨b3,1,none⟩ (.int .i64 (sig n8)));have hv3:ay w3 b3 88 [.int .i64 (ty:Int),.int .i64 (sig n8),.string ⟨#[]⟩]:=by rw[<-fX];exact hv2.bw 1 _
  have sR:ag (·=b3) w2 w3:=by rw[<-fX];exact(ag.refl (·=b3) w2).zs 1
  obtain⟨eI,Wu⟩:=dz (sR.aC eY h23) (CQ.only sR (λx hx e=>by omega));have rS:Hid (ag (·=g) w w3):=kJ.trans sR (λk hk e=>by omega);have HIS:=xY (ty:Int) (sig n8) ⟨#[]⟩ w3 zj;rw[ah (by rw[HT.out];rfl),show(⟨#[]⟩:ByteArray).data.toList.isEmpty=true from rfl]at HIS;have HIS:=zi HIS;obtain⟨d0,d1,d2,k0,k1,k2⟩:=dD hv3;clear hv2 I5 rQ sR;go_wp2_with fail;refine HIS.mono ?_;rintro e w4 ⟨rfl,cj⟩;obtain⟨Gm,HV4,ib,zQ⟩:=yx (mh g _ _ true w4 (Wu.aa cj)) (hv3.aa cj hv3.lt) (eI.aa cj eI.lt) (rS.aa cj);clear cj HIS c0 c1 c2 f0 f1 f2 d0 d1 d2 k0 k1 k2;go_wp2_with fail;refine Gm.mono ?_;rintro e w5 ⟨rfl,hR5,kF⟩;have XS:=kF.aC HV4 (cy Cr);have vu:=kF.aC ib (cy pO);have VX:=zi (zQ.aE kF);obtain⟨c0,c1,c2,f0,f1,f2⟩:=dD XS;obtain⟨d0,d1,d2,k0,k1,k2⟩:=dD vu;obtain⟨w6,nC⟩:=ze (((w5.setCell ⟨b2,0,none⟩ (.int .i64 (ty:Int))).setCell ⟨b2,1,none⟩ (.int .i64 (sig n8))).setCell ⟨b2,2,none⟩ (.string ⟨#[]⟩));have zv:=zi (show ay w6 b2 88 [.int .i64 (ty:Int),.int .i64 (sig n8),.string ⟨#[]⟩] by rw[<-nC];exact vu.Nj _ _ _);have jV:ag (·=b2) w5 w6:=by rw[<-nC];exact(((ag.refl (·=b2) w5).zs 0).zs 1).zs 2
  have Vd:=zi (hR5.only jV (λx hx e=>by omega));have Kt:Hid (ag (·=g) w w6):=VX.trans jV (λk hk e=>by omega);clear kF XS vu jV;go_wp2_with fail;refine bH (v:=vlV ⟨ty,n8,[]⟩) (zI rfl rfl zv) rfl ⟨_,rfl,⟨(by simpa using hn:ty<256),ahL,aM _⟩,_,_,Vd,?_,?_,Kt⟩
  ·rw[yV,ah HT.out,PK];by_cases c1:l.length<1
   ·simp[c1]
   ·by_cases c2:l1.length<8
    ·simp[c2]
    ·simp[c1,c2]
  ·intro y r hy;rw[yV,ah HT.out,PK]at hy;split at hy
   ·cases hy
   ·split at hy
    ·cases hy
    ·injection hy with hy;injection hy with h1 h2;refine⟨?_,h2⟩;rw[<-h1,HT.out]
 ·have q1:(((ty:Nat):Int)==1)=false:=b9.2 zo;obtain⟨n,wM⟩:=ze (Pl.num (l1.take 1));obtain⟨l2,BJ⟩:=ze (l1.drop 1);obtain⟨nm,pj⟩:=ze (l2.take n);have agG:=yV;have mV:=Pl.eN l1 1;have HN1:=zi (sd g 1 l1 _ w1a afu zo);rw[aj h1]at agG;rw[wM,BJ,pj]at agG;rw[wM,BJ]at HN1;rw[wM]at mV;have kG:nm.length<=255:=by rw[<-pj,aP];omega
  have HT:=zi h1;have EX:(ar nm).data.toList=nm:=rfl;clear h1 yV;go_wp2_with fail;refine HN1.mono ?_;rintro e w2 ⟨rfl,I5,rQ⟩;obtain⟨PA,eY,HV2,kJ⟩:=yx (De g n l2 _ w2 I5 zo) (agl.grown rQ (by simpa using cy pO)) (BV.grown rQ (by simpa using cy Cr)) (ahu.aE (ag.jk rQ));clear I5 rQ c0 c1 c2 f0 f1 f2;go_wp2_with fail;refine PA.mono ?_;rintro e w3 ⟨A,rfl,akL,hA3,hR3,afp⟩;rw[pj]at akL;have eI:=zi (eY.grown afp (by simpa using cy pO));have hv3:=HV2.grown afp (by simpa using cy Cr);have rS:=zi (kJ.aE (ag.jk afp));have hcv:=dQ w3 A nm nm.length akL;rw[pj];obtain⟨c0,c1,c2,f0,f1,f2⟩:=dD hv3;obtain⟨w4,qz⟩:=ze (w3.setCell ⟨b3,2,none⟩ (.string (ar nm)));have Fh:ay w4 b3 88 [.int .i64 (ty:Int),.int .i64 0,.string (ar nm)]:=by rw[<-qz];exact hv3.bw 2 _
  have my:ag (·=b3) w3 w4:=by rw[<-qz];exact(ag.refl (·=b3) w3).zs 2
  obtain⟨ib,HR4⟩:=dz (my.aC eI h23) (hR3.only my (λx hx e=>by omega));have zQ:Hid (ag (·=g) w w4):=rS.trans my (λk hk e=>by omega);have HIS:=xY (ty:Int) 0 (ar nm) w4 (by rw[bK];omega);obtain⟨b,hb⟩:=ze ((if(ty:Int)=1 then(ar nm).data.toList.isEmpty else if(ty:Int)=2 then(decide ((0:Int)=0)&&decide ((ar nm).size<=16))else false));rw[hb]at HIS;have HIS:=zi HIS;have rK:Hid (b=decide (ty=2/\nm.length<=16)):=by
   have TN:=HT.out;show b=_;rw[<-hb,aj zo,bK];by_cases h2:ty=2
   ·rw[ah zo];simp[h2]
   ·rw[aj zo];simp[h2]
  obtain⟨d0,d1,d2,k0,k1,k2⟩:=dD Fh;clear afp my hb akL hA3;go_wp2_with fail;refine HIS.mono ?_;rintro e w5 ⟨rfl,nB⟩;obtain⟨Gm,HV5,uY,VX⟩:=yx (mh g _ _ b w5 (HR4.aa nB)) (Fh.aa nB Fh.lt) (ib.aa nB ib.lt) (zQ.aa nB);clear nB HIS c0 c1 c2 f0 f1 f2 d0 d1 d2 k0 k1 k2 hcv;go_wp2_with fail;refine Gm.mono ?_;rintro e w6 ⟨rfl,Ua,jV⟩;have hv6:=jV.aC HV5 (cy Cr);have hB6:=jV.aC uY (cy pO);have Kt:=zi (VX.aE jV);obtain⟨c0,c1,c2,f0,f1,f2⟩:=dD hv6;obtain⟨d0,d1,d2,k0,k1,k2⟩:=dD hB6;obtain⟨w7,MI⟩:=ze (((w6.setCell ⟨b2,0,none⟩ (.int .i64 (ty:Int))).setCell ⟨b2,1,none⟩ (.int .i64 0)).setCell ⟨b2,2,none⟩ (.string (ar nm)));have HB7:=zi (show ay w7 b2 88 [.int .i64 (ty:Int),.int .i64 0,.string (ar nm)] by rw[<-MI];exact hB6.Nj _ _ _);have ho7:ag (·=b2) w6 w7:=by rw[<-MI];exact(((ag.refl (·=b2) w6).zs 0).zs 1).zs 2
  have HR7:=zi (Ua.only ho7 (λx hx e=>by omega));have HO7:Hid (ag (·=g) w w7):=Kt.trans ho7 (λk hk e=>by omega);clear jV hv6 hB6 ho7;go_wp2_with fail;refine bH (v:=vlV ⟨ty,0,nm⟩) (zI rfl rfl HB7) rfl ⟨_,rfl,⟨(by simpa using hn:ty<256),Nat.zero_lt_of_lt ahL,kG⟩,_,_,HR7,?_,?_,HO7⟩
  ·rw[agG,rK.out];by_cases c1:l.length<1
   ·simp[c1]
   ·by_cases c2:l1.length<1
    ·simp[c2]
    ·by_cases c3:l2.length<n
     ·simp[c3]
     ·by_cases c4:ty=2/\nm.length<=16
      ·simp[c1,c2,c3,c4]
      ·simp[c4]
  ·intro y r hy;rw[agG]at hy;split at hy
   ·cases hy
   ·split at hy
    ·cases hy
    ·rename_i hx;have qG:ty=2:=by
      by_cases h2:ty=2
      ·exact h2
      ·exact absurd (.inr (λh=>h2 h.1)) hx
     injection hy with hy;injection hy with h1 h2;refine⟨?_,h2⟩;rw[<-h1,qG]
theorem Tryz.ME:(Tryz.prog.info? 88).map (λi=>(i.zero,i.size,i.bytes))=some (some (.agg #[.int .i64 0,.int .i64 0,.string ⟨#[]⟩]),3,32):=zp
theorem I2{n m:Nat}(h:n+m<=4398046511104):∀old,old<n+m->Builtin.nextslicecap (n+m) old*32<=281474976710656:=by intro old ho;have:=ig ho;omega
def vc:List Value:=[.int .i64 (v.ty:Nat),.int .i64 (sig v.n),.string (ar v.s)]
def vcs:List Value:=row.flatMap vc
theorem WL(a b:List Pl.Vl):vcs (a++b)=vcs a++vcs b:=by simp[vcs]
theorem ags:vcs [v]=vc v:=by simp[vcs]
theorem afg:∀u∈vc v,u.oneCell'=true:=by intro u hu;simp[vc]at hu;rcases hu with rfl|rfl|rfl<;>rfl
theorem agi:(vcs row).length=row.length*3:=by
 induction row with
 |nil=>rfl
 |cons a r ih=>simp only[vcs,dR,ax]at ih|-;rw[ih];simp[vc];omega
def Rd2{α:Type}(o:Option (α×List UInt8))(g:Nat)(bad:Bool)(x:α)(w w':World):Prop:=
 ∃l' rA,rL w' g l' rA/\rA=(bad||o.isNone)/\(rA=false->o=some (x,l'))/\ag (·=g) w w'
theorem Rd.two{α:Type}{o:Option (α×List UInt8)}{g:Nat}{bad:Bool}{x:α}{w w':World}(h:Rd o g bad x w w'):Rd2 o g bad x w w':=by
 obtain⟨l',rA,h1,h2,h3,h4⟩:=h;refine⟨l',rA,h1,h2,λhb=>?_,h4⟩;rw[hb]at h2;cases ho:o with
 |none=>grind
 |some y=>
  grind
def oH{α:Type}(p:List UInt8->Option (α×List UInt8))(N:Nat)(l0:List UInt8)(b0:Bool)(r:Nat)(xs:List α)(lr:List UInt8)(br:Bool):Prop:=
 (br=true/\(b0=true\/Pl.lA p N l0=none))\/(br=false/\b0=false/\Pl.lA p N l0=(Pl.lA p (N-r) lr).bind λy=>some (xs++y.1,y.2))
theorem oH.start{α:Type}(p:List UInt8->Option (α×List UInt8))(N:Nat)(l0:List UInt8)(b0:Bool):oH p N l0 b0 0 [] l0 b0:=by
 cases b0
 ·refine .inr ⟨rfl,rfl,?_⟩;cases h:Pl.lA p N l0 with
  |none=>simp[h]
  |some y=>simp[h]
 ·exact .inl ⟨rfl,.inl rfl⟩
theorem oH.step{α:Type}{p:List UInt8->Option (α×List UInt8)}{xs:List α}{l':List UInt8}{x:α}
 (h:oH p N l0 b0 r xs lr false) (hr:r<N) (hb:rA=(false||(p lr).isNone)) (ho:rA=false->p lr=some (x,l')):oH p N l0 b0 (r+1) (xs++ [x]) l' rA:=by
 rcases h with⟨h,_⟩|⟨_,h1,h2⟩
 ·cases h
 ·obtain⟨k,hk⟩:∃k,N-r=k+1:=⟨N-r-1,zo⟩;rw[hk,Pl.lA]at h2;cases rA with
  |true=>
   refine .inl ⟨rfl,.inr ?_⟩;cases hp:p lr with
   |none=>rw[h2,hp];rfl
   |some y=>rw[hp]at hb;simp at hb
  |false=>
   refine .inr ⟨rfl,h1,?_⟩;rw[h2,ho rfl,show N-(r+1)=k by omega];simp only[eS];cases Pl.lA p k l' with
   |none=>rfl
   |some y=>simp
theorem oH.done{α:Type}{p:List UInt8->Option (α×List UInt8)}{xs:List α}
 (h:oH p N l0 b0 r xs lr br) (he:br=false->N<=r):br=(b0||(Pl.lA p N l0).isNone)/\(br=false->Pl.lA p N l0=some (xs,lr)):=by
 rcases h with⟨rfl,h⟩|⟨rfl,h1,h2⟩
 ·grind
 ·have hz:N-r=0:=zw;rw[hz,Pl.lA]at h2
  grind
theorem afx:Pl.DV l=if l.length<1\/¬(1<=Pl.num (l.take 1)/\Pl.num (l.take 1)<=4)then none else Pl.lA Pl.Dj (Pl.num (l.take 1)) (l.drop 1):=by
 unfold Pl.DV;rw[zZ];by_cases h:l.length<1
 ·rw[ah h,ah (.inl h)];rfl
 ·rw[aj h];simp only[eS];by_cases h1:1<=Pl.num (l.take 1)/\Pl.num (l.take 1)<=4
  ·rw[ah h1,aj zo]
  ·rw[aj h1,ah (.inr h1)]
theorem Yq{l:List UInt8}{bad b1 PF:Bool}{row:List Pl.Vl}{M:Option (List Pl.Vl×List UInt8)}(yV:Pl.DV l=if l.length<1\/¬(1<=N/\N<=4)then none else M)
 (gP:decide (1<=N/\N<=4)=PF) (aI:(bad||decide (l.length<1)||!PF)=b1) (h1:br=(b1||M.isNone)) (h2:br=false->M=some (row,lr)):
 br=(bad||(Pl.DV l).isNone)/\(br=false->Pl.DV l=some (row,lr)):=by
 rw[yV];subst gP aI;by_cases c1:l.length<1
 ·rw[ah (.inl c1),h1];simp[c1]
 ·by_cases c2:1<=N/\N<=4
  ·rw[aj zo]
   grind
  ·rw[ah (.inr c2),h1];simp[c2]
def VlB:Prop:=v.ty<256/\v.n<18446744073709551616/\v.s.length<=255
def afP:Prop:=
 ∃v row,e= .returned v/\w'.ownsRow w.heap.size 88 3 v row.length (vcs row)/\row.length<256/\(∀x∈row,VlB x)/\Rd2 (Pl.DV l) g bad row w w'
theorem Yw(w:World)(h:rL w g l bad):
 bG 186 #[.pointer (some ⟨g,0,none⟩)] w (afP w g l bad):=by
 obtain⟨i0,yW,nQ,kK,mY⟩:=bV Tryz.ME;have hlt:=h.lt;have hn:=Pl.eN l 1;have yV:=afx l;obtain⟨N,hN⟩:=ze (Pl.num (l.take 1));obtain⟨l1,l7⟩:=ze (l.drop 1);have yY:=zi (sd g 1 l bad w h zo);rw[hN,l7]at yY yV;rw[hN]at hn;have GH:N<256:=by simpa using hn
 have HPE:=zi yV;clear yV hN l7 h hn;go_enter Tryz.func186,Tryz.ntmps186;go_wp2_with fail;refine yY.mono ?_;rintro e w1 ⟨rfl,hR,hg⟩;obtain⟨hO,HR⟩:=dz (ag.jk hg) hR;clear hg hR yY;obtain⟨PF,Bf⟩:=ze (decide (1<=N/\N<=4));obtain⟨b1,aI⟩:=ze ((bad||decide (l.length<1)||!PF));have Gm:=mh g l1 _ PF w1 HR;rw[aI]at Gm;obtain⟨Gm,Ww,fJ⟩:=kt Gm Bf aI;have Ya:((1:Int)<=(N:Int)/\decide ((1:Int)<=(N:Int))=true/\(N:Int)<=4/\decide ((N:Int)<=4)=true/\PF=true)\/(¬(1:Int)<=(N:Int)/\decide ((1:Int)<=(N:Int))=false/\PF=false)\/((1:Int)<=(N:Int)/\decide ((1:Int)<=(N:Int))=true/\¬(N:Int)<=4/\decide ((N:Int)<=4)=false/\PF=false):=by
  rw[<-Bf];by_cases h1:1<=N
  ·by_cases h2:N<=4
   ·exact .inl ⟨zo,by simp;omega,zo,by simp;omega,by simp[h1,h2]⟩
   ·exact .inr (.inr ⟨zo,by simp;omega,zo,by simp;omega,by simp[h2]⟩)
  ·exact .inr (.inl ⟨zo,by simp;omega,by simp[h1]⟩)
 clear Bf aI;rcases Ya with⟨h1,d1,h2,d2,rfl⟩|⟨h1,d1,rfl⟩|⟨h1,d1,h2,d2,rfl⟩
 all_goals go_wp2_with fail
 all_goals
  refine Gm.mono ?_;rintro e w2 ⟨rfl,I5,fw⟩;obtain⟨kJ,CQ⟩:=dz (hO.aE fw) I5;have uB:=kJ.size;clear I5 fw Gm hO HR;go_wp2_with fail
  go_loopw [3,4] (λv n wr=>∃(r:Nat) (ps:List Pl.Vl) (lr:List UInt8) (br:Bool),r<=N/\n= .int .i64 ((N-r:Nat):Int)/\Hid (ps.length=r)/\wr.ownsRow w.heap.size 88 3 v r (vcs ps)/\Hid (∀x∈ps,VlB x)/\
   rL wr g lr br/\Hid (ag (·=g) w wr)/\Hid (oH Pl.Dj N l1 b1 r ps lr br)) (λ_ n _=>(intOf n).toNat)
  case atStart=>exact⟨0,[],_,_,aM _,rfl,rfl,dA _ _ _ _,by intro x hx;simp at hx,CQ.out,kJ.out,oH.start _ _ _ _⟩
  case round=>
   obtain⟨r,ps,lr,br,hr,rfl,GY,bI,Q0,hRr,HO,Gr⟩:=hrel;obtain⟨q,hq⟩:=ze (N-r);rw[hq];have MF:r+q=N:=zo;have HQ:=zi MF;have hrN:r<=N:=hr;have hqb:q<256:=zo;clear hq MF;obtain⟨A,aB,hrc,Lw,V2,Ex,hrA⟩:=hRr;have c1:=V2.cell 1;simp only[aL,au]at c1;have hRr:Hid (rL wr g lr br):=⟨A,aB,hrc,Lw,V2,Ex,hrA⟩;clear hrc Lw V2 Ex hrA;have EO:=GY.out;by_cases hq0:0<q
   ·have hq1:(0:Int)<(q:Int):=zo;cases br with
    |false=>
     have HV:=zi (Mz g lr false wr hRr);have de:w.heap.size<=wr.heap.size:=HO.size;obtain⟨vH,hroom⟩:=dz (show r+1<=maxLen by simp only[maxLen];omega) (I2 (n:=r) (m:=1) zo);clear EO;go_wp2_with fail;refine HV.mono ?_;rintro e w3 ⟨x,rfl,hxb,Dt⟩;obtain⟨l',rA,hR3,RV,aeH,sR⟩:=Dt.two;have wu:=zi (Gr.step (zA HQ.out) RV aeH);have Jc:w.heap.size<=w3.heap.size:=ao de sR.size;have sM:=zJ Jc (.cells (vc x).toArray 88);have ee:=zi ((bI.kept sR.I8 (by
      rcases hv:u3.ownBlock with _|k
      ·exact .inl rfl
      ·right;have:=(bI.lt k hv).1;intro e;have:=fB e;omega)).alloc (.cells (vc x).toArray 88))
     obtain⟨QX,rS,Dg,HXB⟩:=yx (Src.dE (ay.new w3 88 (vc x))) ((HO.aE sR).alloc (.cells (vc x).toArray 88)) (hR3.aa (w':=w3.alloc (.cells (vc x).toArray 88)) (za _ _)) hxb;clear sR hR3 bI Dt hxb RV aeH;unfold vlV
     go_wp2_with (at_builtin
                  refine cQ _ rfl (.tmp 26) (.tmp 29) 91 rfl w.heap.size 88 i0 (.agg #[.int .i64 0,.int .i64 0,.string ⟨#[]⟩]) 3 32 Tryz.underlying91 yW nQ kK mY rfl zj u3 r (vcs ps) rfl ee (some ⟨w3.heap.size,0,none⟩) 1 1 (vc x) rfl rfl QX (afg x) vH hroom sM ?_;intro v3 w4 kW EZ Zq)
     have Yg:=HQ.out;refine⟨⟨r+1,ps++ [x],l',rA,zo,?_,?_,?_,?_,?_,?_,wu⟩,?_⟩
     ·rw[show((N-(r+1):Nat):Int)=(q:Int)-1 by omega]
     ·have:=GY.out;rw[Hid,ax,this];rfl
     ·rw[WL,ags];exact kW
     ·intro y hy;rcases eQ.1 hy with hy|hy
      ·exact Q0 y hy
      ·simp at hy;subst hy;exact HXB
     ·refine Dg.only (ag.mono (G:=λk=>u3.ownBlock=some k\/w3.heap.size<=k) ⟨EZ.os,EZ.tape,EZ.output,EZ.size,λk hk hn=>EZ.block k hk (λe=>hn e.symm)⟩ (λx _ hx=> .inl hx)) (λy hy hn=>?_);rcases hn with hn|hn
      ·have:=(ee.lt y hn).1;omega
      ·have:=Dg.lt;simp at this;omega
     ·exact rS.grown EZ (λk hk=> .inr (ee.lt k hk).1)
     ·simp[intOf];omega
    |true=>have HD:=zi (Yq HPE Ww fJ (Gr.done (λe=>by cases e)).1 (Gr.done (λe=>by cases e)).2);clear Gr EO;go_wp2_with fail;go_ret;have EO:=GY.out;subst EO;exact⟨_,ps,rfl,bI,zo,Q0,lr,true,hRr,HD.1,HD.2,HO⟩
   ·have hq1:¬(0:Int)<(q:Int):=zo;have hee:br=false->N<=r:=λe=>by have:=HQ.out;omega
    have HD:=zi (Yq HPE Ww fJ (Gr.done hee).1 (Gr.done hee).2);clear Gr EO hee;go_wp2_with fail;go_ret;have EO:=GY.out;subst EO;exact⟨_,ps,rfl,bI,zo,Q0,lr,br,hRr,HD.1,HD.2,HO⟩
open Go.Maps Go.WideMaps
def YL(c:Pl.Cl):List Value:=[.string (ar c.name),.int .i64 (c.ty:Nat)]
def mq(cs:List Pl.Cl):List Value:=cs.flatMap YL
theorem Ro(a b:List Pl.Cl):mq (a++b)=mq a++mq b:=by simp[mq]
theorem ade(v:Pl.Cl):mq [v]=YL v:=by simp[mq]
theorem XU(v:Pl.Cl):∀u∈YL v,u.oneCell'=true:=by intro u hu;simp[YL]at hu;rcases hu with rfl|rfl<;>rfl
theorem N4:∀(aZ:List Pl.Cl) (k:Nat) (c:Pl.Cl),aZ[k]?=some c->(mq aZ)[k*2]?=some (.string (ar c.name))/\(mq aZ)[k*2+1]?=some (.int .i64 (c.ty:Nat))
 | [],k,c,h=>by grind
 |a::r,0,c,h=>by simp at h;subst h;exact⟨rfl,rfl⟩
 |a::r,k+1,c,h=>by have ih:=N4 r k c zw;rw[show(k+1)*2=k*2+1+1 by omega];simpa [mq,YL] using ih
theorem Tryz.Cm:Keyed Tryz.prog 9:=string_keyed Tryz.underlying9
theorem Tryz.apq:(zeroValue 3).run Tryz.prog w= .ok (.int .i64 0) w:=by simp
def nN(b k:Nat)(names:List (List UInt8)):Prop:=
 ∃D:DataW Unit,w.ownsMap Tryz.prog 9 (plainElem Tryz.prog 3) b k D/\∀s:List UInt8,D.atKey (.string s) (.lit (.int .i64 0))= .lit (.int .i64 ((names.count s:Nat):Int))
theorem nN.heap{w w':World}(h:nN w b k names)(hh:w'.heap[b]?=w.heap[b]?):nN w' b k names:=by obtain⟨D,⟨es,clock,h1,h2⟩,h3⟩:=h;exact⟨D,⟨es,clock,hh.trans h1,h2⟩,h3⟩
theorem nN.made:nN (w.alloc (.map #[] 0)) w.heap.size 0 []:=⟨.map [],World.ownsMap_made _ _ _ _,λs=>rfl⟩
theorem nN.lt{w:World}{b k:Nat}{names:List (List UInt8)}(h:nN w b k names):b<w.heap.size:=by
 obtain⟨D,⟨es,clock,h1,h2⟩,h3⟩:=h
 grind
theorem nN.look{w:World}(h:nN w b k names)(nm:List UInt8)(hn:nm.length<=255):
 (Instr.lookup 371 (.map (some b)) (.string (ar nm)) false).run Tryz.prog w= .ok (.int .i64 ((names.count nm:Nat):Int)) w:=by
 obtain⟨D,bI,h3⟩:=h;have tZ:keyOf Tryz.prog 9 (.string (ar nm))=some (.string nm):=keyOf_string_mk Tryz.underlying9 (by rw[bK];unfold maxLen;omega);obtain⟨c,hrun,yT,_⟩:=bI.lookup_int Tryz.Cm Tryz.underlying371 Tryz.underlying3 zu tZ
 grind
theorem aaq{w:World}{D:DataW Unit}{c:Int}(h3:∀s:List UInt8,D.atKey (.string s) (.lit (.int .i64 0))= .lit (.int .i64 ((names.count s:Nat):Int)))
 (hD:IsMap D) (hc:c=((names.count nm:Nat):Int)+1) (h:w.ownsMap Tryz.prog 9 (plainElem Tryz.prog 3) b k (D.put (.string nm) (.lit (.int .i64 c)))):nN w b k (names++ [nm]):=by
 refine⟨_,h,λs=>?_⟩;by_cases hs:s=nm
 ·subst hs;rw[atKey_put_same hD (show WideAt.IsKeyLit (.string s)from trivial),hc,rq];simp
 ·rw[atKey_put_other zw,h3,rq]
  grind
theorem LK(hk:aZ[k]?=some c)(h1:∀x∈aZ.take k,Pl.Gv x)(h2:((aZ.take k).map Pl.Cl.name).Nodup)(hc:Pl.Gv c)(hm:((aZ.take k).map Pl.Cl.name).count c.name=0):
 (∀x∈aZ.take (k+1),Pl.Gv x)/\((aZ.take (k+1)).map Pl.Cl.name).Nodup:=by
 rw[eK,hk]
 grind
theorem Dq(hk:aZ[k]?=some c)(h:¬Pl.Gv c\/0<((aZ.take k).map Pl.Cl.name).count c.name):¬Pl.jx aZ:=by
 rintro⟨_,h1,h2⟩;rcases h with h|h
 ·grind
 ·have e:aZ=aZ.take k++aZ.drop k:=by simp
  have hlt:k<aZ.length:=by
   grind
  have hd:aZ.drop k=c::aZ.drop (k+1):=by
   rw[fT hlt]
   grind
  grind
theorem aO{w:World}{g:Nat}{t:TypeId}{a0 a1:Value}(h:ay w g t [a0,a1]):
 w.cell? ⟨g,0,none⟩=some a0/\w.cell? ⟨g,1,none⟩=some a1/\w.frozen? ⟨g,0,none⟩=false/\w.frozen? ⟨g,1,none⟩=false:=⟨h.cell 0,h.cell 1,h.frozen 0,h.frozen 1⟩
theorem rf(A:Option Addr)(aB:Nat)(aZ:List Pl.Cl)(w:World)(hs:Src w A (mq aZ))(hA:∀p,A=some p->p.block<w.heap.size)(hb:∀c∈aZ,c.name.length<=255/\c.ty<256):
 bG 215 #[.slice A aZ.length aB] w λe w'=>e= .returned (.bool (decide (Pl.jx aZ)))/\dP w w':=by
 have hmm:= @run_makeMap Tryz.prog;obtain⟨n,hn⟩:=ze aZ.length;have HN:=zi hn;rw[hn];by_cases h1:1<=n
 ·by_cases h2:n<=4
  ·have hne:0<(mq aZ).length:=by
    match aZ,hn with
    | [],hn=>simp at hn;omega
    |a::r,_=>simp[mq,YL]
   obtain⟨b,off,rfl⟩:=hs.addr hne;have yg:=hA _ rfl;have q1:¬(n:Int)<1:=zo;have q2:¬(4:Int)<(n:Int):=zo;have d1:=aH q1;have d2:=aH q2;clear hA hne hn;go_enter Tryz.func215,Tryz.ntmps215;go_wp2_with fail
   go_loopw [17] (λi wr=>∃k:Nat,k<=n/\i= .int .i64 (k:Int)/\Below w.heap.size w wr/\Hid (nN wr w.heap.size k ((aZ.take k).map Pl.Cl.name))/\Hid ((∀x∈aZ.take k,Pl.Gv x)/\((aZ.take k).map Pl.Cl.name).Nodup)) (λi _=>n-(intOf i).toNat)
   case atStart=>exact⟨0,aM _,rfl,za _ _,nN.made w,zu,zu⟩
   case round=>
    obtain⟨k,hk,rfl,jN,HSN,Ww⟩:=hrel;by_cases pX:k<n
    ·have q3:(k:Int)<(n:Int):=zo;have Sa:k<aZ.length:=by rw[HN.out];exact pX
     obtain⟨c,hc⟩:∃c,aZ[k]?=some c:=⟨_,aF Sa⟩;have zV:=hb c (bO hc);obtain⟨at0,at1⟩:=N4 aZ k c hc;have g0:=(hs.aa jN).cell _ _ at0;have g1:=(hs.aa jN).cell _ _ at1;rw[<-ew]at g1;obtain⟨nm,ty⟩:=c;dsimp only at g0 g1 zV;clear at0 at1 Sa;have hNM:Hid (nm.length<=255):=zV.1;have mr:=zV.2;clear zV;obtain⟨bm,hbm⟩:=ze w.heap.size;rw[hbm]at HSN|-
     obtain⟨b5,wz,nB,XP,CU,BZ⟩:=zE wr 121 [.string ⟨#[]⟩,.int .i64 0];obtain⟨z0,z1,y0,y1⟩:=aO BZ;obtain⟨w1,dj⟩:=ze ((wz.setCell ⟨b5,0,none⟩ (.string (ar nm))).setCell ⟨b5,1,none⟩ (.int .i64 (ty:Int)));have alg:Below wr.heap.size wr w1:=by rw[<-dj];have h1:wr.heap.size<=b5:=zo;exact(CU.setCell (p:=⟨b5,0,none⟩) h1 _).setCell (p:=⟨b5,1,none⟩) h1 _
     have B1:ay w1 b5 121 [.string (ar nm),.int .i64 (ty:Int)]:=by rw[<-dj];exact(BZ.bw 0 _).bw 1 _
     have PW:=zi (jN.trans (alg.mono jN.size));have aog:nN w1 bm k ((aZ.take k).map Pl.Cl.name):=HSN.heap (alg.block bm HSN.lt);have hml:bm≠b5:=by have:=HSN.lt;omega
     obtain⟨m,hm⟩:=ze (((aZ.take k).map Pl.Cl.name).count nm);have hm4:m<=4:=by rw[<-hm];refine ao List.count_le_length ?_;rw[eT,aP];omega
     have sB:=aog.look nm hNM;rw[hm]at sB;obtain⟨D,bI,kj⟩:=aog;obtain⟨c0,c1,f0,f1⟩:=aO B1;have tZ:=zi (keyOf_string_mk Tryz.underlying9 (s:=ar nm) (by rw[bK];unfold maxLen;have:=hNM.out;omega));clear alg CU BZ;have hwf:Hid ((Lit.int .i64 ((m:Int)+1)).wf=true):=by show(decide ((-9223372036854775808:Int)<=(m:Int)+1)&&decide ((m:Int)+1<=9223372036854775807))=true;rw[aQ zo,aQ zo];rfl
     go_wp2_with (first
      |(at_mapUpdate;refine wpList_mapUpdate_own _ rfl _ _ _ 371 rfl 9 3 Tryz.Cm Tryz.underlying371 _ bm k _ rfl bI (by unfold maxLen;omega) _ _ _ rfl rfl tZ.out _ [] (plainElem_int Tryz.underlying3 hwf.out) ?_)
      |fail)
     intro w2 ee dY;have Ga:Hid (nN w2 bm (k+1) ((aZ.take (k+1)).map Pl.Cl.name)):=by have h9:=aaq kj bI.isMap (c:=(m:Int)+1) (by rw[show(ar nm).data.toList=nm from rfl,hm]) ee;rw[Hid,eK,hc,gH];exact h9
     have HM2:Hid (((aZ.take (k+1)).map Pl.Cl.name).count nm=m+1):=by rw[Hid,eK,hc,gH,rq,hm];simp
     obtain⟨EJ,sI,HIS⟩:=kt (B1.grown dY (by simpa using cy hml)) (PW.grown dY PW.size (λj hj=>by cases hj;rw[hbm];exact ai _)) (AL (ar nm) w2 (by rw[bK];have:=hNM.out;omega));clear c0 c1 f0 f1 ee dY sB g0 g1 z0 z1 y0 y1 bI kj;obtain⟨c0,c1,f0,f1⟩:=aO EJ;by_cases gP:Pl.iy nm
     ·rw[show decide (Pl.iy (ar nm).data.toList)=true from aQ gP]at HIS;by_cases t1:ty=1
      ·by_cases m0:m=0
       ·have p1:(((ty:Nat):Int)==1)=true:=by rw[t1];rfl
        have p2:(((ty:Nat):Int) !=1)=false:=by rw[t1];rfl
        have r1:¬(1:Int)<(m:Int)+1:=zo;have r2:=aH r1;go_wp2_with fail;refine HIS.mono ?_;rintro e w3 ⟨rfl,bg⟩;have wZ:=EJ.aa bg EJ.lt;have pS:=Ga.heap (bg.block bm Ga.lt);have xM:=zi (sI.trans (bg.mono sI.size));have qW:=pS.look nm hNM;rw[HM2.out]at qW;obtain⟨e0,e1,k0,k1⟩:=aO wZ;have pS:=zi pS;clear bg wZ;go_wp2_with fail;have ED:=LK hc Ww.1 Ww.2 ⟨gP,.inl t1⟩ (by rw[hm];exact m0)
        go_round
        case rel=>exact⟨k+1,zo,zu,(by rw[<-hbm];exact xM),pS,ED.1,ED.2⟩
        case measure=>simp[intOf];omega
       ·have p1:(((ty:Nat):Int)==1)=true:=by rw[t1];rfl
        have p2:(((ty:Nat):Int) !=1)=false:=by rw[t1];rfl
        have r1:(1:Int)<(m:Int)+1:=zo;have r2:=aQ r1;go_wp2_with fail;refine HIS.mono ?_;rintro e w3 ⟨rfl,bg⟩;have wZ:=EJ.aa bg EJ.lt;have pS:=Ga.heap (bg.block bm Ga.lt);have xM:=zi (sI.trans (bg.mono sI.size));have qW:=pS.look nm hNM;rw[HM2.out]at qW;obtain⟨e0,e1,k0,k1⟩:=aO wZ;have pS:=zi pS;clear bg wZ;go_wp2_with fail;go_ret;have hd:decide (Pl.jx aZ)=false:=aH (Dq hc (.inr (by rw[hm];omega)));rw[hd];exact⟨rfl,xM⟩
      ·by_cases t2:ty=2
       ·by_cases m0:m=0
        ·have p1:(((ty:Nat):Int)==1)=false:=b9.2 zo;have p2:(((ty:Nat):Int) !=1)=true:=by rw[bne,p1];rfl
         have p3:(((ty:Nat):Int)==2)=true:=by rw[t2];rfl
         have p4:(((ty:Nat):Int) !=2)=false:=by rw[t2];rfl
         have r1:¬(1:Int)<(m:Int)+1:=zo;have r2:=aH r1;go_wp2_with fail;refine HIS.mono ?_;rintro e w3 ⟨rfl,bg⟩;have wZ:=EJ.aa bg EJ.lt;have pS:=Ga.heap (bg.block bm Ga.lt);have xM:=zi (sI.trans (bg.mono sI.size));have qW:=pS.look nm hNM;rw[HM2.out]at qW;obtain⟨e0,e1,k0,k1⟩:=aO wZ;have pS:=zi pS;clear bg wZ;go_wp2_with fail;have ED:=LK hc Ww.1 Ww.2 ⟨gP,.inr t2⟩ (by rw[hm];exact m0)
         go_round
         case rel=>exact⟨k+1,zo,zu,(by rw[<-hbm];exact xM),pS,ED.1,ED.2⟩
         case measure=>simp[intOf];omega
        ·have p1:(((ty:Nat):Int)==1)=false:=b9.2 zo;have p2:(((ty:Nat):Int) !=1)=true:=by rw[bne,p1];rfl
         have p3:(((ty:Nat):Int)==2)=true:=by rw[t2];rfl
         have p4:(((ty:Nat):Int) !=2)=false:=by rw[t2];rfl
         have r1:(1:Int)<(m:Int)+1:=zo;have r2:=aQ r1;go_wp2_with fail;refine HIS.mono ?_;rintro e w3 ⟨rfl,bg⟩;have wZ:=EJ.aa bg EJ.lt;have pS:=Ga.heap (bg.block bm Ga.lt);have xM:=zi (sI.trans (bg.mono sI.size));have qW:=pS.look nm hNM;rw[HM2.out]at qW;obtain⟨e0,e1,k0,k1⟩:=aO wZ;have pS:=zi pS;clear bg wZ;go_wp2_with fail;go_ret;have hd:decide (Pl.jx aZ)=false:=aH (Dq hc (.inr (by rw[hm];omega)));rw[hd];exact⟨rfl,xM⟩
       ·have p1:(((ty:Nat):Int)==1)=false:=b9.2 zo;have p2:(((ty:Nat):Int) !=1)=true:=by rw[bne,p1];rfl
        have p3:(((ty:Nat):Int)==2)=false:=b9.2 zo;have p4:(((ty:Nat):Int) !=2)=true:=by rw[bne,p3];rfl
        go_wp2_with fail;refine HIS.mono ?_;rintro e w3 ⟨rfl,bg⟩;have wZ:=EJ.aa bg EJ.lt;have pS:=Ga.heap (bg.block bm Ga.lt);have xM:=zi (sI.trans (bg.mono sI.size));have qW:=pS.look nm hNM;rw[HM2.out]at qW;obtain⟨e0,e1,k0,k1⟩:=aO wZ;have pS:=zi pS;clear bg wZ;go_wp2_with fail;go_ret;have hd:decide (Pl.jx aZ)=false:=aH (Dq hc (.inl (λh=>by have:=h.2;dsimp only at this;omega)));rw[hd];exact⟨rfl,xM⟩
     ·rw[show decide (Pl.iy (ar nm).data.toList)=false from aH gP]at HIS;go_wp2_with fail;refine HIS.mono ?_;rintro e w3 ⟨rfl,bg⟩;have wZ:=EJ.aa bg EJ.lt;have pS:=Ga.heap (bg.block bm Ga.lt);have xM:=zi (sI.trans (bg.mono sI.size));have qW:=pS.look nm hNM;rw[HM2.out]at qW;obtain⟨e0,e1,k0,k1⟩:=aO wZ;have pS:=zi pS;clear bg wZ;go_wp2_with fail;go_ret;have hd:decide (Pl.jx aZ)=false:=aH (Dq hc (.inl (λh=>gP h.1)));rw[hd];exact⟨rfl,xM⟩
    ·have q3:¬(k:Int)<(n:Int):=zo;have hd:Hid (decide (Pl.jx aZ)=true):=by have hh:=Ww.out;rw[dx (by rw[HN.out];omega)]at hh;exact aQ ⟨⟨by rw[HN.out];omega,by rw[HN.out];omega⟩,hh⟩
     go_wp2_with fail;go_ret;exact⟨by rw[hd.out];rfl,jN⟩
  ·have q1:¬(n:Int)<1:=zo;have q2:(4:Int)<(n:Int):=zo;have d1:=aH q1;have d2:=aQ q2;have hd:Hid (decide (Pl.jx aZ)=false):=aH (λh=>by have:=h.1.2;rw[HN.out]at this;omega);clear hA hs hb hn;go_enter Tryz.func215,Tryz.ntmps215;go_wp2_with fail;go_ret;exact⟨by rw[hd.out];rfl,ak _ _⟩
 ·have q1:(n:Int)<1:=zo;have d1:=aQ q1;have hd:Hid (decide (Pl.jx aZ)=false):=aH (λh=>by have:=h.1.1;rw[HN.out]at this;omega);clear hA hs hb hn;go_enter Tryz.func215,Tryz.ntmps215;go_wp2_with fail;go_ret;exact⟨by rw[hd.out];rfl,ak _ _⟩
theorem Tryz.Cx:(Tryz.prog.info? 121).map (λi=>(i.zero,i.size,i.bytes))=some (some (.agg #[.string ⟨#[]⟩,.int .i64 0]),2,24):=zp
theorem abw:Pl.ue l=if l.length<1 then none else(Pl.lA Pl.Li (Pl.num (l.take 1)) (l.drop 1)).bind λy=>if Pl.jx y.1 then some y else none:=by
 unfold Pl.ue;rw[zZ];by_cases h:l.length<1
 ·rw[ah h,ah h];rfl
 ·rw[aj h,aj h];rfl
theorem Rr{l:List UInt8}{bad b1:Bool}{M:Option (List Pl.Cl×List UInt8)}(yV:Pl.ue l=if l.length<1 then none else M.bind λy=>if Pl.jx y.1 then some y else none)
 (aI:(bad||decide (l.length<1))=b1) (h1:br=(b1||M.isNone)) (h2:br=false->M=some (aZ,lr)):
 (br||!decide (Pl.jx aZ))=(bad||(Pl.ue l).isNone)/\((br||!decide (Pl.jx aZ))=false->Pl.ue l=some (aZ,lr)):=by
 rw[yV];subst aI;by_cases c1:l.length<1
 ·rw[ah c1,h1]
  grind
 ·rw[aj c1];cases br with
  |true=>
   refine⟨?_,zu⟩;simp[c1]at h1
   grind
  |false=>
   grind
theorem abn(hb:wF=(false||(Pl.py lr).isNone))(ho:∀y r,Pl.py lr=some (y,r)->nm=y/\l2=r):
 (wF||decide (l2.length<1))=(false||(Pl.Li lr).isNone)/\((wF||decide (l2.length<1))=false->Pl.Li lr=some (⟨nm,Pl.num (l2.take 1)⟩,l2.drop 1)):=by
 unfold Pl.Li;cases hp:Pl.py lr with
 |none=>rw[hp]at hb;subst hb;simp
 |some y=>
  obtain⟨y,r⟩:=y;obtain⟨rfl,rfl⟩:=ho y r hp;rw[hp]at hb;subst hb;simp only[eS];rw[zZ];by_cases c:l2.length<1
  ·simp[c]
  ·simp[c]
def ClB(c:Pl.Cl):Prop:=c.name.length<=255/\c.ty<256
def adG:Prop:=
 ∃v aZ,e= .returned v/\w'.ownsRow w.heap.size 121 2 v aZ.length (mq aZ)/\aZ.length<256/\(∀x∈aZ,ClB x)/\Rd2 (Pl.ue l) g bad aZ w w'
theorem Ru(w:World)(h:rL w g l bad):
 bG 166 #[.pointer (some ⟨g,0,none⟩)] w (adG w g l bad):=by
 obtain⟨i0,yW,nQ,kK,mY⟩:=bV Tryz.Cx;have hlt:=h.lt;have hn:=Pl.eN l 1;have yV:=abw l;obtain⟨N,hN⟩:=ze (Pl.num (l.take 1));obtain⟨l1,l7⟩:=ze (l.drop 1);obtain⟨b1,aI⟩:=ze ((bad||decide (l.length<1)));have yY:=zi (sd g 1 l bad w h zo);rw[hN,l7,aI]at yY;rw[hN,l7]at yV;rw[hN]at hn;have GH:N<256:=by simpa using hn
 clear hN l7 h hn;go_enter Tryz.func166,Tryz.ntmps166;go_wp2_with fail;refine yY.mono ?_;rintro e w2 ⟨rfl,hR,hg⟩;have kJ:=zi (ag.jk hg);have uB:=kJ.size;clear hg yY;go_wp2_with fail
 go_loopw [3,4] (λv n wr=>∃(r:Nat) (ps:List Pl.Cl) (lr:List UInt8) (br:Bool),r<=N/\n= .int .i64 ((N-r:Nat):Int)/\Hid (ps.length=r)/\wr.ownsRow w.heap.size 121 2 v r (mq ps)/\Hid (∀x∈ps,ClB x)/\
  rL wr g lr br/\Hid (ag (·=g) w wr)/\Hid (oH Pl.Li N l1 b1 r ps lr br)) (λ_ n _=>(intOf n).toNat)
 case atStart=>exact⟨0,[],_,_,aM _,rfl,rfl,dA _ _ _ _,by intro x hx;simp at hx,hR,kJ.out,oH.start _ _ _ _⟩
 case round=>
  obtain⟨r,ps,lr,br,hr,rfl,GY,bI,Q0,hRr,HO,Gr⟩:=hrel;obtain⟨q,hq⟩:=ze (N-r);rw[hq];have MF:r+q=N:=zo;have hrN:r<=N:=hr;have hqb:q<256:=zo;clear hq;obtain⟨A,aB,hrc,Lw,V2,Ex,hrA⟩:=hRr;have c1:=V2.cell 1;simp only[aL,au]at c1;have hRr:Hid (rL wr g lr br):=⟨A,aB,hrc,Lw,V2,Ex,hrA⟩;clear hrc Lw V2 Ex hrA;by_cases hq0:0<q
  ·have hq1:(0:Int)<(q:Int):=zo;cases br with
   |false=>
    have HV:=zi (Tj g lr false wr hRr);have de:w.heap.size<=wr.heap.size:=HO.size;obtain⟨vH,hroom⟩:=dz (show r+1<=maxLen by simp only[maxLen];omega) (rE (n:=r) (m:=1) zo);go_wp2_with fail;refine HV.mono ?_;rintro e w3 ⟨nm,rfl,kG,l2,wF,hR3,bz,aoE,sR⟩;obtain⟨s1,s2⟩:=abn bz aoE;obtain⟨ty,mr⟩:=ze (Pl.num (l2.take 1));have Bu:=Pl.eN l2 1;rw[mr]at s2 Bu;have YE:=sd g 1 l2 wF w3 hR3 zo;rw[mr]at YE;obtain⟨YE,wu⟩:=dz YE (Gr.step (zA MF) s1 s2);have HXB:Hid (ClB ⟨nm,ty⟩):=⟨kG,by simpa using Bu⟩;have kW:=zi (sR.own bI (λx hx e=>by
     have:=(bI.lt x hx).1;omega))
    obtain⟨rS,Je⟩:=dz (HO.aE sR) sR.size;clear hR3 bz aoE sR s1 s2 Bu mr bI kG Gr HV;go_wp2_with fail;refine YE.mono ?_;rintro e w4 ⟨rfl,Dg,TQ⟩;have Jc:w.heap.size<=w4.heap.size:=ao (ao de Je) TQ.size;have sM:=zJ Jc (.cells (YL ⟨nm,ty⟩).toArray 121);have my:=ag.jk TQ;have ee:=zi ((my.own kW (λx hx e=>by
     have:=(kW.lt x hx).1;omega)).alloc (.cells (YL ⟨nm,ty⟩).toArray 121))
    obtain⟨QX,zQ,hR5⟩:=kt (Src.dE (ay.new w4 121 (YL ⟨nm,ty⟩))) ((rS.aE my).alloc (.cells (YL ⟨nm,ty⟩).toArray 121)) (Dg.aa (w':=w4.alloc (.cells (YL ⟨nm,ty⟩).toArray 121)) (za _ _));clear TQ my Dg kW
    go_wp2_with (at_builtin
                 refine cQ _ rfl (.tmp 21) (.tmp 26) 122 rfl w.heap.size 121 i0 (.agg #[.string ⟨#[]⟩,.int .i64 0]) 2 24 Tryz.underlying122 yW nQ kK mY rfl zj u3 r (mq ps) rfl ee (some ⟨w4.heap.size,0,none⟩) 1 1 (YL ⟨nm,ty⟩) rfl rfl QX (XU _) vH hroom sM ?_;intro v3 w5 jY vB ahs)
    have Yg:=MF;refine⟨⟨r+1,ps++ [(⟨nm,ty⟩:Pl.Cl)],l2.drop 1,(wF||decide (l2.length<1)),zo,?_,?_,?_,?_,?_,?_,wu⟩,?_⟩
    ·rw[show((N-(r+1):Nat):Int)=(q:Int)-1 by omega]
    ·have:=GY.out;rw[Hid,ax,this];rfl
    ·rw[Ro,ade];exact jY
    ·intro y hy;rcases eQ.1 hy with hy|hy
     ·exact Q0 y hy
     ·simp at hy;subst hy;exact HXB
    ·refine hR5.only (ag.mono (G:=λk=>u3.ownBlock=some k\/w4.heap.size<=k) ⟨vB.os,vB.tape,vB.output,vB.size,λk hk hn=>vB.block k hk (λe=>hn e.symm)⟩ (λx _ hx=> .inl hx)) (λy hy hn=>?_);rcases hn with hn|hn
     ·have:=(ee.lt y hn).1;omega
     ·have:=hR5.lt;simp at this;omega
    ·exact zQ.grown vB (λk hk=> .inr (ee.lt k hk).1)
    ·simp[intOf];omega
   |true=>
    have HD:=zi (Rr yV aI (Gr.done (λe=>by cases e)).1 (Gr.done (λe=>by cases e)).2);obtain⟨Aa,aiA,rfl,akM,Q9,Qf⟩:=bJ bI;have aeL:∀p,Aa=some p->p.block<wr.heap.size:=λp hp=>(bI.lt p.block (Qf p hp)).2;have MY:=zi (rf Aa aiA ps wr Q9 aeL Q0);rw[GY.out]at MY;obtain⟨PF,Bf⟩:=ze (decide (Pl.jx ps));rw[Bf]at MY;rw[Bf]at HD;clear Gr Bf Q9 Qf aeL;go_wp2_with fail;refine MY.mono ?_;rintro e w3 ⟨rfl,bg⟩;obtain⟨Gm,rS,Sf⟩:=kt (mh g lr _ PF w3 (hRr.aa bg)) (HO.aa bg) (fm bI bg);clear bg MY;go_wp2_with fail;refine Gm.mono ?_;rintro e w4 ⟨rfl,Dg,my⟩;have zQ:=zi (rS.aE my);have abK:=zi (my.own Sf (λx hx e=>by
     have:=(Sf.lt x hx).1;omega))
    clear my Gm;go_wp2_with fail;go_ret;have EO:=GY.out;subst EO;exact⟨_,ps,rfl,abK,zo,Q0,lr,_,Dg,HD.1,HD.2,zQ⟩
  ·have hq1:¬(0:Int)<(q:Int):=zo;have hee:br=false->N<=r:=λe=>by have:=MF;omega
   have HD:=zi (Rr yV aI (Gr.done hee).1 (Gr.done hee).2);obtain⟨Aa,aiA,rfl,akM,Q9,Qf⟩:=bJ bI;have aeL:∀p,Aa=some p->p.block<wr.heap.size:=λp hp=>(bI.lt p.block (Qf p hp)).2;have MY:=zi (rf Aa aiA ps wr Q9 aeL Q0);rw[GY.out]at MY;obtain⟨PF,Bf⟩:=ze (decide (Pl.jx ps));rw[Bf]at MY;rw[Bf]at HD;clear Gr Bf Q9 Qf aeL hee;go_wp2_with fail;refine MY.mono ?_;rintro e w3 ⟨rfl,bg⟩;obtain⟨Gm,rS,Sf⟩:=kt (mh g lr _ PF w3 (hRr.aa bg)) (HO.aa bg) (fm bI bg);clear bg MY;go_wp2_with fail;refine Gm.mono ?_;rintro e w4 ⟨rfl,Dg,my⟩;have zQ:=zi (rS.aE my);have abK:=zi (my.own Sf (λx hx e=>by
    have:=(Sf.lt x hx).1;omega))
   clear my Gm;go_wp2_with fail;go_ret;have EO:=GY.out;subst EO;exact⟨_,ps,rfl,abK,zo,Q0,lr,_,Dg,HD.1,HD.2,zQ⟩
def l9(K:Nat)(nm l:List UInt8):Option (Pl.jb×List UInt8):=
 if K=1 then(Pl.ue l).bind λz=>some (⟨1,nm,z.1,[]⟩,z.2)
 else if K=2\/K=3 then(Pl.DV l).bind λz=>some (⟨K,nm,[],z.1⟩,z.2)
 else if K=4 then(Pl.Dj l).bind λz=>some (⟨4,nm,[],[z.1]⟩,z.2)
 else none
theorem ajs:Pl.SB l=if l.length<1 then none else(Pl.py (l.drop 1)).bind λy=>l9 (Pl.num (l.take 1)) y.1 y.2:=by
 unfold Pl.SB;rw[zZ];by_cases h:l.length<1
 ·rw[ah h,ah h];rfl
 ·rw[aj h,aj h];rfl
theorem IP{l l1 l3:List UInt8}{K:Nat}{bad Gu:Bool}{o:Pl.jb}(yV:Pl.SB l=if l.length<1 then none else(Pl.py l1).bind λy=>l9 K y.1 y.2)
 (bz:wF=((bad||decide (l.length<1))||(Pl.py l1).isNone)) (fw:∀y r,Pl.py l1=some (y,r)->nm=y/\l2=r)
 (bg:Gu=(wF||(l9 K nm l2).isNone)) (sR:Gu=false->l9 K nm l2=some (o,l3)):
 Gu=(bad||(Pl.SB l).isNone)/\(Gu=false->Pl.SB l=some (o,l3)):=by
 rw[yV];by_cases c1:l.length<1
 ·grind
 ·rw[aj c1];cases hp:Pl.py l1 with
  |none=>
   grind
  |some y=>
   grind
theorem yC{α β:Type}{p:Option (α×List UInt8)}{f:α->β}{bad:Bool}{x:α}{l:List UInt8}(hb:rA=(bad||p.isNone))(ho:rA=false->p=some (x,l)):
 rA=(bad||(p.bind λz=>some (f z.1,z.2)).isNone)/\(rA=false->(p.bind λz=>some (f z.1,z.2))=some (f x,l)):=by
 refine⟨?_,zS⟩;rw[hb];cases p<;>rfl
def OpB:Prop:=o.kind<256/\o.table.length<=255/\(o.aZ.length<256/\∀x∈o.aZ,ClB x)/\o.row.length<256/\∀x∈o.row,VlB x
def OpV(B:Nat)(v:Value)(o:Pl.jb):Prop:=
 ∃va vb,v= .agg #[.int .i64 (o.kind:Nat),.string (ar o.table),va,vb]/\w.ownsRow B 121 2 va o.aZ.length (mq o.aZ)/\w.ownsRow B 88 3 vb o.row.length (vcs o.row)
def ajt:Prop:=
 ∃v o,e= .returned v/\OpV w' w.heap.size v o/\OpB o/\Rd2 (Pl.SB l) g bad o w w'
theorem qP{w:World}{g:Nat}{a b c d:Value}(h:fn.results= #[.cell t 216])(ht:tmps.getD t undef= .pointer (some ⟨g,0,none⟩))(hB:ay w g 216 [a,b,c,d]):
 (results fn tmps).run Tryz.prog w= .ok (.agg #[a,b,c,d]) w:=by
 have c0:=hB.cell 0;have c1:=hB.cell 1;have c2:=hB.cell 2;have c3:=hB.cell 3;simp only[aL,au]at c0 c1 c2 c3;simp only[fF]at ht;simp[results,h,ht,go_sem,c0,c1,c2,c3,asAddr]
theorem wV{w:World}{aq b' n size:Nat}{e:TypeId}{v:Value}{xs:List Value}(h:w.ownsRow aq e size v n xs)(hb:b'<=aq):w.ownsRow b' e size v n xs:=by
 refine⟨h.1,?_⟩;rcases h.2 with hn|⟨g,aB,cur,rfl,aI,rest⟩
 ·exact .inl hn
 ·exact .inr ⟨g,aB,cur,rfl,ao hb aI,rest⟩
theorem ajS(w:World)(h:rL w g l bad):
 bG 126 #[.pointer (some ⟨g,0,none⟩)] w (ajt w g l bad):=by
 have tN:g<w.heap.size:=h.lt;have hn:=Pl.eN l 1;have yV:=ajs l;obtain⟨K,hK⟩:=ze (Pl.num (l.take 1));obtain⟨l1,l7⟩:=ze (l.drop 1);obtain⟨b2,w0,bz,Lt,pL,B0⟩:=zE w 216 [.int .i64 0,.string ⟨#[]⟩,.slice none 0 0,.slice none 0 0];have yY:=zi (sd g 1 l bad w0 (h.aa pL) zo);rw[hK,l7]at yY yV;rw[hK]at hn;have hK':K<256:=by simpa using hn
 obtain⟨HPE,HB0,HO0⟩:=kt yV B0 (ag.ae pL (·=g));have pO:g≠b2:=zo;clear yV pL B0 h hK l7 hn;go_enter Tryz.func126,Tryz.ntmps126;go_wp2_with fail;refine yY.out.mono ?_;rintro e w1 ⟨rfl,Px,nY⟩;obtain⟨EB,fJ⟩:=dz (HO0.out.aE (ag.jk nY)) (HB0.out.grown nY (by simpa using cy pO));obtain⟨b3,wz,bg,XP,CU,BZ⟩:=zE w1 216 [.int .i64 0,.string ⟨#[]⟩,.slice none 0 0,.slice none 0 0];obtain⟨z0,z1,z2,z3,e0,e1,e2,e3⟩:=eh BZ;obtain⟨w1a,acI⟩:=ze ((((wz.setCell ⟨b3,0,none⟩ (.int .i64 (K:Int))).setCell ⟨b3,1,none⟩ (.string ⟨#[]⟩)).setCell ⟨b3,2,none⟩ (.slice none 0 0)).setCell ⟨b3,3,none⟩ (.slice none 0 0));have Od:Below w1.heap.size w1 w1a:=by rw[<-acI];have h1:w1.heap.size<=b3:=zo;exact(((CU.setCell (p:=⟨b3,0,none⟩) h1 _).setCell (p:=⟨b3,1,none⟩) h1 _).setCell (p:=⟨b3,2,none⟩) h1 _).setCell (p:=⟨b3,3,none⟩) h1 _
 have BV:ay w1a b3 216 [.int .i64 (K:Int),.string ⟨#[]⟩,.slice none 0 0,.slice none 0 0]:=by rw[<-acI];exact(((BZ.bw 0 _).bw 1 _).bw 2 _).bw 3 _
 obtain⟨afu,agl,ahu,HBV⟩:=yx (Px.aa Od) (fJ.out.aa Od fJ.out.lt) (EB.out.aa Od) BV;have ma:w.heap.size<=w1.heap.size:=EB.out.size;have Cr:g≠b3:=zo;have h23:b2≠b3:=by have:=fJ.out.lt;omega
 have ahP:=zi (Tj g l1 _ w1a afu.out);clear Px nY Od BV CU BZ;go_wp2_with fail;refine ahP.out.mono ?_;rintro e w2 ⟨nm,rfl,kG,l2,wF,I5,aoz,aml,afo⟩;have eY:=zi (afo.aC agl.out (cy pO));have hv2:=afo.aC HBV.out (cy Cr);have kJ:=zi (ahu.out.aE afo);obtain⟨c0,c1,c2,c3,f0,f1,f2,f3⟩:=eh hv2;obtain⟨w3,fX⟩:=ze (w2.setCell ⟨b3,1,none⟩ (.string (ar nm)));have hv3:ay w3 b3 216 [.int .i64 (K:Int),.string (ar nm),.slice none 0 0,.slice none 0 0]:=by rw[<-fX];exact hv2.bw 1 _
 have sR:ag (·=b3) w2 w3:=by rw[<-fX];exact(ag.refl (·=b3) w2).zs 1
 obtain⟨HV3,eI,Wu⟩:=kt hv3 (sR.aC eY.out h23) (I5.only sR (λx hx e=>by omega));have rS:Hid (ag (·=g) w w3):=kJ.out.trans sR (λk hk e=>by omega);obtain⟨abu,adv⟩:=dz aoz aml;obtain⟨d0,d1,d2,d3,k0,k1,k2,k3⟩:=eh hv3;clear hv2 I5 hv3 sR aoz aml afo ahP;by_cases t1:K=1
 ·have q1:(((K:Nat):Int)==1)=true:=by rw[t1];rfl
  obtain⟨HC,HT⟩:=dz (Ru g l2 wF w3 Wu.out) t1;clear t1;go_wp2_with fail;refine HC.out.mono ?_;rintro e w4 ⟨vv,aZ,rfl,eF,CC,zV,l3,Gu,Dg,cj,Ja,my⟩;obtain⟨Av,sP,rfl,_,_,_⟩:=bJ eF;obtain⟨nv,wP⟩:=ze aZ.length;rw[wP]at eF;have HNV:=zi wP;rw[wP];clear wP;have Bu:l9 K nm l2=(Pl.ue l2).bind λz=>some (⟨1,nm,z.1,[]⟩,z.2):=by unfold l9;rw[ah HT.out]
  have kI:=yC (f:=λz=>(⟨1,nm,z,[]⟩:Pl.jb)) cj Ja;rw[<-Bu]at kI;rw[show(⟨1,nm,aZ,[]⟩:Pl.jb)=⟨K,nm,aZ,[]⟩ by rw[HT.out]]at kI;have T9:=zi kI;clear kI Bu cj Ja HC d0 d1 d2 d3 k0 k1 k2 k3 c0 c1 c2 c3 f0 f1 f2 f3;have Fh:=my.aC HV3.out (cy Cr);obtain⟨ib,zQ⟩:=dz (my.aC eI.out (cy pO)) (rS.out.aE my);have hs4:w.heap.size<=w3.heap.size:=rS.out.size;have h34:=my.size;have XC:=HV3.out.lt;have Yk:=eI.out.lt;obtain⟨c0,c1,c2,c3,f0,f1,f2,f3⟩:=eh Fh;obtain⟨w5,wO⟩:=ze (w4.setCell ⟨b3,2,none⟩ (.slice Av nv sP));have XS:ay w5 b3 216 [.int .i64 (K:Int),.string (ar nm),.slice Av nv sP,.slice none 0 0]:=by rw[<-wO];exact Fh.bw 2 _
  have kF:ag (·=b3) w4 w5:=by rw[<-wO];exact(ag.refl (·=b3) w4).zs 2
  have vu:=kF.aC ib.out h23;have Ye:=zi (Dg.only kF (λx hx e=>by omega));have VX:Hid (ag (·=g) w w5):=zQ.out.trans kF (λk hk e=>by omega);have jY:=zi (kF.own eF (λx hx e=>by
   have:=(eF.lt x hx).1;omega))
  obtain⟨d0,d1,d2,d3,k0,k1,k2,k3⟩:=eh XS;obtain⟨e0,e1,e2,e3,j0,j1,j2,j3⟩:=eh vu;obtain⟨w6,nC⟩:=ze ((((w5.setCell ⟨b2,0,none⟩ (.int .i64 (K:Int))).setCell ⟨b2,1,none⟩ (.string (ar nm))).setCell ⟨b2,2,none⟩ (.slice Av nv sP)).setCell ⟨b2,3,none⟩ (.slice none 0 0));have zv:=zi (show ay w6 b2 216 [.int .i64 (K:Int),.string (ar nm),.slice Av nv sP,.slice none 0 0] by rw[<-nC];exact(((vu.bw 0 _).bw 1 _).bw 2 _).bw 3 _);have jV:ag (·=b2) w5 w6:=by rw[<-nC];exact((((ag.refl (·=b2) w5).zs 0).zs 1).zs 2).zs 3
  have Vd:=zi (Ye.out.only jV (λx hx e=>by omega));have Kt:Hid (ag (·=g) w w6):=VX.out.trans jV (λk hk e=>by omega);have zL:=zi (wV (jV.own jY.out (λx hx e=>by
   have:=(jY.out.lt x hx).1;omega)) hs4)
  have HD:=zi (IP (nm:=nm) (l2:=l2) (l3:=l3) (o:=(⟨K,nm,aZ,[]⟩:Pl.jb)) HPE.out abu.out adv.out (T9.out).1 (T9.out).2);clear Dg my Fh eF XS kF vu jV;go_wp2_with fail;refine bH (qP rfl rfl zv.out) rfl ⟨_,(⟨K,nm,aZ,[]⟩:Pl.jb),rfl,⟨_,_,rfl,(by rw[HNV.out];exact zL.out),dA _ _ _ _⟩,⟨hK',kG,⟨CC,zV⟩,zu,zu⟩,l3,Gu,Vd.out,HD.out.1,HD.out.2,Kt.out⟩
 ·by_cases t2:K=2
  ·have HC:=zi (Yw g l2 wF w3 Wu.out);have q1:(((K:Nat):Int)==1)=false:=b9.2 zo;have q2:(((K:Nat):Int)==2)=true:=by rw[t2];rfl
   have Bu:l9 K nm l2=(Pl.DV l2).bind λz=>some (⟨K,nm,[],z.1⟩,z.2):=by unfold l9;rw[aj zo,ah zo]
   have HTL:=zi Bu;clear Bu;have HT:=zi t2;clear t1 t2;go_wp2_with fail;refine HC.out.mono ?_;rintro e w4 ⟨vv,row,rfl,eF,s9,Ex,l3,Gu,Dg,cj,Ja,my⟩;obtain⟨Av,sP,rfl,_,_,_⟩:=bJ eF;obtain⟨nv,wP⟩:=ze row.length;rw[wP]at eF;have HNV:=zi wP;rw[wP];have Dx:=zi s9;clear wP s9;have kI:=yC (f:=λz=>(⟨K,nm,[],z⟩:Pl.jb)) cj Ja;rw[<-HTL.out]at kI;have T9:=zi kI;clear kI cj Ja HC d0 d1 d2 d3 k0 k1 k2 k3 c0 c1 c2 c3 f0 f1 f2 f3;have Fh:=my.aC HV3.out (cy Cr);obtain⟨ib,zQ⟩:=dz (my.aC eI.out (cy pO)) (rS.out.aE my);have hs4:w.heap.size<=w3.heap.size:=rS.out.size;have h34:=my.size;have XC:=HV3.out.lt;have Yk:=eI.out.lt;obtain⟨c0,c1,c2,c3,f0,f1,f2,f3⟩:=eh Fh;obtain⟨w5,wO⟩:=ze (w4.setCell ⟨b3,3,none⟩ (.slice Av nv sP));have XS:ay w5 b3 216 [.int .i64 (K:Int),.string (ar nm),.slice none 0 0,.slice Av nv sP]:=by rw[<-wO];exact Fh.bw 3 _
   have kF:ag (·=b3) w4 w5:=by rw[<-wO];exact(ag.refl (·=b3) w4).zs 3
   have vu:=kF.aC ib.out h23;have Ye:=zi (Dg.only kF (λx hx e=>by omega));have VX:Hid (ag (·=g) w w5):=zQ.out.trans kF (λk hk e=>by omega);have jY:=zi (kF.own eF (λx hx e=>by
    have:=(eF.lt x hx).1;omega))
   obtain⟨d0,d1,d2,d3,k0,k1,k2,k3⟩:=eh XS;obtain⟨e0,e1,e2,e3,j0,j1,j2,j3⟩:=eh vu;obtain⟨w6,nC⟩:=ze ((((w5.setCell ⟨b2,0,none⟩ (.int .i64 (K:Int))).setCell ⟨b2,1,none⟩ (.string (ar nm))).setCell ⟨b2,2,none⟩ (.slice none 0 0)).setCell ⟨b2,3,none⟩ (.slice Av nv sP));have zv:=zi (show ay w6 b2 216 [.int .i64 (K:Int),.string (ar nm),.slice none 0 0,.slice Av nv sP] by rw[<-nC];exact(((vu.bw 0 _).bw 1 _).bw 2 _).bw 3 _);have jV:ag (·=b2) w5 w6:=by rw[<-nC];exact((((ag.refl (·=b2) w5).zs 0).zs 1).zs 2).zs 3
   have Vd:=zi (Ye.out.only jV (λx hx e=>by omega));have Kt:Hid (ag (·=g) w w6):=VX.out.trans jV (λk hk e=>by omega);have zL:=zi (wV (jV.own jY.out (λx hx e=>by
    have:=(jY.out.lt x hx).1;omega)) hs4)
   have HD:=zi (IP (nm:=nm) (l2:=l2) (l3:=l3) (o:=(⟨K,nm,[],row⟩:Pl.jb)) HPE.out abu.out adv.out (T9.out).1 (T9.out).2);clear Dg my Fh eF XS kF vu jV;go_wp2_with fail;refine bH (qP rfl rfl zv.out) rfl ⟨_,(⟨K,nm,[],row⟩:Pl.jb),rfl,⟨_,_,rfl,dA _ _ _ _,(by rw[HNV.out];exact zL.out)⟩,⟨hK',kG,⟨zu,zu⟩,Dx.out,Ex⟩,l3,Gu,Vd.out,HD.out.1,HD.out.2,Kt.out⟩
  ·by_cases t3:K=3
   ·have HC:=zi (Yw g l2 wF w3 Wu.out);have q1:(((K:Nat):Int)==1)=false:=b9.2 zo;have q2:(((K:Nat):Int)==2)=false:=b9.2 zo;have q3:(((K:Nat):Int)==3)=true:=by rw[t3];rfl
    have Bu:l9 K nm l2=(Pl.DV l2).bind λz=>some (⟨K,nm,[],z.1⟩,z.2):=by unfold l9;rw[aj zo,ah zo]
    have HTL:=zi Bu;clear Bu;have HT:=zi t3;clear t1 t2 t3;go_wp2_with fail;refine HC.out.mono ?_;rintro e w4 ⟨vv,row,rfl,eF,s9,Ex,l3,Gu,Dg,cj,Ja,my⟩;obtain⟨Av,sP,rfl,_,_,_⟩:=bJ eF;obtain⟨nv,wP⟩:=ze row.length;rw[wP]at eF;have HNV:=zi wP;rw[wP];have Dx:=zi s9;clear wP s9;have kI:=yC (f:=λz=>(⟨K,nm,[],z⟩:Pl.jb)) cj Ja;rw[<-HTL.out]at kI;have T9:=zi kI;clear kI cj Ja HC d0 d1 d2 d3 k0 k1 k2 k3 c0 c1 c2 c3 f0 f1 f2 f3;have Fh:=my.aC HV3.out (cy Cr);obtain⟨ib,zQ⟩:=dz (my.aC eI.out (cy pO)) (rS.out.aE my);have hs4:w.heap.size<=w3.heap.size:=rS.out.size;have h34:=my.size;have XC:=HV3.out.lt;have Yk:=eI.out.lt;obtain⟨c0,c1,c2,c3,f0,f1,f2,f3⟩:=eh Fh;obtain⟨w5,wO⟩:=ze (w4.setCell ⟨b3,3,none⟩ (.slice Av nv sP));have XS:ay w5 b3 216 [.int .i64 (K:Int),.string (ar nm),.slice none 0 0,.slice Av nv sP]:=by rw[<-wO];exact Fh.bw 3 _
    have kF:ag (·=b3) w4 w5:=by rw[<-wO];exact(ag.refl (·=b3) w4).zs 3
    have vu:=kF.aC ib.out h23;have Ye:=zi (Dg.only kF (λx hx e=>by omega));have VX:Hid (ag (·=g) w w5):=zQ.out.trans kF (λk hk e=>by omega);have jY:=zi (kF.own eF (λx hx e=>by
     have:=(eF.lt x hx).1;omega))
    obtain⟨d0,d1,d2,d3,k0,k1,k2,k3⟩:=eh XS;obtain⟨e0,e1,e2,e3,j0,j1,j2,j3⟩:=eh vu;obtain⟨w6,nC⟩:=ze ((((w5.setCell ⟨b2,0,none⟩ (.int .i64 (K:Int))).setCell ⟨b2,1,none⟩ (.string (ar nm))).setCell ⟨b2,2,none⟩ (.slice none 0 0)).setCell ⟨b2,3,none⟩ (.slice Av nv sP));have zv:=zi (show ay w6 b2 216 [.int .i64 (K:Int),.string (ar nm),.slice none 0 0,.slice Av nv sP] by rw[<-nC];exact(((vu.bw 0 _).bw 1 _).bw 2 _).bw 3 _);have jV:ag (·=b2) w5 w6:=by rw[<-nC];exact((((ag.refl (·=b2) w5).zs 0).zs 1).zs 2).zs 3
    have Vd:=zi (Ye.out.only jV (λx hx e=>by omega));have Kt:Hid (ag (·=g) w w6):=VX.out.trans jV (λk hk e=>by omega);have zL:=zi (wV (jV.own jY.out (λx hx e=>by
     have:=(jY.out.lt x hx).1;omega)) hs4)
    have HD:=zi (IP (nm:=nm) (l2:=l2) (l3:=l3) (o:=(⟨K,nm,[],row⟩:Pl.jb)) HPE.out abu.out adv.out (T9.out).1 (T9.out).2);clear Dg my Fh eF XS kF vu jV;go_wp2_with fail;refine bH (qP rfl rfl zv.out) rfl ⟨_,(⟨K,nm,[],row⟩:Pl.jb),rfl,⟨_,_,rfl,dA _ _ _ _,(by rw[HNV.out];exact zL.out)⟩,⟨hK',kG,⟨zu,zu⟩,Dx.out,Ex⟩,l3,Gu,Vd.out,HD.out.1,HD.out.2,Kt.out⟩
   ·by_cases t4:K=4
    ·have HC:=zi (Mz g l2 wF w3 Wu.out);have q1:(((K:Nat):Int)==1)=false:=b9.2 zo;have q2:(((K:Nat):Int)==2)=false:=b9.2 zo;have q3:(((K:Nat):Int)==3)=false:=b9.2 zo;have q4:(((K:Nat):Int)==4)=true:=by rw[t4];rfl
     have HTL:Hid (l9 K nm l2=(Pl.Dj l2).bind λz=>some (⟨4,nm,[],[z.1]⟩,z.2)):=by unfold l9;rw[Hid,aj zo,aj zo,ah zo]
     have HT:=zi t4;clear t1 t2 t3 t4;go_wp2_with fail;refine HC.out.mono ?_;rintro e wv ⟨x,rfl,hxb,Dt⟩;obtain⟨l3,Gu,hRv,cj,Ja,hov⟩:=Dt.two;have kI:=yC (f:=λz=>(⟨4,nm,[],[z]⟩:Pl.jb)) cj Ja;rw[<-HTL.out]at kI;rw[show(⟨4,nm,[],[x]⟩:Pl.jb)=⟨K,nm,[],[x]⟩ by rw[HT.out]]at kI;have T9:=zi kI;have HXB:Hid (VlB x):=hxb;obtain⟨b4,ahw⟩:=ze wv.heap.size;obtain⟨w4,qz,Rq⟩:=zF wv (.cells #[.int .i64 (x.ty:Nat),.int .i64 (sig x.n),.string (ar x.s)] 88);have Dg:=hRv.aa Rq;have my:ag (·=g) w3 w4:=hov.aa Rq;have eF:w4.ownsRow w3.heap.size 88 3 (.slice (some ⟨b4,0,none⟩) 1 1) 1 (vcs [x]):=by rw[<-qz,<-ahw];exact⟨rfl,.inr ⟨wv.heap.size,1,#[.int .i64 (x.ty:Nat),.int .i64 (sig x.n),.string (ar x.s)],rfl,hov.size,heap_alloc_new wv _,ai _,by simp[maxLen],rfl,rfl⟩⟩
     unfold vlV;clear kI cj Ja hRv hov Rq Dt hxb HC d0 d1 d2 d3 k0 k1 k2 k3 c0 c1 c2 c3 f0 f1 f2 f3;have Fh:=my.aC HV3.out (cy Cr);obtain⟨ib,zQ⟩:=dz (my.aC eI.out (cy pO)) (rS.out.aE my);have hs4:w.heap.size<=w3.heap.size:=rS.out.size;have h34:=my.size;have XC:=HV3.out.lt;have Yk:=eI.out.lt;obtain⟨c0,c1,c2,c3,f0,f1,f2,f3⟩:=eh Fh;obtain⟨w5,wO⟩:=ze (w4.setCell ⟨b3,3,none⟩ (.slice (some ⟨b4,0,none⟩) 1 1));have XS:ay w5 b3 216 [.int .i64 (K:Int),.string (ar nm),.slice none 0 0,.slice (some ⟨b4,0,none⟩) 1 1]:=by rw[<-wO];exact Fh.bw 3 _
     have kF:ag (·=b3) w4 w5:=by rw[<-wO];exact(ag.refl (·=b3) w4).zs 3
     have vu:=kF.aC ib.out h23;have Ye:=zi (Dg.only kF (λx hx e=>by omega));have VX:Hid (ag (·=g) w w5):=zQ.out.trans kF (λk hk e=>by omega);have jY:=zi (kF.own eF (λx hx e=>by
      have:=(eF.lt x hx).1;omega))
     obtain⟨d0,d1,d2,d3,k0,k1,k2,k3⟩:=eh XS;obtain⟨e0,e1,e2,e3,j0,j1,j2,j3⟩:=eh vu;obtain⟨w6,nC⟩:=ze ((((w5.setCell ⟨b2,0,none⟩ (.int .i64 (K:Int))).setCell ⟨b2,1,none⟩ (.string (ar nm))).setCell ⟨b2,2,none⟩ (.slice none 0 0)).setCell ⟨b2,3,none⟩ (.slice (some ⟨b4,0,none⟩) 1 1));have zv:=zi (show ay w6 b2 216 [.int .i64 (K:Int),.string (ar nm),.slice none 0 0,.slice (some ⟨b4,0,none⟩) 1 1] by rw[<-nC];exact(((vu.bw 0 _).bw 1 _).bw 2 _).bw 3 _);have jV:ag (·=b2) w5 w6:=by rw[<-nC];exact((((ag.refl (·=b2) w5).zs 0).zs 1).zs 2).zs 3
     have Vd:=zi (Ye.out.only jV (λx hx e=>by omega));have Kt:Hid (ag (·=g) w w6):=VX.out.trans jV (λk hk e=>by omega);have zL:=zi (wV (jV.own jY.out (λx hx e=>by
      have:=(jY.out.lt x hx).1;omega)) hs4)
     have HD:=zi (IP (nm:=nm) (l2:=l2) (l3:=l3) (o:=(⟨K,nm,[],[x]⟩:Pl.jb)) HPE.out abu.out adv.out (T9.out).1 (T9.out).2);clear Dg my Fh eF XS kF vu jV;go_wp2_with fail;refine bH (qP rfl rfl zv.out) rfl ⟨_,(⟨K,nm,[],[x]⟩:Pl.jb),rfl,⟨_,_,rfl,dA _ _ _ _,zL.out⟩,⟨hK',kG,⟨zu,zu⟩,zu,by intro y hy;simp at hy;subst hy;exact HXB.out⟩,l3,Gu,Vd.out,HD.out.1,HD.out.2,Kt.out⟩
    ·have q1:(((K:Nat):Int)==1)=false:=b9.2 zo;have q2:(((K:Nat):Int)==2)=false:=b9.2 zo;have q3:(((K:Nat):Int)==3)=false:=b9.2 zo;have q4:(((K:Nat):Int)==4)=false:=b9.2 zo;have Gm:=zi (mh g l2 wF false w3 Wu.out);have Bu:l9 K nm l2=none:=by unfold l9;rw[aj zo,aj zo,aj zo]
     have T9:Hid ((wF||!false)=(wF||(l9 K nm l2).isNone)/\((wF||!false)=false->l9 K nm l2=some ((⟨K,nm,[],[]⟩:Pl.jb),l2))):=by rw[Bu];exact⟨zu,zu⟩
     clear Bu t1 t2 t3 t4;go_wp2_with fail;refine Gm.out.mono ?_;rintro e w4 ⟨rfl,Dg,my⟩;clear Gm d0 d1 d2 d3 k0 k1 k2 k3 c0 c1 c2 c3 f0 f1 f2 f3;have Fh:=my.aC HV3.out (cy Cr);obtain⟨ib,zQ⟩:=dz (my.aC eI.out (cy pO)) (rS.out.aE my);have hs4:w.heap.size<=w3.heap.size:=rS.out.size;have h34:=my.size;have XC:=HV3.out.lt;have Yk:=eI.out.lt;obtain⟨c0,c1,c2,c3,f0,f1,f2,f3⟩:=eh Fh;have Lf:=ib.out;obtain⟨e0,e1,e2,e3,j0,j1,j2,j3⟩:=eh Lf;obtain⟨w6,nC⟩:=ze ((((w4.setCell ⟨b2,0,none⟩ (.int .i64 (K:Int))).setCell ⟨b2,1,none⟩ (.string (ar nm))).setCell ⟨b2,2,none⟩ (.slice none 0 0)).setCell ⟨b2,3,none⟩ (.slice none 0 0));have zv:=zi (show ay w6 b2 216 [.int .i64 (K:Int),.string (ar nm),.slice none 0 0,.slice none 0 0] by rw[<-nC];exact(((Lf.bw 0 _).bw 1 _).bw 2 _).bw 3 _);have jV:ag (·=b2) w4 w6:=by rw[<-nC];exact((((ag.refl (·=b2) w4).zs 0).zs 1).zs 2).zs 3
     have Vd:=zi (Dg.only jV (λx hx e=>by omega));have Kt:Hid (ag (·=g) w w6):=zQ.out.trans jV (λk hk e=>by omega);have HD:=zi (IP (nm:=nm) (l2:=l2) (l3:=l2) (o:=(⟨K,nm,[],[]⟩:Pl.jb)) HPE.out abu.out adv.out (T9.out).1 (T9.out).2);clear Dg my Fh Lf jV;go_wp2_with fail;refine bH (qP rfl rfl zv.out) rfl ⟨_,(⟨K,nm,[],[]⟩:Pl.jb),rfl,⟨_,_,rfl,dA _ _ _ _,dA _ _ _ _⟩,⟨hK',kG,⟨zu,zu⟩,zu,zu⟩,l2,_,Vd.out,HD.out.1,HD.out.2,Kt.out⟩
end Go.Proofs.YtbhpofdafhahgaaGreatDoor
