/- Part 27: FgC PlF FgD FgE FgF FgG FgH FgI. -/
import Derived.Test.YtbhpofdafhahgaaGreatDoorMq26
set_option linter.all false
set_option maxHeartbeats 8000000
set_option maxRecDepth 100000
namespace Go.Proofs.YtbhpofdafhahgaaGreatDoor
open Go.RowKit
variable [Inhabited eH]
variable {st:Int} {op a b c:Value} {ms:List (Nat×List Pl.Pr)} {w w':World} {t:TypeId} {g n gM be:Nat}
variable (x gx gd gD:Nat) (V:ia) (f:Nat->List UInt8)
theorem aaW(x:Pl.Ln)(l:List Pl.Ln)(lv:Value)(w:World)(h:sU w lv l)(hn:l.length<=100000):
 bG 48 #[lv,.agg (Z0 x).toArray] w λe w'=>∃v',e= .returned v'/\vI w' w.heap.size v' (Pl.FE x l)/\Below w.heap.size w w':=by
 obtain⟨A,aB,rfl,hc,hs⟩:=h;obtain⟨n,kG⟩:=ze l.length;rw[kG]at hn hc|-
 obtain⟨xk,hxk⟩:=ze x.key;obtain⟨xs,hxs⟩:=ze (ar x.word);obtain⟨xf,hxf⟩:=ze x.from_;have HXC:Hid (Z0 x=[.int .i64 (xk:Nat),.string xs,.int .i64 (xf:Nat)]):=by rw[Hid,<-hxk,<-hxs,<-hxf];rfl
 rw[HXC.out];obtain⟨g0,w1,jz,dj,aI,B1⟩:=zE w 97 [.int .i64 (xk:Nat),.string xs,.int .i64 (xf:Nat)];have HS:=hs.bQ aI;obtain⟨aq,de⟩:=ze w1.heap.size;have aiB:=zi aI;have HG0:=jz;have HGB:(g0<aq):=by rw[<-de];exact B1.lt
 rw[jz];have HXB:Hid (∀W,Below w1.heap.size w1 W->W.cell? ⟨g0,0,none⟩=some (.int .i64 (xk:Nat))/\W.cell? ⟨g0,1,none⟩=some (.string xs)/\W.cell? ⟨g0,2,none⟩=some (.int .i64 (xf:Nat))):=λW hW=>by have b:=B1.aa hW B1.lt;exact⟨b.cell 0,b.cell 1,b.cell 2⟩
 clear aI;go_enter Tryz.func48,Tryz.ntmps48;go_wp2_with fail
 go_loopw [5,6,7] (λov iv i wr=>∃(j:Nat) (o:List Pl.Ln) (b:Bool),j<=n/\i= .int .i64 (j:Int)/\iv= .bool b/\Hid (vI wr aq ov o)/\Hid (Pl.vK x (l.take j)=(o,b))/\Hid (o.length<=2*j)/\Hid (Below w1.heap.size w1 wr)) (λ_ _ i _=>n-(intOf i).toNat)
 case atStart=>exact⟨0,[],false,aM _,rfl,rfl,Rw.nil _ _,rfl,ai _,ak _ _⟩
 case round=>
  obtain⟨j,o,b,hj,rfl,rfl,HO,HP,HL,HB⟩:=hrel;obtain⟨A0,MV,rfl,_,_,_⟩:=Rw.eo HO;by_cases hjn:j<n
  ·obtain⟨p,hp⟩:∃p,l[j]?=some p:=⟨_,aF (by rw[kG];exact hjn)⟩;have q1:(j:Int)<(n:Int):=zo;have hwj:IntKind.i64.wrap ((j:Int)+1)=(j:Int)+1:=aY _ zo;obtain⟨pk,hpk⟩:=ze p.key;obtain⟨sp,hsp⟩:=ze (ar p.word);obtain⟨pf,hpf⟩:=ze p.from_;have HPC:Hid (Z0 p=[.int .i64 (pk:Nat),.string sp,.int .i64 (pf:Nat)]):=by rw[Hid,<-hpk,<-hsp,<-hpf];rfl
   have CG:Hid (∀W,Below w1.heap.size w1 W->∃b2 off,A=some ⟨b2,off,none⟩/\W.cell? ⟨b2,off+j*3,none⟩=some (.int .i64 (pk:Nat))/\W.cell? ⟨b2,off+j*3+1,none⟩=some (.string sp)/\W.cell? ⟨b2,off+j*3+2,none⟩=some (.int .i64 (pf:Nat))):=λW hW=>by have dm:=jB (f:=Z0) (s:=3) (λ_=>rfl) l j p hp;rw[HPC.out]at dm;have mM:=(HS.bQ hW).1;obtain⟨b2,off,hA,g0⟩:=mM.dm _ _ (dm 0 zo);subst hA;have g1:=mM.cell _ _ (dm 1 zo);have g2:=mM.cell _ _ (dm 2 zo);rw[<-ew]at g1 g2;rw[cI]at g0;exact⟨b2,off,rfl,g0,g1,g2⟩
   have PA:(Pl.vK x (l.take (j+1))=if xk<pk/\b=false then(o++ [x]++ [p],true)else(o++ [p],b)):=by rw[Pl.UU hp,HP.out,<-hpk,<-hxk];rfl
   obtain⟨b2,off,rfl,l0,l1,l2⟩:=CG _ HB;have ahj:Hid (∀W,Below w1.heap.size w1 W->W.cell? ⟨b2,off+j*3,none⟩=some (.int .i64 (pk:Nat))/\W.cell? ⟨b2,off+j*3+1,none⟩=some (.string sp)/\W.cell? ⟨b2,off+j*3+2,none⟩=some (.int .i64 (pf:Nat))):=λW hW=>by obtain⟨b3,o3,e3,h3⟩:=CG W hW;injection e3 with e3;injection e3 with e3 e4 _;subst e3;subst e4;exact h3
   obtain⟨x0,x1,x2⟩:=HXB _ HB;clear CG;by_cases hc:xk<pk/\b=false
   ·obtain⟨rX,rfl⟩:=hc;have Ub:decide ((pk:Int)>(xk:Int))=true:=aQ zo;have ahF:((pk:Int)>(xk:Int)):=zo;have TE:Hid (Pl.vK x (l.take (j+1))=(o++ [x]++ [p],true)):=by rw[Hid,PA,ah ⟨rX,rfl⟩]
    go_wp2_with fail;go_quiet (fail);generalize XP:World.drewN wr _=wz;have CU:Below wr.heap.size wr wz:=by rw[<-XP];exact below_drewN (ak _ _) _
    have HOz:=Rw.aa HO CU;have YI:=zi (lj HB (CU.mono (ln HB)));obtain⟨l0,l1,l2⟩:=ahj _ YI;obtain⟨x0,x1,x2⟩:=HXB _ YI;obtain⟨gs1,akx⟩:=ze wz.heap.size;obtain⟨wa1,akY,aI⟩:=zF wz (.cells #[.int .i64 (xk:Nat),.string xs,.int .i64 (xf:Nat)] 97);have Sp:Hid (Src wa1 (some ⟨gs1,0,none⟩) (qe [x])):=by
     have h9:qe [x]=[.int .i64 (xk:Nat),.string xs,.int .i64 (xf:Nat)]:=by show Z0 x++ []=_;rw[HXC.out];rfl
     rw[Hid,h9,<-akY,<-akx];exact Src.dE (ay.new wz 97 _)
    have R1:=Rw.aa HOz aI;have HBb:=lj YI (aI.mono (ln YI));clear aI;go_wp2_with (first
     |(at_builtin
       refine du Tryz.xp rfl (.tmp 26) (.tmp 28) rfl rfl R1 (some ⟨gs1,0,none⟩) 1 1 (qe [x]) rfl rfl Sp (xw _) (zA HL.out) (zC HBb.size de) ?_;intro v1 w1 r1 m1;obtain⟨Av1,cv1,rfl,_,_,_⟩:=Rw.eo r1;have EB:=vI.snoc r1;have HD1:=Mv.IE de HBb R1 m1;obtain⟨l0,l1,l2⟩:=ahj _ HD1;obtain⟨gs2,abM⟩:=ze w1.heap.size;obtain⟨wa2,acb,bz⟩:=zF w1 (.cells #[.int .i64 (pk:Nat),.string sp,.int .i64 (pf:Nat)] 97);have sZ:Hid (Src wa2 (some ⟨gs2,0,none⟩) (qe [p])):=by
        have h9:qe [p]=[.int .i64 (pk:Nat),.string sp,.int .i64 (pf:Nat)]:=by show Z0 p++ []=_;rw[HPC.out];rfl
        rw[Hid,h9,<-acb,<-abM];exact Src.dE (ay.new w1 97 _)
       have R2:=Rw.aa EB bz;have eY:=lj HD1 (bz.mono (ln HD1));clear bz)
     |(at_builtin
       refine du Tryz.xp rfl (.tmp 30) (.tmp 35) rfl rfl R2 (some ⟨gs2,0,none⟩) 1 1 (qe [p]) rfl rfl sZ (xw _) (by have:=HL.out;rw[ax,dy];omega) (zC eY.size de) ?_;intro v2 w2 r2 m2;obtain⟨Av2,cv2,rfl,_,_,_⟩:=Rw.eo r2;obtain⟨kJ,Kb⟩:=dz (vI.snoc r2) (Mv.IE de eY R2 m2)
       skip)
     |fail)
    have e1:(o++ [x]).length=o.length+1:=by rw[ax,dy]
    exact⟨⟨j+1,o++ [x]++ [p],true,zo,by go_num,rfl,(by have h:=kJ.out;rw[e1]at h;exact h),TE,by rw[Hid];have:=HL.out;simp only[ax,dy];omega,Kb.out⟩,by simp[intOf];omega⟩
   ·have TE:Hid (Pl.vK x (l.take (j+1))=(o++ [p],b)):=by rw[Hid,PA,aj hc]
    have hor:decide ((pk:Int)>(xk:Int))=false\/b=true:=by
     cases b
     ·exact .inl (aH λe=>hc ⟨zo,rfl⟩)
     ·exact .inr rfl
    by_cases ahF:(pk:Int)>(xk:Int)
    ·obtain rfl:b=true:=hor.resolve_left (by rw[aQ ahF];decide);have Ub:decide ((pk:Int)>(xk:Int))=true:=aQ ahF;have asZ:decide (xk<pk)=true:=aQ zo;have arp:xk<pk:=zo;go_wp2_with fail;go_quiet (fail);generalize XP:World.drewN wr _=wz;have CU:Below wr.heap.size wr wz:=by rw[<-XP];exact below_drewN (ak _ _) _
     have HOz:=Rw.aa HO CU;have YI:=zi (lj HB (CU.mono (ln HB)));obtain⟨l0,l1,l2⟩:=ahj _ YI;obtain⟨x0,x1,x2⟩:=HXB _ YI;obtain⟨gs2,abM⟩:=ze wz.heap.size;obtain⟨wa2,acb,bz⟩:=zF wz (.cells #[.int .i64 (pk:Nat),.string sp,.int .i64 (pf:Nat)] 97);have sZ:Hid (Src wa2 (some ⟨gs2,0,none⟩) (qe [p])):=by
      have h9:qe [p]=[.int .i64 (pk:Nat),.string sp,.int .i64 (pf:Nat)]:=by show Z0 p++ []=_;rw[HPC.out];rfl
      rw[Hid,h9,<-acb,<-abM];exact Src.dE (ay.new wz 97 _)
     have R2:=Rw.aa HOz bz;have eY:=lj YI (bz.mono (ln YI));go_wp2_with (first
      |(at_builtin
        refine du Tryz.xp rfl (.tmp 30) (.tmp 35) rfl rfl R2 (some ⟨gs2,0,none⟩) 1 1 (qe [p]) rfl rfl sZ (xw _) (zA HL.out) (zC eY.size de) ?_;intro v2 w2 r2 m2;obtain⟨Av2,cv2,rfl,_,_,_⟩:=Rw.eo r2;obtain⟨kJ,Kb⟩:=dz (vI.snoc r2) (Mv.IE de eY R2 m2)
        skip)
      |fail)
     exact⟨⟨j+1,o++ [p],_,zo,by go_num,rfl,kJ,TE,by rw[Hid];have:=HL.out;simp only[ax,dy];omega,Kb.out⟩,by simp[intOf];omega⟩
    ·have Ub:decide ((pk:Int)>(xk:Int))=false:=aH ahF;have asZ:decide (xk<pk)=false:=aH zo;have arp:¬xk<pk:=zo;go_wp2_with fail;go_quiet (fail);generalize XP:World.drewN wr _=wz;have CU:Below wr.heap.size wr wz:=by rw[<-XP];exact below_drewN (ak _ _) _
     have HOz:=Rw.aa HO CU;have YI:=zi (lj HB (CU.mono (ln HB)));obtain⟨l0,l1,l2⟩:=ahj _ YI;obtain⟨x0,x1,x2⟩:=HXB _ YI;obtain⟨gs2,abM⟩:=ze wz.heap.size;obtain⟨wa2,acb,bz⟩:=zF wz (.cells #[.int .i64 (pk:Nat),.string sp,.int .i64 (pf:Nat)] 97);have sZ:Hid (Src wa2 (some ⟨gs2,0,none⟩) (qe [p])):=by
      have h9:qe [p]=[.int .i64 (pk:Nat),.string sp,.int .i64 (pf:Nat)]:=by show Z0 p++ []=_;rw[HPC.out];rfl
      rw[Hid,h9,<-acb,<-abM];exact Src.dE (ay.new wz 97 _)
     have R2:=Rw.aa HOz bz;have eY:=lj YI (bz.mono (ln YI));go_wp2_with (first
      |(at_builtin
        refine du Tryz.xp rfl (.tmp 30) (.tmp 35) rfl rfl R2 (some ⟨gs2,0,none⟩) 1 1 (qe [p]) rfl rfl sZ (xw _) (zA HL.out) (zC eY.size de) ?_;intro v2 w2 r2 m2;obtain⟨Av2,cv2,rfl,_,_,_⟩:=Rw.eo r2;obtain⟨kJ,Kb⟩:=dz (vI.snoc r2) (Mv.IE de eY R2 m2)
        skip)
      |fail)
     exact⟨⟨j+1,o++ [p],_,zo,by go_num,rfl,kJ,TE,by rw[Hid];have:=HL.out;simp only[ax,dy];omega,Kb.out⟩,by simp[intOf];omega⟩
  ·obtain rfl:j=n:=zo;have q1:decide ((j:Int)<(j:Int))=false:=aH zo;have HP2:Hid (Pl.vK x l=(o,b)):=by have:=HP.out;rwa [dx (by rw[kG];omega)]at this
   have ajE:(w.heap.size<=aq):=by rw[<-de];exact aiB.size
   have HDN:(∀W,Below w1.heap.size w1 W->Below w.heap.size w W):=λW hW=>aiB.trans (hW.mono aiB.size);obtain⟨x0,x1,x2⟩:=HXB _ HB;cases b
   ·have HSL:Hid (Pl.FE x l=o++ [x]):=by rw[Hid];unfold Pl.FE;rw[HP2.out];rfl
    obtain⟨gs1,akx⟩:=ze wr.heap.size;obtain⟨wa1,akY,aI⟩:=zF wr (.cells #[.int .i64 (xk:Nat),.string xs,.int .i64 (xf:Nat)] 97);have Sp:Hid (Src wa1 (some ⟨gs1,0,none⟩) (qe [x])):=by
     have h9:qe [x]=[.int .i64 (xk:Nat),.string xs,.int .i64 (xf:Nat)]:=by show Z0 x++ []=_;rw[HXC.out];rfl
     rw[Hid,h9,<-akY,<-akx];exact Src.dE (ay.new wr 97 _)
    have R1:=Rw.aa HO aI;have HBb:=lj HB (aI.mono (ln HB));clear aI;go_wp2_with (first
     |(at_builtin
       refine du Tryz.xp rfl (.tmp 39) (.tmp 41) rfl rfl R1 (some ⟨gs1,0,none⟩) 1 1 (qe [x]) rfl rfl Sp (xw _) (zA HL.out) (zC HBb.size de) ?_;intro v1 w1 r1 m1;obtain⟨Av1,cv1,rfl,_,_,_⟩:=Rw.eo r1;have EB:=vI.snoc r1;have HD1:=Mv.IE de HBb R1 m1
       skip)
     |fail)
    go_ret;refine⟨_,rfl,?_,HG0▸HDN _ HD1⟩;rw[HSL.out];exact Rw.low EB (HG0▸ajE)
   ·have HSL:Hid (Pl.FE x l=o):=by rw[Hid];unfold Pl.FE;rw[HP2.out];rfl
    go_wp2_with fail;go_ret;refine⟨_,rfl,?_,HG0▸HDN _ HB⟩;rw[HSL.out];exact Rw.low HO (HG0▸ajE)
open Go.Maps Go.WideMaps
theorem cU.alB{V:ia}(h:cU V st op ms w)(g:Nat)(e:g=V.gM):¬jh w g t:=λht=>by obtain⟨f,hm⟩:=h.book.tq.map;exact hm.kz t (e▸ht)
def abR(op:Value)(ms:List (Nat×List Pl.Pr))(bk x:Nat)(w:World)(e:Ending)(w':World):Prop:=
 e= .returned (.tuple #[.int .i64 (bk:Nat),.string (wX x),wN])/\cU V 0 op ms w'/\lV V.gM w w'
theorem P4{fn:Func}{t s u:Tmp}{tmps:Array Value}(h:fn.results= #[.tmp t,.tmp s,.cell u 32])(hu:tmps.getD u undef= .pointer (some ⟨g,0,none⟩))(ht:tmps.getD t undef=a)(hs:tmps.getD s undef=b)(hB:ay w g 32 [.int .i64 0,.string ⟨#[]⟩,.bool true]):
 (results fn tmps).run Tryz.prog w= .ok (.tuple #[a,b,wN]) w:=by
 have c0:=hB.cell 0;have c1:=hB.cell 1;have c2:=hB.cell 2;simp only[aL,au]at c0 c1 c2;simp only[fF]at hu ht hs;simp[results,h,ht,hs,hu,go_sem,c0,c1,c2,asAddr,wN]
theorem Qu(op:Value)(ms:List (Nat×List Pl.Pr))(bk x:Nat)(w:World)(h:cU V 0 op ms w)(og:V.b.count<1000000)(jM:V.b.count/3=bk)(hx:Pl.aun V.b.ps bk=x)(E8:x<4294967296)(hl:bk≠0->∃l,Pl.dI (Pl.kB bk) V.b.ps=some l/\l.length=13):
 bG 32 #[aU V.gD] w (abR V op ms bk x w):=by
 obtain⟨w1,dj⟩:=ze (w.alloc wL);obtain⟨g0,jz⟩:=ze w.heap.size;have aI:=zb dj;have B1:=zB dj jz;have HB:(bG 70 #[aU V.gD] w1 λe w'=>e= .returned (.tuple #[.agg #[.int .i64 (bk:Nat),.int .u8 ((x:Int)/16777216),.int .u8 ((x:Int)/65536%256),.int .u8 ((x:Int)/256%256),.int .u8 ((x:Int)%256)],.nilIface])/\cU V 0 op ms w'/\lV V.gM w1 w'):=by have:=Xa V op ms w1 (h.aa aI) og (by rw[jM];exact hl);unfold ake at this;rw[jM,hx]at this;exact this
 have HX:=TV h aI B1 jz E8;unfold wL at dj;go_enter Tryz.func32,Tryz.ntmps32;go_wp2_with fail;refine HB.mono ?_;rintro e w2 ⟨rfl,hD,hf⟩;obtain⟨h,aI,B1,jz,E8⟩:=id HX;have pj:g0≠V.gM:=λe=>by obtain⟨f,hm⟩:=(h.aa aI).book.tq.map;exact hm.kz _ (e▸B1.dV)
 have B2:ay w2 g0 32 [.int .i64 0,.string ⟨#[]⟩,.bool false]:=hf.1.aC B1 zj pj;obtain⟨g1,w3,nY,fX,bg,B3⟩:=zE w2 83 [.int .i64 (bk:Nat),.int .u8 ((x:Int)/16777216),.int .u8 ((x:Int)/65536%256),.int .u8 ((x:Int)/256%256),.int .u8 ((x:Int)%256)];have HE3:=B2.aa bg B2.lt;have hne:g1≠g0:=λe=>by have:=B2.lt;omega
 have HDC:(∀W,Below w3.heap.size w3 W->W.cell? ⟨g1,0,none⟩=some (.int .i64 (bk:Nat))/\W.cell? ⟨g1,1,none⟩=some (.int .u8 ((x:Int)/16777216))/\W.cell? ⟨g1,2,none⟩=some (.int .u8 ((x:Int)/65536%256))/\W.cell? ⟨g1,3,none⟩=some (.int .u8 ((x:Int)/256%256))/\W.cell? ⟨g1,4,none⟩=some (.int .u8 ((x:Int)%256))):=λW hW=>by have b:=B3.aa hW B3.lt;exact⟨b.cell 0,b.cell 1,b.cell 2,b.cell 3,b.cell 4⟩
 have HT:(∀W,Below w3.heap.size w3 W->bG 34 #[.nilIface] W λe W'=>e= .returned wN/\Below W.heap.size W W'):=λW hW=>mf .nilIface 0 ⟨#[]⟩ W (((hD.ctx.aa bg).aa hW).ge) (lz W 0) zj;have St:(∀W,bG 58 #[.agg #[.int .u8 ((x:Int)/16777216),.int .u8 ((x:Int)/65536%256),.int .u8 ((x:Int)/256%256),.int .u8 ((x:Int)%256)]] W λe W'=>e= .returned (.string (wX x))/\Below W.heap.size W W'):=λW=>Rv x E8 W;have HY:=zd hD hf bg;go_wp2_with fail;refine aN 9 (λ_=>True) (λW=>W.cell? ⟨g1,0,none⟩=some (.int .i64 (bk:Nat))/\W.cell? ⟨g1,1,none⟩=some (.int .u8 ((x:Int)/16777216))/\W.cell? ⟨g1,2,none⟩=some (.int .u8 ((x:Int)/65536%256))/\W.cell? ⟨g1,3,none⟩=some (.int .u8 ((x:Int)/256%256))/\W.cell? ⟨g1,4,none⟩=some (.int .u8 ((x:Int)%256))) zp trivial (HDC _ (ak _ _).drew) (λaz=>?_);refine zt 0 (h:=zt 1 (h:=zt 2 (h:=zt 3 (h:=zt 5 (h:=?_)))));refine zr 4 λK hK=>?_;go_simp;refine(St _).mono ?_;rintro e w4 ⟨rfl,Kp⟩;have cj:Below w3.heap.size w3 w4:=im Kp;go_wp2_with fail;refine hK.out _ _ ⟨λ_=>trivial,HDC _ cj⟩ (λaz=>?_);refine zr 6 λK hK=>?_;go_simp;refine(HT _ cj).mono ?_;rintro e w5 ⟨rfl,nB⟩;have uY:=cj.trans (nB.mono cj.size);have z:=HE3.aa uY HE3.lt;obtain⟨c0,c1,c2,f0,f1,f2⟩:=dD z;unfold wN;go_wp2_with fail;refine hK.out _ _ ⟨λ_=>trivial,HDC _ uY⟩ (λaz=>?_);refine zt 7 (h:=zt 8 (h:=?_));(try simp only[Act.put,zq1,zq2,zP,zq4,zq5,RR]);obtain⟨w6,nC⟩:=ze (((w5.setCell ⟨g0,0,none⟩ (.int .i64 0)).setCell ⟨g0,1,none⟩ (.string ⟨#[]⟩)).setCell ⟨g0,2,none⟩ (.bool true));have z5:=HE3.aa uY HE3.lt;obtain⟨o6,B6⟩:=mD z5 (.int .i64 0) (.string ⟨#[]⟩) (.bool true);rw[nC]at o6 B6;have G6:=o6.aC (B3.aa uY B3.lt) hne;have D7:(w6.cell? ⟨g1,0,none⟩=some (.int .i64 (bk:Nat))/\w6.cell? ⟨g1,1,none⟩=some (.int .u8 ((x:Int)/16777216))/\w6.cell? ⟨g1,2,none⟩=some (.int .u8 ((x:Int)/65536%256))/\w6.cell? ⟨g1,3,none⟩=some (.int .u8 ((x:Int)/256%256))/\w6.cell? ⟨g1,4,none⟩=some (.int .u8 ((x:Int)%256))):=⟨G6.cell 0,G6.cell 1,G6.cell 2,G6.cell 3,G6.cell 4⟩;have HQ:(abR V op ms bk x w (.returned (.tuple #[.int .i64 (bk:Nat),.string (wX x),wN])) w6):=by obtain⟨hD,hf,bg⟩:=id HY;obtain⟨h,aI,B1,jz,_⟩:=id HX;have LQ:Zn g0:= .inl (by rw[<-jz];exact h.ctx.lo);have k25:=bg.trans (uY.mono bg.size);exact⟨rfl,(hD.aa k25).bQ o6 (aD z5) zj (λk hk=>hk▸LQ),(((lV.ae aI).trans hf).trans (.ae k25)).new o6 (λk hk=>by omega) h.ctx.lo⟩
 refine zr 9 λK hK=>?_;go_simp;(try rw[nC]);refine hK.out _ _ ⟨zk zp,D7⟩ (λaz=>?_);(try simp only[Act.put,zq1,zq2,zP,zq4,zq5,RR]);refine bh zp ?_ _;go_wp2_with fail;exact bH (P4 rfl rfl rfl rfl B6) rfl HQ
theorem QS(hx:x<4294967296):Pl.vG (wX x).data.toList=x:=by rw[aac];unfold Pl.vG;rw[ua (by rw[Pl.aG];exact ai _),dx (by rw[Pl.aG];exact ai _),Pl.kq 4 x (by show x<256^4;omega)]
theorem Tg(ms:List (Nat×List Pl.Pr))(P:List Pl.fh)(k x:Nat)(w:World)(h:cU V 0 (.pointer none) ms w)
 (og:V.b.count<1000000) (hk:k<=V.b.count/3) (hx:Pl.aun V.b.ps k=x) (E8:x<4294967296) (hl:k≠0->∃l,Pl.dI (Pl.kB k) V.b.ps=some l/\l.length=13)
 (hroom:V.aA<=100000) (vS:V.b.ps=(fH E0 P).ps) (Fi:V.b.count=P.length) (hY:kv V.aA E0 P):
 bG 23 #[aU V.gD,.int .i64 (k:Nat),.string (wX x)] w λe w'=>e= .returned wN/\cU V 0 (.pointer none) ms w'/\lV V.gM w w':=by
 obtain⟨w1,dj⟩:=ze (w.alloc wL);obtain⟨g0,jz⟩:=ze w.heap.size;have aI:=zb dj;have B1:=zB dj jz;have HH:=adY (wX x) w1;rw[QS x E8]at HH;unfold bM at HH;have HH:=HH;have HV:(∀W,Below w1.heap.size w1 W->bG 56 #[aU V.gD,.agg #[.int .i64 (k:Nat),.int .u8 ((x:Int)/16777216),.int .u8 ((x:Int)/65536%256),.int .u8 ((x:Int)/256%256),.int .u8 ((x:Int)%256)]] W λe w'=>e= .returned .nilIface/\cU V 0 (.pointer none) ms w'/\lV V.gM W w'):=λW hW=>Wn V ms P k x W ((h.aa aI).aa hW) og hk hx E8 hl hroom vS Fi hY;have HX:=sS h aI B1 jz;unfold wL at dj;obtain⟨sx,Gn⟩:=ze (wX x);rw[Gn]at HH|-
 unfold aU at HV|-
 go_enter Tryz.func23,Tryz.ntmps23;go_wp2_with fail;refine HH.mono ?_;rintro e w2 ⟨rfl,bz⟩;have HV2:=HV w2 bz;go_wp2_with fail;refine HV2.mono ?_;rintro e w3 ⟨rfl,hD,hf⟩;have HT:=mf .nilIface 0 ⟨#[]⟩ w3 hD.ctx.ge (lz w3 0) zj;have HY:=And.intro hf hD;go_wp2_with fail;refine HT.mono ?_;rintro e w4 ⟨rfl,cj⟩;obtain⟨hf,hD⟩:=id HY;obtain⟨h,aI,B1,jz⟩:=id HX;have eC:=aI.trans (bz.mono aI.size);have pj:g0≠V.gM:=λe=>(h.aa eC).alB g0 e (B1.aa bz B1.lt).dV;have B3:ay w3 g0 32 [.int .i64 0,.string ⟨#[]⟩,.bool false]:=hf.1.aC (B1.aa bz B1.lt) zj pj;have B4:=B3.aa cj B3.lt;have z0:=B4.cell 0;have z1:=B4.cell 1;have z2:=B4.cell 2;have hzf:=B4.frozen;simp only[au,aL]at z0 z1 z2;have LQ:Zn g0:= .inl (by rw[<-jz];exact h.ctx.lo);obtain⟨o5,B5⟩:=mD B4 (.int .i64 0) (.string ⟨#[]⟩) (.bool true);have HQ:(cU V 0 (.pointer none) ms (((w4.setCell ⟨g0,0,none⟩ (.int .i64 0)).setCell ⟨g0,1,none⟩ (.string ⟨#[]⟩)).setCell ⟨g0,2,none⟩ (.bool true))/\lV V.gM w (((w4.setCell ⟨g0,0,none⟩ (.int .i64 0)).setCell ⟨g0,1,none⟩ (.string ⟨#[]⟩)).setCell ⟨g0,2,none⟩ (.bool true))):=
  ⟨(hD.aa cj).bQ o5 (aD B4) zj (λk hk=>hk▸LQ),(((lV.ae eC).trans hf).trans (.ae cj)).new o5 (λk hk=>by omega) h.ctx.lo⟩
 go_wp2_with fail;exact bH (nV rfl rfl B5) rfl ⟨rfl,HQ⟩
def Dy(vn vs vl vg:Value)(ct op:Int):List Value:=[aU gd,aU gD,vn,vs,vl,vg,.int .i64 ct,.int .i64 op,.bool false,.bool false]
def pE(n:Nat):List Pl.Ln:=(List.range n).map (λi=>⟨i,f i,i+2⟩)
theorem Da(n:Nat):(pE f n).length=n:=by simp[pE]
theorem LI{f:Nat->List UInt8}:∀x∈pE f n,x.key<n:=λx hx=>by
 obtain⟨i,hi,rfl⟩:=iE.1 hx
 grind
theorem VQ(n:Nat):Pl.FE ⟨n,f n,n+2⟩ (pE f n)=pE f (n+1):=by rw[Pl.Xe (λy hy=>iG (LI y hy))];unfold pE;rw[jK,gH];rfl
structure DY(gx gd gD:Nat)(f:Nat->List UInt8)(n k:Nat)(op:Int)(w:World):Prop where
 bk:∃vn vs vl,ay w gx 40 (Dy gd gD vn vs vl (.slice none 0 0) ((n:Int)+1) op)/\sU w vn (pE f k)
 zn:Zn gx
theorem DY.dfr{gx gd gD:Nat}{f:Nat->List UInt8}{k:Nat}{op:Int}(h:DY gx gd gD f n k op w)(hf:lV gM w w')(hm:∀t,¬jh w gM t):DY gx gd gD f n k op w':=by obtain⟨⟨vn,vs,vl,h1,h2⟩,h3⟩:=h;exact⟨⟨vn,vs,vl,hf.1.aC h1 zj (λhk=>hm _ (hk▸h1.dV)),h2.TY hf.1 zj zw⟩,h3⟩
theorem DY.aa{gx gd gD:Nat}{f:Nat->List UInt8}{n k:Nat}{op:Int}{w w':World}(h:DY gx gd gD f n k op w)(hb:Below w.heap.size w w'):DY gx gd gD f n k op w':=by obtain⟨⟨vn,vs,vl,h1,h2⟩,h3⟩:=h;exact⟨⟨vn,vs,vl,h1.aa hb h1.lt,h2.aa hb⟩,h3⟩
theorem DY.frame{gx gd gD:Nat}{f:Nat->List UInt8}{n k:Nat}{op:Int}{w w':World}{F:Nat->Prop}{ts:List TypeId}(h:DY gx gd gD f n k op w)(ho:ag F w w')(hk:bR F w ts)(h1:40∉ts)(h2:97∉ts):DY gx gd gD f n k op w':=by obtain⟨⟨vn,vs,vl,b1,b2⟩,h3⟩:=h;refine⟨⟨vn,vs,vl,ho.cY hk b1 h1,b2.frame ho (λj hj ht=>?_)⟩,h3⟩;obtain⟨t,e1,e2⟩:=hk j hj;exact h2 (ht.dv e2▸e1)
theorem cU.noM{V:ia}{st:Int}{op:Value}{ms:List (Nat×List Pl.Pr)}{w:World}(h:cU V st op ms w):∀t,¬jh w V.gM t:=λt ht=>by obtain⟨f,hm⟩:=h.book.tq.map;exact hm.kz t ht
structure vr(V:ia)(n:Nat):Prop where
 bad:V.l.bad=false
 next:V.l.next=n
 data:V.l.data=22
 first:V.l.first=0
 aW:V.E.d.aW<0
 low:V.E.m.first=24
 all:V.l.all.length=n
theorem vr.ok{V:ia}(h:vr V n)(hn:n<22):su V:=
 ⟨h.bad,by rw[h.next,h.data];exact hn,h.aW,by rw[h.first,h.data,h.low];decide,by rw[h.all];omega⟩
structure lS(gx:Nat)(V:ia)(f:Nat->List UInt8)(n:Nat)(w:World):Prop where
 st:cU V 0 (.pointer none) [] w
 hb:DY gx V.E.m.g V.gD f n n (-1) w
 Ka:Un V.aA f n V.b
 lg:vr V (n+1)
 rm:V.aA=1500
structure aaU(gx:Nat)(V:ia)(f:Nat->List UInt8)(n:Nat)(go B r g2:Nat)(w:World):Prop where
 st:cU V 0 (aU go) [(r,V.b.ps)] w
 op:gW go B (n:Int) r g2 V.b.count [] w
 hb:DY gx V.E.m.g V.gD f n n 0 w
 Ka:Un V.aA f n V.b
 lg:vr V (n+1)
 rm:V.aA=1500
structure Xy(gx:Nat)(V V0:ia)(f:Nat->List UInt8)(n:Nat)(go B r g2:Nat)(w:World):Prop where
 st:cU V 0 (aU go) [(r,V0.b.ps)] w
 b:V.b=(Pl.aul V0.b (Pl.Fs n (f n))).2
 op:gW go B (n:Int) r g2 V.b.count [Pl.Fs n (f n)] w
 hb:DY gx V.E.m.g V.gD f n (n+1) 1 w
 Ka:Un V.aA f n V0.b
 lg:vr V (n+1)
 rm:V.aA=1500
theorem oD{a0 a1 a2 a3 a4 a5 a6 a7 a8 a9:Value}(h:ay w g t [a0,a1,a2,a3,a4,a5,a6,a7,a8,a9]):
 w.cell? ⟨g,0,none⟩=some a0/\w.cell? ⟨g,1,none⟩=some a1/\w.cell? ⟨g,2,none⟩=some a2/\w.cell? ⟨g,3,none⟩=some a3/\w.cell? ⟨g,4,none⟩=some a4/\w.cell? ⟨g,5,none⟩=some a5/\w.cell? ⟨g,6,none⟩=some a6/\w.cell? ⟨g,7,none⟩=some a7/\w.cell? ⟨g,8,none⟩=some a8/\w.cell? ⟨g,9,none⟩=some a9/\∀i,w.frozen? ⟨g,i,none⟩=false:=
 ⟨h.cell 0,h.cell 1,h.cell 2,h.cell 3,h.cell 4,h.cell 5,h.cell 6,h.cell 7,h.cell 8,h.cell 9,λi=>h.frozen i⟩
theorem cU.err{V:ia}(h:cU V st op ms w)(ho:ag (·=be) w w')(hb:ay w be 32 [a,b,c])(hz:Zn be):cU V st op ms w':=h.bQ ho (aD hb) zj zS
theorem Wq(n:Nat)(w:World)(h:lS gx V f n w)(hn:n<20):
 bG 54 #[.pointer (some ⟨gx,0,none⟩),.int .i64 (n:Nat)] w λe w'=>e= .returned (.bool true)/\Gl w w'/\∃go B r g2,aaU gx V f n go B r g2 w':=by
 have HB:=(IV V [] (n:Int) w h.st);obtain⟨gd,qO⟩:=ze V.E.m.g;obtain⟨gD,iJ⟩:=ze V.gD;have hh:=h.hb;rw[qO,iJ]at hh;obtain⟨⟨vn,vs,vl,b1,b2⟩,hz⟩:=id hh;have x1:w.cell? ⟨gx,1,none⟩=some (.pointer (some ⟨gD,0,none⟩)):=b1.cell 1;have HX:=zd h qO iJ;unfold aU at HB;rw[iJ]at HB;go_enter Tryz.func54,Tryz.ntmps54;go_wp2_with fail;refine HB.mono ?_;rintro e w2 ⟨rfl,hf,go,r,g2,mJ,hD,hgo,EX,h1,h2⟩;have hm:=HX.1.st.noM;have BX2:ay w2 gx 40 (Dy gd gD vn vs vl (.slice none 0 0) ((n:Int)+1) (-1)):=hf.1.aC b1 zj (λhk=>hm _ (hk▸b1.dV));have LN2:sU w2 vn (pE f n):=b2.TY hf.1 zj (λk hk=>hk▸hm _);obtain⟨be,w3,ja,fX,bg,B3⟩:=zE w2 32 [.int .i64 0,.string ⟨#[]⟩,.bool true];have HY:=ze7 hf hD hgo EX h1 h2 bg;have Lc:=BX2.aa bg BX2.lt;have ajV:=LN2.aa bg;obtain⟨x0,x1,x2,x3,x4,x5,x6,x7,x8,x9,xf⟩:=oD Lc;obtain⟨e0,e1,e2,_,_,_⟩:=dD B3;have HFA:=BW 0;have GZ:=tR 0;unfold Az at HFA GZ;unfold wN;go_wp2_with fail;refine(HFA _).mono ?_;rintro e w4 ⟨rfl,cj⟩;have AG:=Lc.aa cj Lc.lt;have B4:=B3.aa cj B3.lt;obtain⟨x0,x1,x2,x3,x4,x5,x6,x7,x8,x9,xf⟩:=oD AG;obtain⟨w5,wO⟩:=ze (w4.setCell ⟨gx,7,none⟩ (.int .i64 0));have o5:ag (·=gx) w4 w5:=by rw[<-wO];exact(ag.refl (·=gx) w4).zs 7
 have Yi:ay w5 gx 40 (Dy gd gD vn vs vl (.slice none 0 0) ((n:Int)+1) 0):=by rw[<-wO];exact AG.bw 7 _
 have B5:ay w5 be 32 _:=o5.cY (aD AG) B4 zj;obtain⟨e0,e1,e2,_,_,_⟩:=dD B5;go_wp2_with fail;refine(GZ _).mono ?_;rintro e w6 ⟨rfl,nW⟩;obtain⟨hf,hD,hgo,EX,h1,h2,bg⟩:=id HY;obtain⟨h,qO,iJ⟩:=id HX;have Gx:=aD AG;have k34:=bg.trans (cj.mono bg.size);have HQ:(Gl w w6/\∃go B r g2,aaU gx V f n go B r g2 w6):=by have hD4:=hD.aa k34;have hD6:=(hD4.bQ o5 Gx zj (λk hk=>hk▸hz)).aa nW;have JS:gW go w2.heap.size (n:Int) r g2 V.b.count [] w2:=⟨_,hgo,OL.nil _ _,hgo.lt,ai _,ao h.st.ctx.lo h1⟩;have Ty:=((JS.aa k34).frame o5 (λk t hk mr=>by subst hk;rw[mr.dv AG.dV];decide)).aa nW;have hl6:=(((ajV.aa cj).frame o5 (λk hk ht=>by subst hk;exact absurd (ht.dv AG.dV) zj))).aa nW;refine⟨(((hf.2.aE (ag.ae k34 _)).aE (o5.mono (λk _ hk=>hk▸hz))).aE (ag.ae nW _)),go,_,r,g2,hD6,Ty,?_,h.Ka,h.lg,h.rm⟩;rw[qO,iJ];exact⟨⟨vn,vs,vl,Yi.aa nW Yi.lt,hl6⟩,hz⟩
 go_wp2_with fail;go_ret;exact⟨rfl,HQ⟩
theorem Xd{wd:List UInt8}(hn:n<1000):vcs (Pl.JI n wd)=[.int .i64 1,.int .i64 (n:Nat),.string ⟨#[]⟩,.int .i64 2,.int .i64 0,.string (ar wd)]:=by show[Value.int .i64 ((1:Nat):Int),.int .i64 (sig n),.string (ar []),.int .i64 ((2:Nat):Int),.int .i64 (sig 0),.string (ar wd)]=_;rw[Eh zo,Eh zj];rfl
theorem P6(n go B r g2:Nat)(w:World)(h:aaU gx V f n go B r g2 w)(hn:n<20)(hw:(f n).length<=16):
 bG 15 #[.pointer (some ⟨gx,0,none⟩),.int .i64 0,.int .i64 (n:Nat),.string (ar (f n))] w λe w'=>e= .returned (.bool true)/\Gl w w'/\∃V',Xy gx V' V f n go B r g2 w':=by
 obtain⟨gd,qO⟩:=ze V.E.m.g;obtain⟨gD,iJ⟩:=ze V.gD;obtain⟨sw,hsw⟩:=ze (ar (f n));have hh:=h.hb;rw[qO,iJ]at hh;obtain⟨⟨vn,vs,vl,b1,b2⟩,hz⟩:=id hh;have HFD:=aar n (pE f n) vn w b2 (by rw[Da];omega);rw[Pl.Jz _ _ (λx hx e=>by have:=LI x hx;omega)]at HFD;have HFD:=HFD;have HX:=TV h qO iJ hsw hw;have x2:w.cell? ⟨gx,2,none⟩=some vn:=b1.cell 2;rw[hsw];go_enter Tryz.func15,Tryz.ntmps15;go_wp2_with fail;refine HFD.mono ?_;rintro e w' ⟨rfl,rfl⟩;go_wp2_with fail;refine(Og _ _).mono ?_;rintro e w2 ⟨rfl,bz⟩;go_wp2_with fail;refine(Xb _ _).mono ?_;rintro e w3 ⟨rfl,bg⟩;have aku:=bz.trans (bg.mono bz.size);obtain⟨gr,w4,YA,qz,cj,B4⟩:=zE w3 88 [.int .i64 1,.int .i64 (n:Nat),.string ⟨#[]⟩,.int .i64 2,.int .i64 0,.string sw];obtain⟨be,w5,ja,wO,nB,B5⟩:=zE w4 32 [.int .i64 0,.string ⟨#[]⟩,.bool false];have Zg:=aku.trans ((cj.trans (nB.mono cj.size)).mono aku.size);have ajB:(bG 42 #[.pointer (some ⟨gD,0,none⟩),.string ⟨#[108,111,103]⟩,.slice (some ⟨gr,0,none⟩) 2 2] w5 (aaA V [(r,V.b.ps)] go B (n:Int) r g2 V.b.count [] (Pl.Fs n (f n)) w5)):=by
  obtain⟨h,qO,iJ,hsw,hw⟩:=id HX;have tX:Src w5 (some ⟨gr,0,none⟩) (vcs (Pl.JI n (f n))):=by rw[Xd zo,hsw];exact Src.dE (B4.aa nB B4.lt)
  have hof:=Sc h.Ka zo (by rw[h.rm];omega) hw;have:=Qc V [(r,V.b.ps)] go B (n:Int) r g2 V.b.count [] Pl.tM (Pl.JI n (f n)) (some ⟨gr,0,none⟩) 2 2 w5 (h.st.aa Zg) (h.op.aa Zg) rfl zj tX zj hof (by have h1:=h.Ka.rM.jX;have h2:=Pl.ir f n;omega);unfold aU at this;rw[iJ]at this;exact this
 have F8:=b1.aa Zg b1.lt;have J3:be>=w.heap.size:=by rw[<-ja];exact ao aku.size cj.size
 obtain⟨x0,x1,x2,x3,x4,x5,x6,x7,x8,x9,xf⟩:=oD F8;unfold aU at x1;go_wp2_with fail;refine ajB.mono ?_;rintro e w6 ⟨rfl,hf6,nA,hD6,Ty⟩;have hm:=(HX.1.st.aa Zg).noM;have BX6:ay w6 gx 40 (Dy gd gD vn vs vl (.slice none 0 0) ((n:Int)+1) 0):=hf6.1.aC F8 zj (λhk=>hm _ (hk▸F8.dV));have LN6:sU w6 vn (pE f n):=(b2.aa Zg).TY hf6.1 zj (λk hk=>hk▸hm _);have BE6:ay w6 be 32 [.int .i64 0,.string ⟨#[]⟩,.bool false]:=hf6.1.aC B5 zj (λhk=>hm _ (hk▸B5.dV));have HZB:(Zn be):= .inl (ao HX.1.st.ctx.lo J3);obtain⟨o7,B7⟩:=mD BE6 (.int .i64 0) (.string ⟨#[]⟩) (.bool true);obtain⟨w7,MI⟩:=ze (((w6.setCell ⟨be,0,none⟩ (.int .i64 0)).setCell ⟨be,1,none⟩ (.string ⟨#[]⟩)).setCell ⟨be,2,none⟩ (.bool true));rw[MI]at o7 B7;have hke:=aD BE6;have ajp:=o7.cY hke BX6 zj;have asX:=LN6.frame o7 (λk hk ht=>by subst hk;exact absurd (ht.dv BE6.dV) zj);have HD7:=hD6.err o7 BE6 HZB;have aqd:=Ty.frame o7 (λk t hk mr=>by subst hk;rw[mr.dv BE6.dV];decide);have asv:(Gl w w7):=((ag.ae Zg _).aE hf6.2).aE (o7.mono (λk _ hk=>hk▸HZB));obtain⟨e0,e1,e2,ef0,ef1,ef2⟩:=dD BE6;have HFA:=BW 0;have GZ:=tR 0;have q:=C8;unfold Az at HFA GZ;unfold wN;obtain⟨x0,x1,x2,x3,x4,x5,x6,x7,x8,x9,xf⟩:=oD ajp;obtain⟨y0,y1,y2,_,_,_⟩:=dD B7;go_wp2_with fail;refine(HFA _).mono ?_;rintro e w8 ⟨rfl,Ep⟩;have akI:=ajp.aa Ep ajp.lt;have asx:=B7.aa Ep B7.lt;obtain⟨x0,x1,x2,x3,x4,x5,x6,x7,x8,x9,xf⟩:=oD akI;obtain⟨y0,y1,y2,_,_,_⟩:=dD asx;go_wp2_with fail;refine(GZ _).mono ?_;rintro e w9 ⟨rfl,qA⟩;have Py:=Ep.trans (qA.mono Ep.size);have abg:=akI.aa qA akI.lt;obtain⟨x0,x1,x2,x3,x4,x5,x6,x7,x8,x9,xf⟩:=oD abg;obtain⟨pZ,Nh⟩:=ze (w9.setCell ⟨gx,7,none⟩ (.int .i64 1));have ZW:ag (·=gx) w9 pZ:=by rw[<-Nh];exact(ag.refl (·=gx) w9).zs 7
 have LX:(ay pZ gx 40 (Dy gd gD vn vs vl (.slice none 0 0) ((n:Int)+1) 1)):=by rw[<-Nh];exact abg.bw 7 _
 have Gx:=aD abg;have aoT:=(asX.aa Py).frame ZW (λk hk ht=>by subst hk;exact absurd (ht.dv abg.dV) zj);have c2:=LX.cell 2;have c6:=LX.cell 6;unfold Dy at c2 c6;simp only[au,aL]at c2 c6;go_wp2_with fail;obtain⟨n2,mV⟩:=ze (n+2);have hwr:IntKind.i64.wrap ((n:Int)+1+1)=(n2:Int):=by rw[show(n:Int)+1+1=(n2:Int) by omega];exact aY _ zo
 have acD:(∀W,Below pZ.heap.size pZ W->bG 48 #[vn,.agg #[.int .i64 (n:Nat),.string sw,.int .i64 (n2:Nat)]] W λe W'=>∃v',e= .returned v'/\sU W' v' (pE f (n+1))/\Below W.heap.size W W'):=λW hW=>by have:=aaW ⟨n,f n,n+2⟩ (pE f n) vn W (aoT.aa hW) (by rw[Da];omega);unfold Z0 at this;rw[HX.2.2.2.1,VQ]at this;dsimp only at this;rw[mV]at this;exact this.mono (λe W' ⟨v',h1,h2,h3⟩=>⟨v',h1,h2.dm,h3⟩)
 have D0:(∀W,Below pZ.heap.size pZ W->W.cell? ⟨gx,2,none⟩=some vn/\W.cell? ⟨gx,6,none⟩=some (.int .i64 ((n:Int)+1))/\W.frozen? ⟨gx,2,none⟩=false):=λW hW=>by have b:=LX.aa hW LX.lt;exact⟨b.cell 2,b.cell 6,b.frozen 2⟩
 refine aN 16 (λW=>W.cell? ⟨gx,2,none⟩=some vn) (λW=>W.cell? ⟨gx,6,none⟩=some (.int .i64 ((n:Int)+1))) zp (D0 _ (ak _ _).drew).1 (D0 _ (ak _ _).drew).2.1 (λaz=>?_);refine zt 0 (h:=zt 1 (h:=zt 2 (h:=zt 3 (h:=zl 4 (h:=zt 5 (h:=zt 6 (h:=zt 7 (h:=zt 8 (h:=zt 9 (h:=zt 10 (h:=zt 11 (v:=(.int .i64 ((n2:Nat):Int))) (h:=zt 12 (h:=?_)))))))))))));refine zr 13 λK hK=>?_;go_simp;refine(acD _ (ak _ _).drew).mono ?_;rintro e Et ⟨v',rfl,aoR,apj⟩;have oJ:Below pZ.heap.size pZ Et:=im apj;obtain⟨A11,anC,rfl,_⟩:=id aoR;go_wp2_with fail;refine hK.out _ _ ⟨λ_=>(D0 _ oJ).1,(D0 _ oJ).2.1⟩ (λaz=>?_);(try simp only[Act.put,zq1,zq2,zP,zq4,zq5,RR]);obtain⟨d2,d6,df⟩:=D0 _ oJ;refine zt 14 (h:=zt 15 (h:=?_));(try simp only[Act.put,zq1,zq2,zP,zq4,zq5,RR]);obtain⟨Dz,ZJ⟩:=ze (Et.setCell ⟨gx,2,none⟩ (.slice A11 (pE f (n+1)).length anC));have o12:ag (·=gx) Et Dz:=by rw[<-ZJ];exact(ag.refl (·=gx) Et).zs 2
 have afY:=LX.aa oJ LX.lt;have ama:ay Dz gx 40 (Dy gd gD (.slice A11 (pE f (n+1)).length anC) vs vl (.slice none 0 0) ((n:Int)+1) 1):=by rw[<-ZJ];exact afY.bw 2 _
 have D12:(Dz.cell? ⟨gx,6,none⟩=some (.int .i64 ((n:Int)+1))):=ama.cell 6;have HQ:(Gl w Dz/\∃V',Xy gx V' V f n go B r g2 Dz):=by
  have aqA:=aD abg;have Tn:=aD afY;have hD:=(((HD7.aa Py).bQ ZW aqA zj (λk hk=>hk▸hz)).aa oJ).bQ o12 Tn zj (λk hk=>hk▸hz);have hop:=(((aqd.aa Py).frame ZW (λk t hk mr=>by subst hk;rw[mr.dv abg.dV];decide)).aa oJ).frame o12 (λk t hk mr=>by subst hk;rw[mr.dv afY.dV];decide);have hl:=aoR.frame o12 (λk hk ht=>by subst hk;exact absurd (ht.dv afY.dV) zj);obtain⟨h,qO,iJ,_,_⟩:=id HX;refine⟨((((asv.aE (ag.ae Py _)).aE (ZW.mono (λk _ hk=>hk▸hz))).aE (ag.ae oJ _)).aE (o12.mono (λk _ hk=>hk▸hz))),_,hD,rfl,?_,?_,h.Ka,?_,h.rm⟩
  ·show gW go B (n:Int) r g2 (Pl.aul V.b (Pl.Fs n (f n))).2.count [Pl.Fs n (f n)] Dz;rw[Pl.vE];exact hop
  ·show DY gx V.E.m.g V.gD f n (n+1) 1 Dz;rw[qO,iJ];exact⟨⟨_,vs,vl,ama,hl⟩,hz⟩
  ·have:=h.lg;exact⟨this.bad,this.next,this.data,this.first,this.aW,this.low,this.all⟩
 refine zr 16 λK hK=>?_;go_simp;(try rw[ZJ]);refine hK.out _ _ ⟨zk zp,D12⟩ (λaz=>?_);(try simp only[Act.put,zq1,zq2,zP,zq4,zq5,RR]);refine bh zp ?_ _;go_wp2_with fail;go_ret;exact⟨rfl,HQ⟩
theorem KB(A:Option Addr)(k ca:Nat)(vs vl:Value)(c o:Int)(w:World)(h:ay w gx 40 (Dy gd gD (.slice A k ca) vs vl (.slice none 0 0) c o))(ho:0<o)(hc:0<=c/\c<=1000000):
 bG 67 #[.pointer (some ⟨gx,0,none⟩)] w λe w'=>e= .returned (.tuple #[])/\ag (·=gx) w w'/\ay w' gx 40 (Dy gd gD (.slice A k ca) (.slice A k ca) (.slice none 0 0) (.slice none 0 0) (c+1) (-1)):=by
 have hwr:IntKind.i64.wrap (c+1)=c+1:=aY _ zo;obtain⟨c1,rX⟩:=ze (c+1);rw[rX]at hwr|-
 obtain⟨x0,x1,x2,x3,x4,x5,x6,x7,x8,x9,xf⟩:=oD h;obtain⟨wa,EH⟩:=ze (w.setCell ⟨gx,6,none⟩ (.int .i64 c1));have oa:ag (·=gx) w wa:=by rw[<-EH];exact(ag.refl (·=gx) w).zs 6
 have BA:ay wa gx 40 (Dy gd gD (.slice A k ca) vs vl (.slice none 0 0) c1 o):=by rw[<-EH];exact h.bw 6 _
 obtain⟨wb,p9⟩:=ze (wa.setCell ⟨gx,3,none⟩ (.slice A k ca));have ob:ag (·=gx) wa wb:=by rw[<-p9];exact(ag.refl (·=gx) wa).zs 3
 have BB:ay wb gx 40 (Dy gd gD (.slice A k ca) (.slice A k ca) vl (.slice none 0 0) c1 o):=by rw[<-p9];exact BA.bw 3 _
 obtain⟨wc,hwc⟩:=ze (wb.setCell ⟨gx,4,none⟩ (.slice none 0 0));have oc:ag (·=gx) wb wc:=by rw[<-hwc];exact(ag.refl (·=gx) wb).zs 4
 have BC:ay wc gx 40 (Dy gd gD (.slice A k ca) (.slice A k ca) (.slice none 0 0) (.slice none 0 0) c1 o):=by rw[<-hwc];exact BB.bw 4 _
 obtain⟨wd,hwd⟩:=ze (wc.setCell ⟨gx,7,none⟩ (.int .i64 (-1)));have od:ag (·=gx) wc wd:=by rw[<-hwd];exact(ag.refl (·=gx) wc).zs 7
 have BD:ay wd gx 40 (Dy gd gD (.slice A k ca) (.slice A k ca) (.slice none 0 0) (.slice none 0 0) c1 (-1)):=by rw[<-hwd];exact BC.bw 7 _
 have HQ:(ag (·=gx) w wd/\ay wd gx 40 (Dy gd gD (.slice A k ca) (.slice A k ca) (.slice none 0 0) (.slice none 0 0) c1 (-1))):=⟨((oa.aE ob).aE oc).aE od,BD⟩;obtain⟨_,_,a2,_,_,_,_,_,_,_,af⟩:=oD BA;obtain⟨_,_,_,b3,b4,b5,_,_,_,_,bf⟩:=oD BB;obtain⟨_,_,_,_,_,_,_,c7,_,_,cf⟩:=oD BC;obtain⟨_,_,_,a3,_,_,_,_,_,_,_⟩:=oD BA;go_enter Tryz.func67,Tryz.ntmps67;go_wp2_with fail;go_end0;exact⟨rfl,HQ⟩
theorem sq(V0:ia)(f:Nat->List UInt8)(n go B r g2:Nat)(w:World)(h:Xy gx V V0 f n go B r g2 w)(hn:n<20)(hw:(f n).length<=16):
 bG 55 #[.pointer (some ⟨gx,0,none⟩)] w λe w'=>e= .returned (.bool true)/\Gl w w'/\∃V',lS gx V' f (n+1) w':=by
 have kj:V.b.count=n+1:=by have h1:=h.Ka.rM.jX;rw[Pl.ir]at h1;rw[h.b,Pl.vE,h1]
 have vS:V.b.ps.length<=10*(n+1)+1:=by rw[h.b,h.Ka.Fs zo];have:=Pl.jW (Pl.kR Pl.tM ⟨1,n,[]⟩) (Pl.auq (V0.b.count+1) (Pl.JI n (f n))) V0.b.ps;have:=h.Ka.len;dsimp only;omega
 have YC:Pl.Good (Pl.om f n) V.b:=by rw[h.b];exact h.Ka.rM.op _
 have HC:=FJ V [(r,V0.b.ps)] go B r g2 (Pl.KQ n (f n)) (Pl.om f n) w h.st (by rw[show sig (Pl.KQ n (f n)).time=(n:Int)from Eh (n:=n) zo];exact h.op) (Pl.E1 zo hw) YC (by rw[h.rm];omega) (h.lg.ok zo) (by rw[Pl.RM];omega) zo (by simp[Pl.KQ]);obtain⟨c2,lC⟩:=ze (n+2);rw[show V.b.count+1=c2 by omega]at HC;obtain⟨gd,qO⟩:=ze V.E.m.g;obtain⟨gD,iJ⟩:=ze V.gD;have hh:=h.hb;rw[qO,iJ]at hh;obtain⟨⟨vn,vs,vl,b1,b2⟩,hz⟩:=id hh;obtain⟨A,ca,Pz,_⟩:=id b2;obtain⟨k,hk⟩:=ze ((pE f (n+1)).length);rw[hk]at Pz;subst Pz;have x1:w.cell? ⟨gx,1,none⟩=some (.pointer (some ⟨gD,0,none⟩)):=b1.cell 1;unfold aU at HC;rw[iJ]at HC;have HC:=HC;have HX:=ze6 h qO iJ hw kj lC;go_enter Tryz.func55,Tryz.ntmps55;go_wp2_with fail;refine HC.mono ?_;rintro e w2 ⟨rfl,hf,nA,iw,gj,l',d',hD,⟨p,hl⟩,vT,oZ⟩;have hm:=HX.1.st.noM;have BX2:ay w2 gx 40 (Dy gd gD (.slice A k ca) vs vl (.slice none 0 0) ((n:Int)+1) 1):=hf.1.aC b1 zj (λhk=>hm _ (hk▸b1.dV));have LN2:sU w2 (.slice A k ca) (pE f (n+1)):=b2.TY hf.1 zj (λk hk=>hk▸hm _);obtain⟨be,w3,ja,fX,bg,B3⟩:=zE w2 32 [.int .i64 0,.string ⟨#[]⟩,.bool true];have HY:=ze6 hf hD hl vT oZ bg;have Lc:=BX2.aa bg BX2.lt;have ajV:=LN2.aa bg;obtain⟨x0,x1,x2,x3,x4,x5,x6,x7,x8,x9,xf⟩:=oD Lc;obtain⟨e0,e1,e2,_,_,_⟩:=dD B3;have HFA:=BW 0;have GZ:=tR 0;have q:=C8;have hwr:IntKind.i64.wrap ((n:Int)+1+1)=(c2:Int):=by rw[show(n:Int)+1+1=(c2:Int) by omega];exact aY _ zo
 have HCM:=(λW (hW:ay W gx 40 (Dy gd gD (.slice A k ca) vs vl (.slice none 0 0) ((n:Int)+1) 1))=>KB gx gd gD A k ca vs vl ((n:Int)+1) 1 W hW zj ⟨zo,zo⟩);unfold Az at HFA GZ;unfold wN;go_wp2_with fail;refine(HFA _).mono ?_;rintro e w4 ⟨rfl,cj⟩;have AG:=Lc.aa cj Lc.lt;have agx:=B3.aa cj B3.lt;obtain⟨x0,x1,x2,x3,x4,x5,x6,x7,x8,x9,xf⟩:=oD AG;obtain⟨e0,e1,e2,_,_,_⟩:=dD agx;go_wp2_with fail;refine(GZ _).mono ?_;rintro e w5 ⟨rfl,nB⟩;have F8:=AG.aa nB AG.lt;have uY:=cj.trans (nB.mono cj.size);go_wp2_with fail;refine(HCM _ F8).mono ?_;rintro e w6 ⟨rfl,o6,B6⟩;have HQ:(Gl w w6/\∃V',lS gx V' f (n+1) w6):=by
  obtain⟨hf,hD,hl,vT,oZ,bg⟩:=id HY;obtain⟨h,qO,iJ,hw,kj,lC⟩:=id HX;have Gx:=aD F8;have k35:=bg.trans (uY.mono bg.size);have hD6:=((hD.aa k35).bQ o6 Gx zj (λk hk=>hk▸hz)).sub (Zw:=[]) (λm hm=>by cases hm);have hl6:=(ajV.aa uY).frame o6 (λk hk ht=>by subst hk;exact absurd (ht.dv F8.dV) zj);refine⟨(hf.2.aE (ag.ae k35 _)).aE (o6.mono (λk _ hk=>hk▸hz)),_,hD6,?_,?_,?_,h.rm⟩
  ·have e1:(((V.put (Pl.aup V.b (Pl.KQ n (f n))) nA).log iw gj l' d').E.m.g)=gd:=qO;have e2:(((V.put (Pl.aup V.b (Pl.KQ n (f n))) nA).log iw gj l' d').gD)=gD:=iJ;rw[e1,e2];exact⟨⟨.slice A k ca,.slice A k ca,.slice none 0 0,by rw[show((n+1:Nat):Int)+1=(n:Int)+1+1 by omega];exact B6,hl6⟩,hz⟩
  ·show Un V.aA f (n+1) (Pl.aup V.b (Pl.KQ n (f n)));rw[h.b];exact h.Ka.next zo (by rw[h.rm];omega) hw
  ·have hg:=h.lg;refine⟨?_,?_,?_,?_,?_,hg.low,?_⟩
   ·show l'.bad=false;rw[hl];exact hg.bad
   ·show l'.next=n+1+1;rw[hl];show V.l.next+1=_;rw[hg.next]
   ·show l'.data=22;rw[hl];exact hg.data
   ·show l'.first=0;rw[hl];exact hg.first
   ·show d'.aW<0;rw[vT];exact hg.aW
   ·show l'.all.length=n+1+1;rw[hl];show(V.l.all++ [p]).length=_;rw[ax,dy,hg.all]
 go_wp2_with fail;go_ret;exact⟨rfl,HQ⟩
abbrev nS:Value:= .slice none 0 0
theorem aet(s:Pl.ST 0)(n:Nat):Pl.fc n (Pl.fg 0 s)<=1:=by
 have h:=Pl.xF [] (show Nat from s) n;have h0:Pl.fc n []=0:=by unfold Pl.fc;simp
 rw[h0]at h;have e:Pl.fg 0 s=[]++ [(show Nat from s)]:=rfl
 grind
theorem Nt:mq Pl.E2=[.string ⟨#[107,101,121]⟩,.int .i64 1,.string ⟨#[119,111,114,100]⟩,.int .i64 2]:=rfl
theorem SV{V:ia}(h1:V.l=lgE)(h2:V.E.d.aW<0)(h3:V.E.m.first=24):vr V 0:=by refine⟨?_,?_,?_,?_,h2,h3,?_⟩<;>rw[h1]<;>rfl
theorem aei{pb:Value}{c:Int}{gx:Nat}(h:ay w gx 40 [aU g,pb,nS,nS,nS,nS,.int .i64 c,.int .i64 (-1),.bool false,.bool false])(hf:lV gM w w')(hm:∀t,¬jh w gM t):ay w' gx 40 [aU g,pb,nS,nS,nS,nS,.int .i64 c,.int .i64 (-1),.bool false,.bool false]:=
 hf.1.aC h zj (λhk=>hm _ (hk▸h.dV))
theorem LG(h:ay w be 32 [a,b,c])(hf:lV gM w w')(hm:∀t,¬jh w gM t):ay w' be 32 [a,b,c]:=
 hf.1.aC h zj (λhk=>hm _ (hk▸h.dV))
theorem abe(w:World)(hc:Ctx w):
 bG 26 #[.int .i64 4096] w λe w'=>∃gx V,e= .returned (.tuple #[.pointer (some ⟨gx,0,none⟩),.bool true])/\Gl w w'/\lS gx V f 0 w':=by
 have HNW:=afn 4096 w;have yd:(Pl.Dk.new 4096).aV.length=4096:=by unfold Pl.Dk.new Pl.pU;rw[j9];split;omega;split<;>omega
 have acV:(Pl.Dk.new 4096).aW<0:=by show(-1:Int)<0;decide
 have amN:=Pl.aaV 4096;obtain⟨d0,Qa⟩:=ze (Pl.Dk.new 4096);rw[Qa]at yd acV amN HNW;have HD0:=zd yd acV amN;have GZ:=tR 0;unfold Az at GZ;go_enter Tryz.func26,Tryz.ntmps26;go_wp2_with fail;refine HNW.mono ?_;rintro e w1 ⟨vD,rfl,vT,aI,SU⟩;obtain⟨g,hg⟩:=ze w.heap.size;rw[hg]at vT SU|-
 have J0:∀q,dF g vD q->Zn q:=λq hq=> .inl (ao hc.lo (by rw[hg];exact SU q hq));obtain⟨gx,w2,hgx,iA,bz,BX2⟩:=zE w1 40 [.pointer (some ⟨g,0,none⟩),.pointer none,.slice none 0 0,.slice none 0 0,.slice none 0 0,.slice none 0 0,.int .i64 0,.int .i64 (-1),.bool false,.bool false];have ang:=aI.trans (bz.mono aI.size);have lC:=hc.aa ang;have HFM:=QN g vD d0 0 w2 (vT.aa bz) HD0.1 HD0.2.1 HD0.2.2 lC J0;have HZX:(Zn gx):= .inl (by rw[<-hgx];exact ao hc.lo aI.size);have x0:w2.cell? ⟨gx,0,none⟩=some (.pointer (some ⟨g,0,none⟩)):=BX2.cell 0;go_wp2_with fail;refine HFM.mono ?_;rintro e w3 ⟨rfl,J8,asr,aqg,d1,s,Fv,Pt,rN,OM,Er,hO3,apk⟩;have BX3:ay w3 gx 40 [aU g,.pointer none,nS,nS,nS,nS,.int .i64 0,.int .i64 (-1),.bool false,.bool false]:=aqg.2 _ _ _ BX2 zj;obtain⟨b5,w4,he5,qz,cj,E4⟩:=zE w3 32 [.int .i64 0,.string ⟨#[]⟩,.bool true];have hsm:Pl.fc 4072 (Pl.fg 0 s)<=1:=aet s 4072;have HOP:=QD g vD d1 Fv s 1500 w4 (Pt.aa cj) rN OM Er hO3 apk (J8.aa cj) J0 zo zj;have arV:(Gl w w4):=((ag.ae ang _).aE asr).aE (ag.ae cj _);have AG:=BX3.aa cj BX3.lt;have HZ5:(Zn b5):= .inl (by rw[<-he5];exact J8.lo);have x0:w4.cell? ⟨gx,0,none⟩=some (.pointer (some ⟨g,0,none⟩)):=AG.cell 0;unfold wN;go_wp2_with fail;refine HOP.mono ?_;rintro e w5 ⟨V,rfl,hD5,q1,q2,q3,q4,q5,q6,q7,q8,q9⟩;obtain⟨gD,iJ⟩:=ze V.gD;have Yi:ay w5 gx 40 [aU g,.pointer none,nS,nS,nS,nS,.int .i64 0,.int .i64 (-1),.bool false,.bool false]:=q8.aC AG zj (λh=>h);have E5:ay w5 b5 32 [.int .i64 0,.string ⟨#[]⟩,.bool true]:=q8.aC E4 zj (λh=>h);obtain⟨b7,w6,he7,nC,nW,E7⟩:=zE w5 32 [.int .i64 0,.string ⟨#[]⟩,.bool true];have HV:=ze6 q1 q2 q3 q4 q5 q6;have HD6:=hD5.aa nW;have asb:(Gl w w6):=(arV.aE q9).aE (ag.ae nW _);have alR:=Yi.aa nW Yi.lt;have HE6:=E5.aa nW E5.lt;have HE7:=E7;have TT:(b7≠b5):=λe=>by have:=E5.lt;omega
 have HZ7:(Zn b7):= .inl (by rw[<-he7];exact hD5.ctx.lo);obtain⟨y0,y1,y2,_,_,_⟩:=dD HE6;obtain⟨z0,z1,z2,_,_,_⟩:=dD HE7;unfold aU wN;rw[iJ];go_wp2_with fail;refine(GZ _).mono ?_;rintro e w7 ⟨rfl,yM⟩;have E7:=HE7.aa yM HE7.lt;obtain⟨z0,z1,z2,_,_,_⟩:=dD E7;go_wp2_with fail;refine(GZ _).mono ?_;rintro e w8 ⟨rfl,Ep⟩;have HB8:=yM.trans (Ep.mono yM.size);have BX8:=alR.aa HB8 alR.lt;have c1:=BX8.cell 1;have c1f:=BX8.frozen 1;simp only[au,aL]at c1;obtain⟨w9,En⟩:=ze (w8.setCell ⟨gx,1,none⟩ (.pointer (some ⟨gD,0,none⟩)));have o9:ag (·=gx) w8 w9:=by rw[<-En];exact(ag.refl (·=gx) w8).zs 1
 have BX9:ay w9 gx 40 [aU g,aU gD,nS,nS,nS,nS,.int .i64 0,.int .i64 (-1),.bool false,.bool false]:=by rw[<-En];exact BX8.bw 1 _
 have Gx:=aD BX8;have HD9:=(HD6.aa HB8).bQ o9 Gx zj (λk hk=>hk▸HZX);have HE9:=o9.cY Gx (HE6.aa HB8 HE6.lt) zj;have asn:=o9.cY Gx (HE7.aa HB8 HE7.lt) zj;have arq:(Gl w w9):=(asb.aE (ag.ae HB8 _)).aE (o9.mono (λk _ hk=>hk▸HZX));have C9:=IV V [] 1 w9 HD9;unfold aU at C9;rw[iJ]at C9;have C9:=C9;go_wp2_with fail;refine C9.mono ?_;rintro e wa ⟨rfl,hfa,go,r,g2,mJ,hDa,hgo,EX,h1,h2⟩;have hm9:=HD9.noM;have BXa:=aei BX9 hfa hm9;have Ea:=LG HE9 hfa hm9;have Ea7:=LG asn hfa hm9;obtain⟨ob,Eb⟩:=mD Ea (.int .i64 0) (.string ⟨#[]⟩) (.bool true);obtain⟨wb,p9⟩:=ze (((wa.setCell ⟨b5,0,none⟩ (.int .i64 0)).setCell ⟨b5,1,none⟩ (.string ⟨#[]⟩)).setCell ⟨b5,2,none⟩ (.bool true));rw[p9]at ob Eb;have hka:=aD Ea;have aod:=TT;have HDb:=hDa.err ob Ea HZ5;have anj:=ob.cY hka BXa zj;have amK:=ob.aC Ea7 aod;have amP:(gW go wa.heap.size 1 r g2 V.b.count [] wb):=by have hop:gW go wa.heap.size 1 r g2 V.b.count [] wa:=⟨_,hgo,OL.nil _ _,hgo.lt,ai _,ao HD9.ctx.lo h1⟩;exact hop.frame ob (λk t hk mr=>by subst hk;rw[mr.dv Ea.dV];decide)
 have aqe:(Gl w wb):=(arq.aE hfa.2).aE (ob.mono (λk _ hk=>hk▸HZ5));obtain⟨y0,y1,y2,yf0,yf1,yf2⟩:=dD Ea;obtain⟨BO,hBO⟩:=ze wa.heap.size;rw[hBO]at amP;unfold wN;obtain⟨gc,wc,hgc,hwc,TP,Bc⟩:=zE wb 121 [.string ⟨#[107,101,121]⟩,.int .i64 1,.string ⟨#[119,111,114,100]⟩,.int .i64 2];have HDc:=HDb.aa TP;have aqp:=anj.aa TP anj.lt;have HEc:=Eb.aa TP Eb.lt;have arl:=amK.aa TP amK.lt;have aro:(Gl w wc):=aqe.aE (ag.ae TP _);have Q0:(V.b=E0):=HV.1;have HCR:(bG 62 #[.pointer (some ⟨gD,0,none⟩),.string ⟨#[108,111,103]⟩,.slice (some ⟨gc,0,none⟩) 2 2] wc (aaA V [(r,V.b.ps)] go BO 1 r g2 V.b.count [] Pl.Ki wc)):=by
  have tX:Src wc (some ⟨gc,0,none⟩) (mq Pl.E2):=by rw[Nt];exact Src.dE Bc
  have hY:pW V.aA V.b Pl.Ki:=by rw[Q0,HV.2.2.2.2.1];exact SN zj
  have:=NP V [(r,V.b.ps)] go BO 1 r g2 V.b.count [] Pl.tM Pl.E2 (some ⟨gc,0,none⟩) 2 2 wc HDc (amP.aa TP) rfl zj tX zj hY (by rw[Q0];decide);unfold aU at this;rw[iJ]at this;exact this
 go_wp2_with fail;refine HCR.mono ?_;rintro e wd ⟨rfl,Gy,NS,hDd,arX⟩;have hmc:=HDc.noM;have BXd:=aei aqp Gy hmc;have Ed:=LG HEc Gy hmc;have Ed7:=LG arl Gy hmc;obtain⟨oe,Ee7⟩:=mD Ed7 (.int .i64 0) (.string ⟨#[]⟩) (.bool true);obtain⟨we,hwe⟩:=ze (((wd.setCell ⟨b7,0,none⟩ (.int .i64 0)).setCell ⟨b7,1,none⟩ (.string ⟨#[]⟩)).setCell ⟨b7,2,none⟩ (.bool true));rw[hwe]at oe Ee7;have hkd:=aD Ed7;have HDe:=hDd.err oe Ed7 HZ7;have ass:=oe.cY hkd BXd zj;have HEe:=oe.aC Ed (λe=>TT e.symm);have aqq:(gW go BO 1 r g2 V.b.count [Pl.Ki] we):=arX.frame oe (λk t hk mr=>by subst hk;rw[mr.dv Ed7.dV];decide);have aqy:(Gl w we):=(aro.aE Gy.2).aE (oe.mono (λk _ hk=>hk▸HZ7));obtain⟨y0,y1,y2,yf0,yf1,yf2⟩:=dD Ed7;have HCM:(bG 63 #[.pointer (some ⟨gD,0,none⟩)] we λe w'=>e= .returned (.tuple #[.int .i64 1,.agg #[.int .i64 0,.string ⟨#[]⟩,.bool true]])/\abE (V.put (Pl.aul V.b Pl.Ki).2 NS) 0 [(r,V.b.ps)] Pl.tx0 we w'):=by
  have kj:(V.put (Pl.aul V.b Pl.Ki).2 NS).b.count=0:=by show(Pl.aul V.b Pl.Ki).2.count=0;rw[Pl.vE,Q0];rfl
  have hcv:V.b.count=0:=by rw[Q0];rfl
  have hop:gW go BO (sig Pl.tx0.time) r g2 (V.put (Pl.aul V.b Pl.Ki).2 NS).b.count Pl.tx0.ops we:=by rw[kj,show sig Pl.tx0.time=1 from Eh (n:=1) zj];have:=aqq;rw[hcv]at this;exact this
  have qO:Pl.Good [] (V.put (Pl.aul V.b Pl.Ki).2 NS).b:=by show Pl.Good [] (Pl.aul V.b Pl.Ki).2;rw[Q0];exact Pl.Hu.op _
  have N6:su (V.put (Pl.aul V.b Pl.Ki).2 NS):=by have h0:vr V 0:=SV HV.2.1 (by rw[HV.2.2.1];exact rN) HV.2.2.2.1;have:=h0.ok zj;exact⟨this.bad,this.fit,this.aW,this.low,this.few⟩
  have:=FJ (V.put (Pl.aul V.b Pl.Ki).2 NS) [(r,V.b.ps)] go BO r g2 Pl.tx0 [] we HDe hop Pl.Fe qO (by
   show(Pl.aul V.b Pl.Ki).2.ps.length+20<=V.aA;rw[Q0,HV.2.2.2.2.1];decide) N6 (by rw[Pl.Js];decide) (by rw[kj];decide) (by simp[Pl.tx0])
  rw[kj]at this;unfold aU wN at this;rw[show(V.put (Pl.aul V.b Pl.Ki).2 NS).gD=gD from iJ]at this;exact this
 unfold wN;go_wp2_with fail;refine HCM.mono ?_;rintro e wf ⟨rfl,hff,gt4,iw,gj,l',d',hDf,⟨p,hl⟩,vT,oZ⟩;have hme:=HDe.noM;have BXf:=aei ass hff hme;have Ef:=LG HEe hff hme;have Ef7:=LG Ee7 hff hme;obtain⟨b11,wg,atB,hwg,IH,E11⟩:=zE wf 32 [.int .i64 0,.string ⟨#[]⟩,.bool true];have HDg:=sS (hDf.aa IH) hl vT oZ;have apd:=BXf.aa IH BXf.lt;have amT:=Ef7.aa IH Ef7.lt;have afe:=E11;have arS:(Gl w wg):=(aqy.aE hff.2).aE (ag.ae IH _);have Eg:=Ef.aa IH Ef.lt;obtain⟨y0,y1,y2,_,_,_⟩:=dD Eg;go_wp2_with fail;refine(GZ _).mono ?_;rintro e wh ⟨rfl,hbh⟩;have Eh7:=amT.aa hbh amT.lt;obtain⟨y0,y1,y2,_,_,_⟩:=dD Eh7;go_wp2_with fail;refine(GZ _).mono ?_;rintro e wi ⟨rfl,Yn⟩;have HBI:=hbh.trans (Yn.mono hbh.size);have Ei:=afe.aa HBI afe.lt;obtain⟨y0,y1,y2,_,_,_⟩:=dD Ei;go_wp2_with fail;refine(GZ _).mono ?_;rintro e wj ⟨rfl,hbj⟩;have HBJ:=HBI.trans (hbj.mono HBI.size);have BXj:=apd.aa HBJ apd.lt;have c6:=BXj.cell 6;have c6f:=BXj.frozen 6;simp only[au,aL]at c6;obtain⟨wk,hwk⟩:=ze (wj.setCell ⟨gx,6,none⟩ (.int .i64 1));have ok_:ag (·=gx) wj wk:=by rw[<-hwk];exact(ag.refl (·=gx) wj).zs 6
 have BXk:ay wk gx 40 [aU g,aU gD,nS,nS,nS,nS,.int .i64 1,.int .i64 (-1),.bool false,.bool false]:=by rw[<-hwk];exact BXj.bw 6 _
 have HQ:(Gl w wk/\∃V',lS gx V' f 0 wk):=by
  have hkj:=aD BXj;obtain⟨hDg,hl,vT,oZ⟩:=id HDg;obtain⟨q1,q2,q3,q4,q5,q6⟩:=id HV;refine⟨(arS.aE (ag.ae HBJ _)).aE (ok_.mono (λk _ hk=>hk▸HZX)),_,((hDg.aa HBJ).bQ ok_ hkj zj (λk hk=>hk▸HZX)).sub (Zw:=[]) (λm hm=>by cases hm),?_,?_,?_,q5⟩
  ·show DY gx V.E.m.g V.gD f 0 0 (-1) wk;rw[q6,iJ];exact⟨⟨nS,nS,nS,BXk,sU.nil _⟩,HZX⟩
  ·show Un V.aA f 0 (Pl.aup (Pl.aul V.b Pl.Ki).2 Pl.tx0);rw[Q0,q5];exact Un.first f zj
  ·have h0:vr V 0:=SV q2 (by rw[q3];exact rN) q4;refine⟨?_,?_,?_,?_,?_,h0.low,?_⟩
   ·show l'.bad=false;rw[hl];exact h0.bad
   ·show l'.next=0+1;rw[hl];show V.l.next+1=_;rw[h0.next]
   ·show l'.data=22;rw[hl];exact h0.data
   ·show l'.first=0;rw[hl];exact h0.first
   ·show d'.aW<0;rw[vT];exact h0.aW
   ·show l'.all.length=0+1;rw[hl];show(V.l.all++ [p]).length=_;rw[ax,dy,h0.all]
 go_wp2_with fail;go_ret2;obtain⟨h1,V',h2⟩:=id HQ;exact⟨gx,V',rfl,h1,h2⟩
theorem Ew(L:List UInt8)(n:Nat)(hn:L.length=n)(cs:Array Value)(hcs:cs.toList=bv L)(w w1:World)(dj:w.alloc (.cells cs 5)=w1):
 (convert 29 9 (.slice (some ⟨w.heap.size,0,none⟩) n n)).run Tryz.prog w1= .ok (.string (ar L)) w1:=by
 subst hn;have hB:aw w1 (some ⟨w.heap.size,0,none⟩) L:=by
  have h1:ay w1 w.heap.size 5 (bv L):=by rw[<-dj,<-hcs];exact ay.new w 5 _
  exact(Src.dE h1).bytes
 exact dQ w1 (some ⟨w.heap.size,0,none⟩) L L.length hB
theorem aaU.aa{gx:Nat}{V:ia}{f:Nat->List UInt8}{n go B r g2:Nat}{w w':World}(h:aaU gx V f n go B r g2 w)(hb:Below w.heap.size w w'):aaU gx V f n go B r g2 w':=
 ⟨h.st.aa hb,h.op.aa hb,h.hb.aa hb,h.Ka,h.lg,h.rm⟩
theorem acF(sc:ByteArray)(j k:Nat)(hk:k<sc.size)(e:j%sc.size=k)(c:UInt8)(hc:sc[k]=c):sc.data.toList.getD (j%sc.data.toList.length) 0=c:=by have hl:sc.data.toList.length=sc.size:=rfl;rw[hl,e,tY,aF zo];exact hc
theorem Ha(sc:ByteArray)(dm c:Int)(t n m h a:Nat)(w:World)(hc:Ctx w)(ht:t<=1)(hn:ko dm 10+2=(n:Int))(mV:2<=n/\n<=11)(hm:(n+1)/3*3=m+1)(hh:ko c (m:Int)=(h:Int))(ha:ko c 50=(a:Int))(aaR:a<50)
 (yT: -9223372036854775808<=dm/\dm<=9223372036854775807) (hcc: -9223372036854775808<=c/\c<=9223372036854775807) (IQ:sc.size<=9223372036854775807):
 bG 22 #[.string sc,.int .i64 dm,.int .i64 c,.int .u8 (t:Nat)] w λe w'=>∃gx V,e= .returned (.tuple #[.pointer (some ⟨gx,0,none⟩),.bool true])/\Gl w w'/\lS gx V (Pl.pM sc.data.toList h a t) n w':=by
 obtain⟨y,hy⟩:∃y:Nat,ko dm 10=(y:Int):=⟨n-2,zo⟩;have hP1:=λW=>EK dm 10 W yT ⟨zo,zo⟩;have hP2:=λW=>EK c (m:Int) W hcc ⟨zo,zo⟩;have hP3:=λW=>EK c 50 W hcc ⟨zo,zo⟩;rw[hy]at hP1;rw[hh]at hP2;rw[ha]at hP3;have q2:(2:Int)+(y:Int)=(n:Int):=zo;have C9:=zi (abe (Pl.pM sc.data.toList h a t) w hc);obtain⟨q,hq⟩:=ze ((n+1)/3);have hq1:((n:Int)+1).tdiv 3=(q:Int):=by rw[Hv zo];omega
 have Yg:(q:Int)*3-1=(m:Int):=zo;obtain⟨q3,hq3⟩:∃q3:Nat,(q:Int)*3=(q3:Int):=⟨q*3,zo⟩;have hq4:(q3:Int)-1=(m:Int):=zo;have dj:IntKind.i64.wrap ((n:Int)+1)=(n:Int)+1:=aY _ zo;have iA:IntKind.i64.wrap ((q:Int)*3)=(q3:Int):=by rw[hq3];exact aY _ zo
 have fX:IntKind.i64.wrap ((q3:Int)-1)=(m:Int):=by rw[hq4];exact aY _ zo
 have qz:IntKind.i64.wrap ((2:Int)+(y:Int))=(n:Int):=by rw[q2];exact aY _ zo
 have hq5:IntKind.i64.wrap (q:Int)=(q:Int):=aY _ zo;obtain⟨YE,PI⟩:=dz mV IQ;clear hn yT hcc hc hh ha hm hq Yg hq3 hq4 q2;go_enter Tryz.func22,Tryz.ntmps22;go_wp2_with fail;refine C9.mono ?_;rintro e w1 ⟨gx,V0,rfl,nY,WZ⟩;go_wp2_with fail;refine(hP1 _).mono ?_;rintro e w' ⟨rfl,rfl⟩;go_wp2_with fail
 go_loopw [11,13] (λok i wr=>∃(j:Nat) (V:ia),j<=n/\ok= .bool true/\i= .int .i64 (j:Int)/\Hid (Gl w wr)/\Hid (lS gx V (Pl.pM sc.data.toList h a t) j wr)) (λ_ i _=>n-(intOf i).toNat)
 case atStart=>exact⟨0,V0,aM _,rfl,rfl,nY,WZ⟩
 case round=>
  obtain⟨j,V,hj,rfl,rfl,HGL,HFG⟩:=hrel;by_cases hjn:j<n
  ·have q1:(j:Int)<(n:Int):=zo;have Gs:=zi (Wq gx V (Pl.pM sc.data.toList h a t) j wr HFG (zA YE.out));go_wp2_with fail;refine Gs.mono ?_;rintro e w2 ⟨rfl,rQ,go,B,r,g2,hop⟩;have HGO:Hid (∀W,Below w2.heap.size w2 W->Gl w W):=λW hW=>(HGL.aE rQ).aE (ag.ae hW _);have ahi:Hid (∀W,Below w2.heap.size w2 W->bG 15 #[.pointer (some ⟨gx,0,none⟩),.int .i64 0,.int .i64 (j:Nat),.string (ar (Pl.pM sc.data.toList h a t j))] W λe w'=>e= .returned (.bool true)/\Gl W w'/\∃V',Xy gx V' V (Pl.pM sc.data.toList h a t) j go B r g2 w'):=λW hW=>P6 gx V (Pl.pM sc.data.toList h a t) j go B r g2 W (hop.aa hW) (zA YE.out) (Pl.pq _ _ _ _ _);have atG:=YE.out;have hjw:IntKind.i64.wrap ((j:Int)+1)=(j:Int)+1:=aY _ zo;clear rQ hop;go_wp2_with fail;refine(hP2 _).mono ?_;rintro e w' ⟨rfl,rfl⟩;by_cases hjh:j=h
   ·subst hjh;obtain⟨b0,pL⟩:∃y:Nat,40+a+t=y:=⟨_,rfl⟩;obtain⟨b1,aI⟩:∃y:Nat,122-33*t=y:=⟨_,rfl⟩;have hi1:IntKind.i64.wrap (40+(a:Int))=40+(a:Int):=aY _ zo;have hu1:IntKind.u8.wrap (40+(a:Int))=40+(a:Int):=uT _ zo;have hu2:IntKind.u8.wrap (40+(a:Int)+(t:Int))=(b0:Int):=by rw[show 40+(a:Int)+(t:Int)=(b0:Int) by omega];exact uT _ zo
    have hu3:IntKind.u8.wrap (33*(t:Int))=33*(t:Int):=uT _ zo;have hu4:IntKind.u8.wrap (122-33*(t:Int))=(b1:Int):=by rw[show 122-33*(t:Int)=(b1:Int) by omega];exact uT _ zo
    obtain⟨wq,hwq,yj⟩:=zF w2 (.cells #[.int .u8 (b0:Nat),.int .u8 (b1:Nat)] 5);have hcs:(#[.int .u8 (b0:Nat),.int .u8 (b1:Nat)]:Array Value).toList=bv [UInt8.ofNat b0,UInt8.ofNat b1]:=by
     have e0:(UInt8.ofNat b0).toNat=b0:=by simp;omega
     have e1:(UInt8.ofNat b1).toNat=b1:=by simp;omega
     simp[bv,e0,e1]
    have hcv:=Ew [UInt8.ofNat b0,UInt8.ofNat b1] 2 rfl #[.int .u8 (b0:Nat),.int .u8 (b1:Nat)] hcs w2 wq hwq;have pT:=bK [UInt8.ofNat b0,UInt8.ofNat b1];have og:=sF [119] [UInt8.ofNat b0,UInt8.ofNat b1];obtain⟨sa,hsa⟩:=ze (ar [UInt8.ofNat b0,UInt8.ofNat b1]);rw[hsa]at hcv og pT;have uB:sa.size=2:=pT;have og:(⟨#[119]⟩++sa:ByteArray)=ar [119,UInt8.ofNat b0,UInt8.ofNat b1]:=og;have aou:(ar [119,UInt8.ofNat b0,UInt8.ofNat b1]).size=3:=bK _;obtain⟨sb,Lu⟩:=ze (ar [119,UInt8.ofNat b0,UInt8.ofNat b1]);rw[Lu]at og aou;have U9:Hid (ar [119,UInt8.ofNat b0,UInt8.ofNat b1]=sb):=Lu;have xC:Hid (Pl.pM sc.data.toList j a t j=[119,UInt8.ofNat b0,UInt8.ofNat b1]++(if sc.data.toList=[]then[]else[sc.data.toList.getD (j%sc.data.toList.length) 0])):=by rw[Hid];unfold Pl.pM;rw[ah rfl,pL,aI]
    clear hcs pT hsa Lu pL aI;go_wp2_with fail;refine(hP3 _).mono ?_;rintro e w' ⟨rfl,rfl⟩;by_cases Fl:sc.size=0
    ·have q3:¬((sc.size:Int)>0):=zo;have q4:decide ((sc.size:Int)>0)=false:=aH q3;have hwd:ar (Pl.pM sc.data.toList j a t j)=sb:=by rw[<-U9.out];congr 1;have:sc.data.toList=[]:=qo Fl;rw[xC.out,ah this,dH]
     have uy:=ahi;unfold Hid at uy;rw[hwd]at uy;have uy:=zi uy;clear Fl hwd;go_wp2_with fail;refine(uy wq yj).mono ?_;rintro e w5 ⟨rfl,JC,V5,h5⟩;have HCO:=zi (sq gx V5 V (Pl.pM sc.data.toList j a t) j go B r g2 w5 h5 zo (Pl.pq _ _ _ _ _));have HG5:Hid (Gl w w5):=(HGO wq yj).aE JC;clear JC h5;go_wp2_with fail;refine HCO.mono ?_;rintro e w6 ⟨rfl,Ai,V6,h6⟩;have Ui:Hid (Gl w w6):=HG5.aE Ai;clear Ai;go_wp2_with fail;exact⟨⟨j+1,V6,zo,rfl,by go_num,Ui,h6⟩,by simp[intOf];omega⟩
    ·have q3:(sc.size:Int)>0:=zo;have q4:decide ((sc.size:Int)>0)=true:=aQ q3;have q5:¬(sc.size:Int)=0:=zo;have q6:((sc.size:Int)==0)=false:=by simpa using q5
     obtain⟨k,hk,pK⟩:∃k:Nat,k<sc.size/\j%sc.size=k:=⟨j%sc.size,Nat.mod_lt _ zo,rfl⟩;have Mw:(j:Int).tmod (sc.size:Int)=(k:Int):=by rw[oz zo,<-pK];simp
     have hk4:(k:Int)<(sc.size:Int):=zo;have hkw:IntKind.i64.wrap (k:Int)=(k:Int):=aY _ (zA PI.out);obtain⟨cc,hcc⟩:=ze (sc[k]);have P7:=acF sc j k hk pK cc hcc;obtain⟨wz,XP⟩:=ze ((wq).alloc (.cells #[.int .u8 ((cc.toNat:Nat):Int)] 5));have CU:Below (wq).heap.size (wq) wz:=by rw[<-XP];exact ij _ _
     have HBZ:=zi ((yj).trans (CU.mono (yj).size));have hcv:=Ew [cc] 1 rfl #[.int .u8 ((cc.toNat:Nat):Int)] rfl (wq) wz XP;have pT:=bK [cc];have og:=sF [119,UInt8.ofNat b0,UInt8.ofNat b1] [cc];rw[U9.out]at og;obtain⟨s1,ma⟩:=ze (ar [cc]);rw[ma]at hcv og pT;have uB:s1.size=1:=pT;obtain⟨s2,nX⟩:=ze (ar ([119,UInt8.ofNat b0,UInt8.ofNat b1]++ [cc]));rw[nX]at og;have hwd:ar (Pl.pM sc.data.toList j a t j)=s2:=by
      rw[<-nX];congr 1
      have:sc.data.toList≠ []:=λe=>Fl (by have:sc.data.toList.length=0:=by rw[e];rfl
                                          exact this)
      rw[xC.out,aj this,P7]
     have uy:=ahi;unfold Hid at uy;rw[hwd]at uy;have uy:=zi uy;clear Fl hwd P7 ma nX pT CU;go_wp2_with fail;refine(uy wz HBZ).mono ?_;rintro e w5 ⟨rfl,JC,V5,h5⟩;have HCO:=zi (sq gx V5 V (Pl.pM sc.data.toList j a t) j go B r g2 w5 h5 zo (Pl.pq _ _ _ _ _));have HG5:Hid (Gl w w5):=(HGO wz HBZ).aE JC;clear JC h5;go_wp2_with fail;refine HCO.mono ?_;rintro e w6 ⟨rfl,Ai,V6,h6⟩;have Ui:Hid (Gl w w6):=HG5.aE Ai;clear Ai;go_wp2_with fail;exact⟨⟨j+1,V6,zo,rfl,by go_num,Ui,h6⟩,by simp[intOf];omega⟩
   ·have q2:((j:Int)==(h:Int))=false:=b9.2 zo;have q2':¬(j:Int)=(h:Int):=zo;have aou:(⟨#[119,111,114,100]⟩:ByteArray).size=4:=rfl;have U9:Hid (ar [119,111,114,100]=⟨#[119,111,114,100]⟩):=rfl;have xC:Hid (Pl.pM sc.data.toList h a t j=[119,111,114,100]++(if sc.data.toList=[]then[]else[sc.data.toList.getD (j%sc.data.toList.length) 0])):=by rw[Hid];unfold Pl.pM;rw[aj hjh]
    have eY:Hid (Below w2.heap.size w2 w2):=ak _ _;clear hjh;by_cases Fl:sc.size=0
    ·have q3:¬((sc.size:Int)>0):=zo;have q4:decide ((sc.size:Int)>0)=false:=aH q3;have hwd:ar (Pl.pM sc.data.toList h a t j)=⟨#[119,111,114,100]⟩:=by rw[<-U9.out];congr 1;have:sc.data.toList=[]:=qo Fl;rw[xC.out,ah this,dH]
     have uy:=ahi;unfold Hid at uy;rw[hwd]at uy;have uy:=zi uy;clear Fl hwd;go_wp2_with fail;refine(uy w2 eY).mono ?_;rintro e w5 ⟨rfl,JC,V5,h5⟩;have HCO:=zi (sq gx V5 V (Pl.pM sc.data.toList h a t) j go B r g2 w5 h5 zo (Pl.pq _ _ _ _ _));have HG5:Hid (Gl w w5):=(HGO w2 eY).aE JC;clear JC h5;go_wp2_with fail;refine HCO.mono ?_;rintro e w6 ⟨rfl,Ai,V6,h6⟩;have Ui:Hid (Gl w w6):=HG5.aE Ai;clear Ai;go_wp2_with fail;exact⟨⟨j+1,V6,zo,rfl,by go_num,Ui,h6⟩,by simp[intOf];omega⟩
    ·have q3:(sc.size:Int)>0:=zo;have q4:decide ((sc.size:Int)>0)=true:=aQ q3;have q5:¬(sc.size:Int)=0:=zo;have q6:((sc.size:Int)==0)=false:=by simpa using q5
     obtain⟨k,hk,pK⟩:∃k:Nat,k<sc.size/\j%sc.size=k:=⟨j%sc.size,Nat.mod_lt _ zo,rfl⟩;have Mw:(j:Int).tmod (sc.size:Int)=(k:Int):=by rw[oz zo,<-pK];simp
     have hk4:(k:Int)<(sc.size:Int):=zo;have hkw:IntKind.i64.wrap (k:Int)=(k:Int):=aY _ (zA PI.out);obtain⟨cc,hcc⟩:=ze (sc[k]);have P7:=acF sc j k hk pK cc hcc;obtain⟨wz,XP⟩:=ze ((w2).alloc (.cells #[.int .u8 ((cc.toNat:Nat):Int)] 5));have CU:Below (w2).heap.size (w2) wz:=by rw[<-XP];exact ij _ _
     have HBZ:=zi ((eY).trans (CU.mono (eY).size));have hcv:=Ew [cc] 1 rfl #[.int .u8 ((cc.toNat:Nat):Int)] rfl (w2) wz XP;have pT:=bK [cc];have og:=sF [119,111,114,100] [cc];rw[U9.out]at og;obtain⟨s1,ma⟩:=ze (ar [cc]);rw[ma]at hcv og pT;have uB:s1.size=1:=pT;obtain⟨s2,nX⟩:=ze (ar ([119,111,114,100]++ [cc]));rw[nX]at og;have hwd:ar (Pl.pM sc.data.toList h a t j)=s2:=by
      rw[<-nX];congr 1
      have:sc.data.toList≠ []:=λe=>Fl (by have:sc.data.toList.length=0:=by rw[e];rfl
                                          exact this)
      rw[xC.out,aj this,P7]
     have uy:=ahi;unfold Hid at uy;rw[hwd]at uy;have uy:=zi uy;clear Fl hwd P7 ma nX pT CU;go_wp2_with fail;refine(uy wz HBZ).mono ?_;rintro e w5 ⟨rfl,JC,V5,h5⟩;have HCO:=zi (sq gx V5 V (Pl.pM sc.data.toList h a t) j go B r g2 w5 h5 zo (Pl.pq _ _ _ _ _));have HG5:Hid (Gl w w5):=(HGO wz HBZ).aE JC;clear JC h5;go_wp2_with fail;refine HCO.mono ?_;rintro e w6 ⟨rfl,Ai,V6,h6⟩;have Ui:Hid (Gl w w6):=HG5.aE Ai;clear Ai;go_wp2_with fail;exact⟨⟨j+1,V6,zo,rfl,by go_num,Ui,h6⟩,by simp[intOf];omega⟩
  ·obtain rfl:j=n:=zo;have q1:¬(j:Int)<(j:Int):=zo;have q1':decide ((j:Int)<(j:Int))=false:=aH q1;go_wp2_with fail;go_ret2;exact⟨gx,rfl,HGL,V,HFG⟩
end Go.Proofs.YtbhpofdafhahgaaGreatDoor
