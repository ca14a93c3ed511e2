/- Part 10: WalI WalJ WalK WalL WalM WalN WalO WalS. -/
import Derived.Test.YtbhpofdafhahgaaGreatDoorMq9
set_option linter.all false
set_option maxHeartbeats 8000000
set_option maxRecDepth 100000
namespace Go.Proofs.YtbhpofdafhahgaaGreatDoor
open Go.RowKit
variable {gl g k:Nat} {v va:Value} {vs:List Value} {rd:Int} {l:Pl.Lg} {p s:List UInt8} {w w':World}
variable (d:Pl.Dk)
def kY(gl g:Nat)(v va:Value)(d:Pl.Dk)(rd:Int)(l:Pl.Lg)(p:List UInt8)(w:World)(e:Ending)(w':World):Prop:=
 ∃iw gj,Ends (d.run (Pl.dw l p)).2 3 e/\dB w' gl g v iw gj (d.run (Pl.dw l p)).1 rd (if(d.run (Pl.dw l p)).2 then Pl.aci l p else l)/\Sep w va iw/\GA w va gj/\ag (uq gl g v va) w w'
theorem kY.stop{d dk:Pl.Dk}(nT:w.ownsRow 0 29 1 va l.all.length vs)(hk:k<Pl.chunks p.length)(h1:1<=p.length)(h:d.run ((Pl.dw l p).take k)=(dk,true))(fK:dk.alive=false)
 (hd:dB w' gl g v va vs (dk.change (Pl.Fm l p k)) rd l) (ho:ag (uq gl g v va) w w'):kY gl g v va d rd l p w (xV 3) w':=by
 have:=Pl.H8 ((Pl.dw l p).drop (k+1)) h fK (c:=Pl.Fm l p k);rw[<-Pl.Gg l p k hk h1]at this;unfold kY;rw[this];exact⟨va,vs,Ends.no 3,hd,Sep.refl _ _,GA.refl nT,ho⟩
def ajH(w:World)(N:Nat->Prop)(x:Value)(l:List UInt8):Prop:=∃A aB,x= .slice A l.length aB/\l.length<=aB/\aw w A l/\∀q,A=some q->N q.block
theorem MX{aq n size:Nat}{e:TypeId}{xs:List Value}(h:w.ownsRow aq e size v n xs):v.oneCell'=true:=by obtain⟨A,aB,rfl,_⟩:=bJ h;rfl
theorem uL{v2 v4:Value}{d dk:Pl.Dk}{nx:Nat}{W1 W3 W4:World}{B:Nat}(hBw:w.heap.size<=B)(hst:dB w gl g v va vs d rd l)(uX:ag (lF gl g v) w W1)(hkd:bR (dF g v) w [108,190])(vT:aJ W1 g v dk rd)
 (akd:dW W4 gl g va {l with next:=nx+k}) (TQ:W3.grownBy W4 va.ownBlock) (eF:W4.ownsRow 0 29 1 v4 (l.all.length+1) (vs++ [v2])) (kW:W3.ownsRow B 5 1 v2 p.length (bv p)) (bg:dP W1 W3) (yT:v4.ownBlock=va.ownBlock\/v4.ownBlock=some W3.heap.size)
 (ED:l.next=nx) (yt:Pl.chunks p.length=k) (h1:1<=p.length) (hr:d.run ((Pl.dw l p).take k)=(dk,true)):
 kY gl g v va d rd l p w (.returned (.tuple #[])) (W4.setCell ⟨gl,5,none⟩ v4):=by
 subst ED yt;have Md:(Pl.dw l p).take (Pl.chunks p.length)=Pl.dw l p:=dx (by rw[Pl.oo l p h1];omega);rw[Md]at hr;unfold kY;rw[hr];have Sa:=CW hst.gq hst.cells;have aix:=hst.rows.only uX Sa zj zj;have VM:=aix.aa bg;have Pt:=vT.aa bg;have aoV:∀(x:Nat) (t:TypeId),jh W3 x t->t≠29->some x≠va.ownBlock:=λx t hx ht e=>ht (hx.dv (dc VM.own e.symm));have my:ag (λx=>va.ownBlock=some x) W3 W4:=⟨TQ.os,TQ.tape,TQ.output,TQ.size,λx hx hn=>TQ.block x hx (λe=>zw)⟩;have hkv:bR (λx=>va.ownBlock=some x) W3 [29]:=λx hx=>⟨_,zu,dc VM.own hx⟩;have hd4:=Pt.JE my hkv zj zj;have kF:ag (·=gl) W4 (W4.setCell ⟨gl,5,none⟩ v4):=(ag.refl (·=gl) W4).setCell (p:=⟨gl,5,none⟩) zu _;have PB:bR (·=gl) W4 [252]:=by rintro x rfl;exact⟨_,zu,akd.aC.dV⟩
 have hv2:W3.ownsRow 0 5 1 v2 p.length (bv p):=by exact yn kW zo
 refine⟨v4,vs++ [v2],Ends.rM 3,⟨hd4.JE kF PB zj zj,⟨akd.aC.bw 5 v4,akd.small⟩,⟨?_,?_⟩⟩,?_,?_,?_⟩
 ·have:(l.all++ [p]).length=l.all.length+1:=by simp
  show(W4.setCell ⟨gl,5,none⟩ v4).ownsRow 0 _ 1 v4 (l.all++ [p]).length (vs++ [v2]);rw[this];exact kF.F9 PB eF zj
 ·intro i u x hu hx;have PD:vs.length=l.all.length:=by simpa using hst.rows.own.1
  change (l.all++ [p])[i]?=some x at hx;rcases eJ i l.all.length with h'|h'
  ·rw[kc zo]at hu;rw[kc h']at hx;exact kF.F9 PB (my.F9 hkv (VM.each i u x hu hx) zj) zj
  ·have hi:i=l.all.length:=by
    grind
   subst hi;rw[iI zo,jT]at hx;rw[<-PD,iI zo,jT]at hu;simp at hu hx;subst hu hx;exact kF.F9 PB (my.F9 hkv hv2 zj) zj
 ·intro b hb;rcases yT with e|e
  ·grind
  ·right;rw[e]at hb;have h1:=uX.size;have h2:=bg.size
   grind
 ·intro u hu y hy hl n' vs2 h2;rw[QT h2 hst.rows.own];rcases eQ.1 hu with hm|hm
  ·exact hm
  ·rw[dU]at hm;subst hm;have:=(kW.lt y hy).1;omega
 ·have h6:=(uX.mono (λ_ _ h=>(.inl h:uq gl g v va _))).aa bg;have h7:=h6.trans my zS;exact h7.trans kF (λ_ _ h=> .inl (.inr h))
theorem RY(gl g bp bl bc:Nat)(v va:Value)(vs:List Value)(d:Pl.Dk)(rd:Int)(l:Pl.Lg)(p:List UInt8)(A:Option Addr)(aB:Nat)(w:World)(h:dB w gl g v va vs d rd l)
 (hP:ay w bp 29 [.slice A p.length aB]) (hL:ay w bl 139 [.pointer (some ⟨gl,0,none⟩)]) (hC:ay w bc 3 [.int .i64 (Pl.chunks p.length:Nat)])
 (ait:va.ownBlock≠some bp) (hb:aw w A p) (hA:∀q,A=some q->q.block<w.heap.size/\¬uq gl g v va q.block) (fo:p.length<=aB) (h1:1<=p.length) (h2:p.length<=2000) (hroom:l.next+Pl.chunks p.length<=l.data) (jn:l.first+2+l.data<=d.aV.length) (kD:l.all.length<=5000):
 bG 277 #[.pointer (some ⟨bp,0,none⟩),.pointer (some ⟨bl,0,none⟩),.pointer (some ⟨bc,0,none⟩)] w (kY gl g v va d rd l p w):=by
 obtain⟨wu,Vr⟩:=dz h h.gq.kinds;have hsm:=h.cells.small;have HBY:=zi hb;obtain⟨a0,a1,a2,a3,a4,a5,a6,b0,b1,b2,b3,b4,b5,b6⟩:=gg h.cells.aC;obtain⟨cP,_⟩:=bP hP;obtain⟨cL,_⟩:=bP hL;obtain⟨nx,ED⟩:=ze l.next;obtain⟨ck,yt⟩:=ze (Pl.chunks p.length);rw[ED]at a4 hroom;rw[yt]at hroom;have hsz:=wu.cells.aC.lt;clear h hb;go_enter Tryz.func277,Tryz.ntmps277;go_wp2_with fail;clear a0 a1 a2 a3 a4 a5 a6 b0 b1 b2 b3 b4 b5 b6 cP cL
 go_loopw [3,4] (λx i W=>∃(k:Nat) (dk:Pl.Dk),k<=ck/\i= .int .i64 ((nx+k:Nat):Int)/\Hid (ajH W (λb=>b<w.heap.size/\¬uq gl g v va b) x (p.drop (240*k)))/\Hid (d.run ((Pl.dw l p).take k)=(dk,true))/\Hid (aJ W g v dk rd)/\Hid (ag (dF g v) w W)) (λ_ i _=>nx+ck-(intOf i).toNat)
 case atStart=>exact⟨0,d,aM _,zu,⟨A,aB,rfl,fo,HBY,λq hq=>hA q hq⟩,rfl,wu.gq,ag.refl _ _⟩
 case round=>
  obtain⟨k,dk,hk,rfl,HLF,HR,HDk,HO⟩:=hrel;obtain⟨CG,zW,HBC⟩:=kt (wu.cells.only HO Vr zj) (HO.cY Vr hL zj) (HO.cY Vr hC zj);obtain⟨a0,a1,a2,a3,a4,a5,a6,b0,b1,b2,b3,b4,b5,b6⟩:=gg CG.aC;obtain⟨cL,_⟩:=bP zW;obtain⟨cC,_⟩:=bP HBC;rw[ED]at a4;rw[yt]at cC;have hwn:IntKind.i64.wrap ((nx:Int)+ck)=(nx:Int)+ck:=aY _ zo;have Ue:(0:Int)<=(nx:Int)+ck:=zo;clear b0 b1 b2 b3 b4 b5 b6 a1 a2 a5 a6;by_cases hkc:k<ck
  ·have hlt:((nx+k:Nat):Int)<(nx:Int)+ck:=zo;obtain⟨A2,fC,rfl,lC,bz,Yg⟩:=HLF.out;have s9:(p.drop (240*k)).length=p.length-240*k:=bT;obtain⟨rest,jy⟩:=ze (p.drop (240*k));have PH:240*k<p.length:=Pl.SK (by rw[yt];exact hkc);rw[jy]at s9 lC bz|-
   have hch:Pl.Fm l p k= .wr (l.dm (nx+k)) (Pl.dh l.eE (nx+k) (decide (240<rest.length)) (rest.take 240)):=by unfold Pl.Fm;rw[jy,ED,s9]
   have uy:=zi hch;obtain⟨m,hm⟩:=ze rest.length;rw[hm]at s9 lC|-
   have hmm:1<=m/\m<=2000:=zo;obtain⟨eY,HM⟩:=dz bz hm;clear s9 PH hch bz hm;obtain⟨cl,CC⟩:=ze (min 240 m);have Ku:1<=cl/\cl<=240/\cl<=m/\(m<240->cl=m)/\(240<=m->cl=240):=zo;clear CC;go_wp2_with fail;go_quiet (fail);have yj:Below wr.heap.size wr (wr.drewN nq):=below_drewN (ak _ _) nq;obtain⟨Km,Gj,Y1,ajc⟩:=yx (CG.aa yj) (zW.aa yj zW.lt) (HDk.aa yj) (eY.bQ yj);obtain⟨W0,hW0⟩:=ze (wr.drewN nq);rw[hW0]at yj Km Gj Y1 ajc|-
   clear hW0
   go_upto_region 4 with fail
   go_cut [5]from 14 to 66 (λs5 wx=>s5= .int .i64 (cl:Nat)/\W0=wx)
   case first=>
    obtain⟨x1,x2,x3,x4,x5⟩:=id Ku;rcases Nat.lt_trichotomy m 240 with hlt|heq|Ub
    ·have q1:(m:Int)<240:=zo;have q2:¬(240:Int)<m:=zo;have q3:¬(240:Int)<=m:=zo;have q4:(m:Int)<=240:=zo;obtain rfl:=x4 hlt;go_wp2_with fail;go_meet
     case rel=>exact⟨rfl,rfl⟩
    ·subst heq;obtain rfl:=x5 (ai _);go_wp2_with fail;go_meet
     case rel=>exact⟨rfl,rfl⟩
    ·have q1:¬(m:Int)<240:=zo;have q2:(240:Int)<m:=zo;have q3:(240:Int)<=m:=zo;have q4:¬(m:Int)<=240:=zo;obtain rfl:=x5 zo;go_wp2_with fail;go_meet
     case rel=>exact⟨rfl,rfl⟩
   case rest=>
   obtain⟨rfl,rfl⟩:=hcut;obtain⟨a0,a1,a2,a3,a4,a5,a6,b0,b1,b2,b3,b4,b5,b6⟩:=gg Km.aC;obtain⟨cL,_⟩:=bP Gj;rw[ED]at a4;clear a1 a2 a5 a6 b0 b1 b2 b3 b4 b5 b6 cC
   go_upto_region 6 with fail
   obtain⟨b,hb⟩:=ze W0.heap.size;obtain⟨W1,tC⟩:=ze (W0.alloc (.cells #[.pointer none,.slice none 0 0] 387));have J6:Vn W1 b b false []:=⟨ai _,.slice none 0 0,by rw[<-tC];exact ay.newAt _ _ _ _ hb.symm,dA _ _ _ _⟩;have aI:=zb tC;have ma:W1.heap.size=b+1:=by rw[<-tC,<-hb];simp
   rw[hb,tC];obtain⟨Sp,uW,nZ,ach⟩:=yx ma (Km.aa aI) (Gj.aa aI Gj.lt) (Y1.aa aI);clear a0 a3 a4 cL tC ma;obtain⟨a0,a1,a2,a3,a4,a5,a6,b0,b1,b2,b3,b4,b5,b6⟩:=gg uW.aC;obtain⟨cL,_⟩:=bP nZ;rw[ED]at a4;clear a1 a2 a5 a6 b0 b1 b2 b3 b4 b5 b6;have hm:=kO (P:=Tryz.prog) W1 29 5 #[.int .u8 76] 1 Tryz.underlying29 Tryz.underlying5 rfl;have Dt:pC (W1.alloc (.cells #[.int .u8 76] 5 (1,2))) W1.heap.size 5 1 (.slice (some ⟨W1.heap.size,0,none⟩) 1 1) 1 (bv [76]):=by refine .inr ⟨rfl,_,_,rfl,.inr ⟨_,_,rfl,λj u hu=>?_⟩⟩;rw[bZ,mF _ _ _ _ _ _ (heap_alloc_new W1 _)];simpa [bv] using hu
   have jN:=(ak W1.heap.size W1).alloc (ai _) (.cells #[.int .u8 76] 5 (1,2));have uB:=jN.size;obtain⟨_,_,_,e3,_⟩:=gg (uW.aa jN).aC;obtain⟨eL,_⟩:=bP (nZ.aa jN nZ.lt);clear a0 a3 a4 cL;go_wp2_with fail;refine(mw (.slice (some ⟨W1.heap.size,0,none⟩) 1 1) 1 [76] l.eE 8 W1.heap.size _ Dt jN.size hsm.2.2 zo zo zo).mono ?_;rintro e W3 ⟨v3,rfl,kW,bg,_⟩;have aaD:=zi (jN.trans (bg.mono (ai _)));have hwi:IntKind.u64.wrap ((nx+k:Nat):Int)=((nx+k:Nat):Int):=lB _ zo;have apL:IntKind.u64.wrap ((nx:Int)+k)=((nx+k:Nat):Int):=by rw[<-hwi];congr 1
   clear hm bg e3 eL;go_wp2_with fail;refine(mw v3 9 _ (nx+k) 4 W1.heap.size _ (.own kW) aaD.size zo zo zo zo).mono ?_;rintro e W4 ⟨v4,rfl,eF,cj,_⟩;have agx:=zi (aaD.trans (cj.mono (ai _)));clear cj hwi apL;obtain⟨mb,hmb⟩:∃mb:Bool,decide (240<m)=mb:=⟨_,rfl⟩;obtain⟨mi,hmi⟩:∃mi:Nat,(if mb then 1 else 0)=mi:=⟨_,rfl⟩
   go_upto_if 41 with fail
   go_cut [8]from 14 to 66 (λs8 wx=>s8= .int .u8 (mi:Nat)/\W4=wx)
   case first=>
    obtain⟨x1,x2,x3,x4,x5⟩:=id Ku;by_cases alA:240<m
    ·have q1:((cl:Int)==(m:Int))=false:=by rw[x5 zo];simp;omega
     have q2:mi=1:=by rw[<-hmi,<-hmb,aQ alA];rfl
     subst q2;go_wp2_with fail;go_meet
     case rel=>exact⟨rfl,rfl⟩
    ·have q0:cl=m:=by
      rcases eJ m 240 with h'|h'
      ·exact x4 h'
      ·rw[x5 h'];omega
     have q1:((cl:Int)==(m:Int))=true:=by rw[q0];simp
     have q2:mi=0:=by rw[<-hmi,<-hmb,aH alA];rfl
     subst q2;clear q0;go_wp2_with fail;go_meet
     case rel=>exact⟨rfl,rfl⟩
   case rest=>
   obtain⟨rfl,rfl⟩:=hcut;obtain⟨i0,hi,nQ,kK,mY⟩:=bV Tryz.jm;have aqm:=agx.size;obtain⟨aoh,HSR,ahM⟩:=kt (eF.alloc (.cells #[.int .u8 (mi:Nat)] 5)) (Src.dE (ay.new W4 5 [.int .u8 (mi:Nat)])) (agx.alloc aqm (.cells #[.int .u8 (mi:Nat)] 5));have anp:W1.heap.size<=(W4.alloc (.cells #[.int .u8 (mi:Nat)] 5)).heap.size:=ahM.size;have Gi:Hid (∀u∈ [Value.int .u8 (mi:Nat)],u.oneCell'=true):=by intro u hu;simp at hu;subst hu;rfl
   have LR:=zi (iK (n:=13) (m:=1) zo);have vH:Hid (13+1<=maxLen):=by rw[Hid];simp only[maxLen];omega
   go_wp2_with (at_builtin
                refine cQ _ rfl (.tmp 42) (.tmp 44) 29 rfl W1.heap.size 5 i0 (.int .u8 0) 1 1 Tryz.underlying29 hi nQ kK mY rfl zj v4 13 _ rfl aoh (some ⟨W4.heap.size,0,none⟩) 1 1 [.int .u8 (mi:Nat)] rfl rfl HSR Gi vH LR anp ?_;intro v5 W5 jY vB ahs;obtain⟨VX,aft⟩:=dz jY (ahM.grown vB anp (λk hk=>(aoh.lt k hk).1));clear jY vB ahs)
   have hwc:IntKind.u64.wrap (cl:Int)=(cl:Int):=lB _ (zA Ku);have alV:cl<18446744073709551616:=zA Ku;refine(mw v5 14 ([76]++Pl.be 8 l.eE++Pl.be 4 (nx+k)++ [if mb then 1 else 0]) cl 2 W1.heap.size _ (.own ?_) aft.out.size alV zo zo zo).mono ?_
   ·have:=VX.out;rw[<-hmi]at this;rw[nu _ [_]];cases mb<;>exact this
   rintro e W6 ⟨v6,rfl,zL,nW,_⟩;have Vz:W6.ownsRow W1.heap.size 5 1 v6 16 (bv (Pl.j4 l.eE (nx+k) mb cl)):=by
    have:[76]++Pl.be 8 l.eE++Pl.be 4 (nx+k)++ [if mb then 1 else 0]++Pl.be 2 cl=Pl.j4 l.eE (nx+k) mb cl:=by simp[Pl.j4]
    rw[<-this];exact zL
   obtain⟨A6,V8,rfl,_,aiq,hA6⟩:=bJ Vz;have aho:=aft.trans (nW.mono (ai _));have ma:=Sp.out;have HW:=zi (Jv b b false [] (Pl.j4 l.eE (nx+k) mb cl) A6 V8 W6 (J6.aa aho) aiq (λq hq e=>by
    have:=(Vz.lt _ (hA6 q hq)).1;omega) (by rw[Pl.lK];simp) (zA aho.size))
   rw[Pl.lK]at HW;have HX6:=zi (aI.trans (aho.mono (by rw[hb];omega)));clear zL nW Vz aiq hA6 aho hwc Gi nQ kK mY hi;go_wp2_with fail;refine HW.mono ?_;rintro e W7 ⟨rfl,alO,yM⟩;have hx7:=HX6.trans (by rw[hb];exact yM);have afL:(rest.take 240).length=cl:=by rw[aP,HM.out];have:=Ku;omega
   have bz:=ajc.bQ hx7;have Mi:=zi (Jv b b true ([]++Pl.j4 l.eE (nx+k) mb cl) (rest.take 240) A2 fC W7 alO (bz.head 240).src (λq hq e=>by
    have h5:=(Yg q hq).1;have h6:=HO.size;have h7:=yj.size;have h8:=hb;omega) (by rw[aX,Pl.lK,afL];have:=Ku;omega) (by have:=hx7.size;rw[hb]at this;exact this))
   rw[afL]at Mi;have aia:cl<=m:=zA Ku;have hmc:m<=fC:=lC;have atl:cl<=fC:=zo;clear alO yM bz;go_wp2_with fail;refine Mi.mono ?_;rintro e W8 ⟨rfl,aiY,Ep⟩;have hx8:=hx7.trans (by rw[hb];exact Ep);have hpt:[]++Pl.j4 l.eE (nx+k) mb cl++rest.take 240=Pl.dh l.eE (nx+k) mb (rest.take 240):=by rw[Pl.xP,afL,aX]
   rw[hpt]at aiY;obtain⟨amB,asI⟩:=dz (Km.aa hx8) (Gj.aa hx8 Gj.lt);have agt:(Pl.dh l.eE (nx+k) mb (rest.take 240)).length=16+cl:=by rw[Pl.xP,ax,Pl.lK,afL]
   obtain⟨pt,amh⟩:=ze (Pl.dh l.eE (nx+k) mb (rest.take 240));rw[amh]at aiY agt;clear Ep hpt;obtain⟨a0,a1,a2,a3,a4,a5,a6,b0,b1,b2,b3,b4,b5,b6⟩:=gg amB.aC;obtain⟨cL,_⟩:=bP asI;have s0:=zi (And.intro cL a0);clear a0 a1 a2 a3 a4 a5 a6 b0 b1 b2 b3 b4 b5 b6 cL;go_wp2_with fail;refine wp_region_held_drew (S:=λW:World=>W.cell? ⟨bl,0,none⟩=some (.pointer (some ⟨gl,0,none⟩))/\W.cell? ⟨gl,0,none⟩=some (.pointer (some ⟨g,0,none⟩))) zp s0 (λhHeld=>?_);refine wpAnyH_take (i:=0) (oi:=_) (v:=?_) rfl zp zp zp (λ_ _ _ h=>h) (Or.inl ⟨by rfl,?_⟩) (by assumption) ?_;rotate_left
   ·intro W lR;(try dsimp only at lR);go_simp;rfl
   (try simp only[Act.put,zq1,zq2,zP,zq4,zq5,RR]);refine wpAnyH_take (i:=1) (oi:=_) (v:=?_) rfl zp zp zp (λ_ _ _ h=>h) (Or.inl ⟨by rfl,?_⟩) (by assumption) ?_;rotate_left
   ·intro W lR;(try dsimp only at lR);go_simp;rfl
   (try simp only[Act.put,zq1,zq2,zP,zq4,zq5,RR]);refine wpAnyH_take (i:=2) (oi:=_) (v:=?_) rfl zp zp zp (λ_ _ _ h=>h) (Or.inl ⟨by rfl,?_⟩) (by assumption) ?_;rotate_left
   ·intro W lR;(try dsimp only at lR);go_simp;rfl
   (try simp only[Act.put,zq1,zq2,zP,zq4,zq5,RR]);refine wpAnyH_take (i:=3) (oi:=_) (v:=?_) rfl zp zp zp (λ_ _ _ h=>h) (Or.inl ⟨by rfl,?_⟩) (by assumption) ?_;rotate_left
   ·intro W lR;(try dsimp only at lR);go_simp;rfl
   (try simp only[Act.put,zq1,zq2,zP,zq4,zq5,RR]);refine wpAnyH_take (i:=4) (oi:=_) (v:=?_) rfl zp zp zp (λ_ _ _ h=>h) (Or.inl ⟨by rfl,?_⟩) (by assumption) ?_;rotate_left
   ·intro W lR;(try dsimp only at lR);go_simp;rfl
   (try simp only[Act.put,zq1,zq2,zP,zq4,zq5,RR]);refine wpAnyH_take (i:=5) (oi:=_) (v:=?_) rfl zp zp zp (λ_ _ _ h=>h) (Or.inl ⟨by rfl,?_⟩) (by assumption) ?_;rotate_left
   ·intro W lR;(try dsimp only at lR);go_simp;rfl
   (try simp only[Act.put,zq1,zq2,zP,zq4,zq5,RR]);refine wpAnyH_ready (rs:=[6]) zp zu ?_;refine AllReadyH.cons (o:=_) rfl (λK hK=>?_) AllReadyH.nil;go_simp;have CF:nx+k<=4096:=zo;have ahN:((nx:Int)+k)=((nx+k:Nat):Int):=zo;rw[ahN];refine(ur gl g va l (nx+k) _ (amB.aa (w':=W8.drew) ((ak _ _).drew)) CF).mono ?_;rintro e w' ⟨rfl,rfl⟩;clear ahN;go_wp2_with fail;refine hK.out _ _ s0 (λaiH=>?_);clear hK K;(try simp only[Act.put,zq1,zq2,zP,zq4,zq5,RR]);refine wpAnyH_ready (rs:=[7]) zp zu ?_;refine AllReadyH.cons (o:=_) rfl (λK hK=>?_) AllReadyH.nil;go_simp;refine(Tz b b true pt _ (aiY.aa (w':=W8.drew) ((ak _ _).drew)) (by intro h;have h3:=agt;rw[h,uD]at h3;omega) (zC agt Ku)).mono ?_;rintro e W9 ⟨rfl,qA⟩;have Yz:=hx8.trans (by rw[hb];exact im qA);obtain⟨akJ,anP,agX⟩:=kt (Km.aa Yz) (Gj.aa Yz Gj.lt) (Y1.aa Yz);clear qA;go_wp2_with fail;refine hK.out _ _ ⟨anP.cell 0,akJ.aC.cell 0⟩ (λajO=>?_);clear hK K;(try simp only[Act.put,zq1,zq2,zP,zq4,zq5,RR]);refine wpAnyH_ready (rs:=[8]) zp zu ?_;refine AllReadyH.cons (o:=_) rfl (λK hK=>?_) AllReadyH.nil;go_simp;have hdl:dk.aV.length=d.aV.length:=by have:=Pl.AH d ((Pl.dw l p).take k);rw[HR.out]at this;exact this
   have yl:l.first+2+(nx+k)<dk.aV.length:=by rw[hdl];omega
   have arz:pt.length<=256:=zC agt Ku;have abT:((l.first:Int)+2+((nx:Int)+k))=((l.first+2+(nx+k):Nat):Int):=zo;rw[abT];clear abT;have hch:Pl.Fm l p k= .wr (l.first+2+(nx+k)) pt:=by rw[uy.out,<-amh,HM.out,hmb];rfl
   refine(BH g v dk rd (l.first+2+(nx+k)) pt _ agX yl arz).mono ?_;rintro e WA ⟨⟨fK,rfl⟩|⟨fK,rfl⟩,Uk,hoA⟩
   ·have hoo:=((HO.aa yj).aa Yz).aE hoA;have RA:=zi (Pl.Bn (c:= .wr (l.first+2+(nx+k)) pt) HR fK);have hbA:=hoA.bytes (ajc.bQ Yz) (λq hq e=>(Yg q hq).2 (.inl (.inl e)));have cDA:=(hoA.cY agX.kinds akJ.aC zj).cell 0;have cLA:=(hoA.cY agX.kinds anP zj).cell 0;clear hoA fK;go_wp2_with fail;refine hK.out _ _ ⟨cLA,cDA⟩ (λ_=>?_);refine wpAnyH_done zp ?_ _;have yZ:=qY WA A2 m fC cl cl rfl aia;obtain⟨A3,hA3⟩:=ze ((if fC=cl then A2 else A2.map (·.add cl)));rw[hA3]at yZ;clear hK K hHeld aiH ajO;go_wp2_with fail;have hd:p.drop (240*(k+1))=rest.drop cl:=by
     rw[show 240*(k+1)=240*k+240 by omega,<-kL,jy];have:=Ku;have:=HM.out;rcases eJ m 240 with h'|h'
     ·rw[uE zo,uE zo]
     ·rw[show cl=240 by omega]
    have hdl:(rest.drop cl).length=m-cl:=by rw[bT,HM.out]
    refine⟨⟨k+1,_,zo,by congr 1,?_,?_,Uk,hoo⟩,by simp[intOf];omega⟩
    ·rw[Hid,hd];refine⟨A3,fC-cl,by rw[hdl],by rw[hdl];omega,?_,?_⟩
     ·rw[<-hA3];exact hbA.cut cl fC (by rw[HM.out];exact aia) (by rw[HM.out];exact hmc)
     ·intro q hq;rw[<-hA3]at hq;split at hq
      ·exact Yg q hq
      ·obtain⟨q',MF,rfl⟩:=tV.1 hq;have:=Yg q' MF;rw[show(q'.add cl).block=q'.block by unfold Addr.add;split<;>rfl];exact this
    ·rw[Hid,Pl.JX l p k (by rw[yt];exact hkc) h1,hch];exact RA
   ·have hoo:=((HO.aa yj).aa Yz).aE hoA;have aqY:=zi (akJ.only hoA agX.kinds zj);clear hoA;unfold xV;go_wp2_with fail;refine⟨rfl,kY.stop wu.rows.own (by rw[yt];exact hkc) h1 HR fK ⟨?_,aqY,wu.rows.only hoo Vr zj zj⟩ (hoo.mono (λ_ _ h=> .inl (.inl h)))⟩;rw[hch];exact Uk
  ·obtain rfl:k=ck:=zo;have hlt:¬((nx+k:Nat):Int)<(nx:Int)+k:=zo;go_wp2_with fail;go_quiet (fail);have yj:Below wr.heap.size wr (wr.drewN nq):=below_drewN (ak _ _) nq;obtain⟨Km,Gj,alw,Y1,HO0⟩:=OW (CG.aa yj) (zW.aa yj zW.lt) (HBC.aa yj HBC.lt) (HDk.aa yj) (HO.aa yj);obtain⟨W0,hW0⟩:=ze (wr.drewN nq);rw[hW0]at yj Km Gj alw Y1 HO0|-
   clear hW0 a0 a3 a4 cL cC;obtain⟨a0,a1,a2,a3,a4,a5,a6,b0,b1,b2,b3,b4,b5,b6⟩:=gg Km.aC;obtain⟨cL,_⟩:=bP Gj;obtain⟨cC,_⟩:=bP alw;rw[ED]at a4;rw[yt]at cC;clear a0 a1 a2 a3 a6 b0 b1 b2 b3 b5 b6;go_wp2_with fail
   go_region
   have hcs:((nx:Int)+k)=((nx+k:Nat):Int):=zo;rw[hcs];have uX:ag (·=gl) W0 (W0.setCell ⟨gl,4,none⟩ (.int .i64 ((nx+k:Nat):Int))).drew:=((ag.refl (·=gl) W0).zs 4).drew;have rP:bR (·=gl) W0 [252]:=by rintro x rfl;exact⟨_,zu,Km.aC.dV⟩
   have uW:Hid (dW (W0.setCell ⟨gl,4,none⟩ (.int .i64 ((nx+k:Nat):Int))).drew gl g va {l with next:=nx+k}):=⟨(Km.aC.bw 4 _).drew,hsm.1,hroom,hsm.2.2⟩;obtain⟨nZ,ach,EB,HKL⟩:=yx (uX.cY rP Gj zj) (Y1.JE uX rP zj zj) ((HO0.mono (λ_ _ h=>(.inl h:lF gl g v _))).trans uX (λ_ _ h=> .inr h)) (CW wu.gq wu.cells);have wo:=zi (EB.aC hP (λhx=>by
    obtain⟨t,h5,h6⟩:=HKL bp hx;have:=h6.dv hP.dV;subst this;revert h5;decide))
   obtain⟨akS,agm⟩:=dz ((EB.bytes HBY (λq hq hx=>(hA q hq).2 (.inl hx))).src) ((wu.rows.only EB HKL zj zj).own);obtain⟨W1,tC⟩:=ze ((W0.setCell ⟨gl,4,none⟩ (.int .i64 ((nx+k:Nat):Int))).drew);rw[tC]at uW nZ ach EB wo akS agm|-
   clear uX rP tC a4 a5 b4 cL cC hcs;obtain⟨_,_,_,_,_,e5,_⟩:=gg uW.aC;have hS1:=zi (⟨nZ.cell 0,wo.cell 0⟩:W1.cell? ⟨bl,0,none⟩=some (.pointer (some ⟨gl,0,none⟩))/\W1.cell? ⟨bp,0,none⟩=some (.slice A p.length aB));obtain⟨i0,hi,nQ,kK,mY⟩:=bV Tryz.jm;obtain⟨j0,hj,Yd,XQ,RL⟩:=bV Tryz.oI;have aoa:Hid (0+p.length<=maxLen):=by rw[Hid];simp only[maxLen];omega
   have Zs:=zi (iK (n:=0) (m:=p.length) zo);have aeG:Hid (l.all.length+1<=maxLen):=by rw[Hid];simp only[maxLen];omega
   have Ex:=zi (rE (n:=l.all.length) (m:=1) zo);go_wp2_with fail;refine wp_region_held_drew (S:=λW:World=>W.cell? ⟨bl,0,none⟩=some (.pointer (some ⟨gl,0,none⟩))/\W.cell? ⟨bp,0,none⟩=some (.slice A p.length aB)) zp hS1 (λhHeld=>?_);refine wpAnyH_take (i:=0) (oi:=_) (v:=?_) rfl zp zp zp (λ_ _ _ h=>h) (Or.inl ⟨by rfl,?_⟩) (by assumption) ?_;rotate_left
   ·intro W lR;(try dsimp only at lR);go_simp;rfl
   (try simp only[Act.put,zq1,zq2,zP,zq4,zq5,RR]);refine wpAnyH_take (i:=1) (oi:=_) (v:=?_) rfl zp zp zp (λ_ _ _ h=>h) (Or.inl ⟨by rfl,?_⟩) (by assumption) ?_;rotate_left
   ·intro W lR;(try dsimp only at lR);go_simp;rfl
   (try simp only[Act.put,zq1,zq2,zP,zq4,zq5,RR]);refine wpAnyH_take (i:=2) (oi:=_) (v:=?_) rfl zp zp zp (λ_ _ _ h=>h) (Or.inl ⟨by rfl,?_⟩) (by assumption) ?_;rotate_left
   ·intro W lR;(try dsimp only at lR);go_simp;rfl
   (try simp only[Act.put,zq1,zq2,zP,zq4,zq5,RR]);refine wpAnyH_take (i:=3) (oi:=_) (v:=?_) rfl zp zp zp (λ_ _ _ h=>h) (Or.inl ⟨by rfl,?_⟩) (by assumption) ?_;rotate_left
   ·intro W lR;(try dsimp only at lR);go_simp;rfl
   (try simp only[Act.put,zq1,zq2,zP,zq4,zq5,RR]);refine wpAnyH_take (i:=5) (oi:=_) (v:=?_) rfl zp zp zp (λ_ _ _ h=>h) (Or.inl ⟨by rfl,?_⟩) (by assumption) ?_;rotate_left
   ·intro W lR;(try dsimp only at lR);go_simp;rfl
   (try simp only[Act.put,zq1,zq2,zP,zq4,zq5,RR]);refine wpAnyH_ready (rs:=[4,6]) zp zu ?_;refine AllReadyH.cons (o:=_) rfl (λK hK=>?_) ?_
   ·go_simp;refine hK.out _ _ hS1 (λ_=>?_);clear hK K;(try simp only[Act.put,zq1,zq2,zP,zq4,zq5,RR]);refine wpAnyH_ready (rs:=[6]) zp zu ?_;refine AllReadyH.cons (o:=_) rfl (λK hK=>?_) AllReadyH.nil;refine fY _ rfl (.const (.slice none 0 0)) (.tmp 80) 29 rfl W1.heap.size 5 i0 (.int .u8 0) 1 1 Tryz.underlying29 hi nQ kK mY rfl zj (.slice none 0 0) 0 [] rfl (dA _ _ _ _) A p.length aB (bv p) rfl zu akS (GB p) aoa Zs (ai _) ?_;intro v2 W2 ee dY Fk;rw[bZ,aX]at ee;obtain⟨A5,lX,rfl,_,_,_⟩:=bJ ee;have bz:Below W1.heap.size W1 W2:=⟨dY.os,dY.tape,dY.output,dY.size,λx hx=>dY.block x hx (λe=>by cases e)⟩;obtain⟨_,_,_,_,_,e5,_⟩:=gg (uW.aa bz).aC;have hS2:=zi (⟨(nZ.aa bz nZ.lt).cell 0,(wo.aa bz wo.lt).cell 0⟩:W2.cell? ⟨bl,0,none⟩=some (.pointer (some ⟨gl,0,none⟩))/\W2.cell? ⟨bp,0,none⟩=some (.slice A p.length aB));clear dY Fk;refine hK.out _ _ hS2 (λ_=>?_);clear hK K;(try simp only[Act.put,zq1,zq2,zP,zq4,zq5,RR]);refine wpAnyH_ready (rs:=[7]) zp zu ?_;refine AllReadyH.cons (o:=_) rfl (λK hK=>?_) AllReadyH.nil;go_simp;obtain⟨W3,J5,bg⟩:=zF W2 (.cells #[.slice A5 p.length lX] 29);have eI:=zi (bz.trans (bg.mono bz.size));have Hn:Hid (Src W3 (some ⟨W2.heap.size,0,none⟩) [.slice A5 p.length lX]):=by rw[Hid,<-J5];exact Src.dE (ay.new W2 29 [.slice A5 p.length lX])
    obtain⟨rS,Re⟩:=dz (fm ee bg) (fm agm eI);rw[J5];obtain⟨_,_,_,_,_,e5,_⟩:=gg (uW.aa eI).aC;have hS3:=zi (⟨(nZ.aa eI nZ.lt).cell 0,(wo.aa eI wo.lt).cell 0⟩:W3.cell? ⟨bl,0,none⟩=some (.pointer (some ⟨gl,0,none⟩))/\W3.cell? ⟨bp,0,none⟩=some (.slice A p.length aB));clear bg J5;refine hK.out _ _ hS3 (λ_=>?_);clear hK K;(try simp only[Act.put,zq1,zq2,zP,zq4,zq5,RR]);refine wpAnyH_ready (rs:=[8]) zp zu ?_;refine AllReadyH.cons (o:=_) rfl (λK hK=>?_) AllReadyH.nil;have Gi:Hid (∀u∈ [Value.slice A5 p.length lX],u.oneCell'=true):=by intro u hu;simp at hu;subst hu;exact MX rS
    refine fY _ rfl (.tmp 79) (.tmp 82) 57 rfl 0 29 j0 (.slice none 0 0) 1 24 Tryz.underlying57 hj Yd XQ RL rfl zj va l.all.length vs rfl Re (some ⟨W2.heap.size,0,none⟩) 1 1 [.slice A5 p.length lX] rfl rfl Hn Gi aeG Ex (aM _) ?_;intro v4 W4 eF gS CK;obtain⟨A4,qi,rfl,_,_,_⟩:=bJ eF;have wP:∀(x:Nat) (t:TypeId) (cs:List Value),ay W3 x t cs->t≠29->x≠x->False:=λ_ _ _ _ _ h=>h rfl;have Pz:∀(x:Nat) (t:TypeId) (cs:List Value),ay W3 x t cs->t≠29->some x≠va.ownBlock:=λx t cs h1 h2 e=>h2 (h1.dV.dv (dc Re e.symm));have Dr:Hid (dW W4 gl g va {l with next:=nx+k}):=⟨(uW.aa eI).aC.grown gS (Pz _ _ _ (uW.aa eI).aC zj),uW.small⟩;obtain⟨Jj,Ht⟩:=dz ((nZ.aa eI nZ.lt).grown gS (Pz _ _ _ (nZ.aa eI nZ.lt) zj)) ((wo.aa eI wo.lt).grown gS (λe=>ait e.symm));have hS4:=zi (⟨Jj.cell 0,Ht.cell 0⟩:W4.cell? ⟨bl,0,none⟩=some (.pointer (some ⟨gl,0,none⟩))/\W4.cell? ⟨bp,0,none⟩=some (.slice A p.length aB));obtain⟨_,_,_,_,_,e5,_,_,_,_,_,_,g5,_⟩:=gg Dr.aC;clear wP Pz;refine hK.out _ _ hS4 (λ_=>?_);clear hK K;(try simp only[Act.put,zq1,zq2,zP,zq4,zq5,RR]);refine wpAnyH_take (i:=9) (oi:=_) (v:=?_) rfl zp zp zp (λ_ _ _ h=>h) (Or.inl ⟨by rfl,?_⟩) (by assumption) ?_;rotate_left
    ·intro W lR;(try dsimp only at lR);go_simp;rfl
    (try simp only[Act.put,zq1,zq2,zP,zq4,zq5,RR]);refine wpAnyH_take (i:=10) (oi:=_) (v:=?_) rfl zp zp zp (λ_ _ _ h=>h) (Or.inl ⟨by rfl,?_⟩) (by assumption) ?_;rotate_left
    ·intro W lR;(try dsimp only at lR);go_simp;rfl
    (try simp only[Act.put,zq1,zq2,zP,zq4,zq5,RR]);refine wpAnyH_ready (rs:=[11]) zp zu ?_;refine AllReadyH.cons (o:=_) rfl (λK hK=>?_) AllReadyH.nil;go_simp;have IH:gl≠bl:=Dr.aC.ne Jj zj;have Mf:gl≠bp:=Dr.aC.ne Ht zj;refine hK.out _ _ ⟨(Jj.mK (p:=⟨gl,5,none⟩) (cy IH) _).cell 0,(Ht.mK (p:=⟨gl,5,none⟩) (cy Mf) _).cell 0⟩ (λ_=>?_);refine wpAnyH_done zp ?_ _;clear hK K;go_wp2_with fail;go_end0;exact uL EB.size wu EB Vr ach Dr gS eF rS eI CK ED yt h1 HR
   refine AllReadyH.cons (o:=_) rfl (λK hK=>?_) AllReadyH.nil;refine fY _ rfl (.const (.slice none 0 0)) (.tmp 80) 29 rfl W1.heap.size 5 i0 (.int .u8 0) 1 1 Tryz.underlying29 hi nQ kK mY rfl zj (.slice none 0 0) 0 [] rfl (dA _ _ _ _) A p.length aB (bv p) rfl zu akS (GB p) aoa Zs (ai _) ?_;intro v2 W2 ee dY Fk;rw[bZ,aX]at ee;obtain⟨A5,lX,rfl,_,_,_⟩:=bJ ee;have bz:Below W1.heap.size W1 W2:=⟨dY.os,dY.tape,dY.output,dY.size,λx hx=>dY.block x hx (λe=>by cases e)⟩;obtain⟨_,_,_,_,_,e5,_⟩:=gg (uW.aa bz).aC;have hS2:=zi (⟨(nZ.aa bz nZ.lt).cell 0,(wo.aa bz wo.lt).cell 0⟩:W2.cell? ⟨bl,0,none⟩=some (.pointer (some ⟨gl,0,none⟩))/\W2.cell? ⟨bp,0,none⟩=some (.slice A p.length aB));clear dY Fk;refine hK.out _ _ hS2 (λ_=>?_);clear hK K;(try simp only[Act.put,zq1,zq2,zP,zq4,zq5,RR]);refine wpAnyH_ready (rs:=[4,7]) zp zu ?_;refine AllReadyH.cons (o:=_) rfl (λK hK=>?_) ?_
   ·go_simp;refine hK.out _ _ hS2 (λ_=>?_);clear hK K;(try simp only[Act.put,zq1,zq2,zP,zq4,zq5,RR]);refine wpAnyH_ready (rs:=[7]) zp zu ?_;refine AllReadyH.cons (o:=_) rfl (λK hK=>?_) AllReadyH.nil;go_simp;obtain⟨W3,J5,bg⟩:=zF W2 (.cells #[.slice A5 p.length lX] 29);have eI:=zi (bz.trans (bg.mono bz.size));have Hn:Hid (Src W3 (some ⟨W2.heap.size,0,none⟩) [.slice A5 p.length lX]):=by rw[Hid,<-J5];exact Src.dE (ay.new W2 29 [.slice A5 p.length lX])
    obtain⟨rS,Re⟩:=dz (fm ee bg) (fm agm eI);rw[J5];obtain⟨_,_,_,_,_,e5,_⟩:=gg (uW.aa eI).aC;have hS3:=zi (⟨(nZ.aa eI nZ.lt).cell 0,(wo.aa eI wo.lt).cell 0⟩:W3.cell? ⟨bl,0,none⟩=some (.pointer (some ⟨gl,0,none⟩))/\W3.cell? ⟨bp,0,none⟩=some (.slice A p.length aB));clear bg J5;refine hK.out _ _ hS3 (λ_=>?_);clear hK K;(try simp only[Act.put,zq1,zq2,zP,zq4,zq5,RR]);refine wpAnyH_ready (rs:=[8]) zp zu ?_;refine AllReadyH.cons (o:=_) rfl (λK hK=>?_) AllReadyH.nil;have Gi:Hid (∀u∈ [Value.slice A5 p.length lX],u.oneCell'=true):=by intro u hu;simp at hu;subst hu;exact MX rS
    refine fY _ rfl (.tmp 79) (.tmp 82) 57 rfl 0 29 j0 (.slice none 0 0) 1 24 Tryz.underlying57 hj Yd XQ RL rfl zj va l.all.length vs rfl Re (some ⟨W2.heap.size,0,none⟩) 1 1 [.slice A5 p.length lX] rfl rfl Hn Gi aeG Ex (aM _) ?_;intro v4 W4 eF gS CK;obtain⟨A4,qi,rfl,_,_,_⟩:=bJ eF;have wP:∀(x:Nat) (t:TypeId) (cs:List Value),ay W3 x t cs->t≠29->x≠x->False:=λ_ _ _ _ _ h=>h rfl;have Pz:∀(x:Nat) (t:TypeId) (cs:List Value),ay W3 x t cs->t≠29->some x≠va.ownBlock:=λx t cs h1 h2 e=>h2 (h1.dV.dv (dc Re e.symm));have Dr:Hid (dW W4 gl g va {l with next:=nx+k}):=⟨(uW.aa eI).aC.grown gS (Pz _ _ _ (uW.aa eI).aC zj),uW.small⟩;obtain⟨Jj,Ht⟩:=dz ((nZ.aa eI nZ.lt).grown gS (Pz _ _ _ (nZ.aa eI nZ.lt) zj)) ((wo.aa eI wo.lt).grown gS (λe=>ait e.symm));have hS4:=zi (⟨Jj.cell 0,Ht.cell 0⟩:W4.cell? ⟨bl,0,none⟩=some (.pointer (some ⟨gl,0,none⟩))/\W4.cell? ⟨bp,0,none⟩=some (.slice A p.length aB));obtain⟨_,_,_,_,_,e5,_,_,_,_,_,_,g5,_⟩:=gg Dr.aC;clear wP Pz;refine hK.out _ _ hS4 (λ_=>?_);clear hK K;(try simp only[Act.put,zq1,zq2,zP,zq4,zq5,RR]);refine wpAnyH_take (i:=9) (oi:=_) (v:=?_) rfl zp zp zp (λ_ _ _ h=>h) (Or.inl ⟨by rfl,?_⟩) (by assumption) ?_;rotate_left
    ·intro W lR;(try dsimp only at lR);go_simp;rfl
    (try simp only[Act.put,zq1,zq2,zP,zq4,zq5,RR]);refine wpAnyH_take (i:=10) (oi:=_) (v:=?_) rfl zp zp zp (λ_ _ _ h=>h) (Or.inl ⟨by rfl,?_⟩) (by assumption) ?_;rotate_left
    ·intro W lR;(try dsimp only at lR);go_simp;rfl
    (try simp only[Act.put,zq1,zq2,zP,zq4,zq5,RR]);refine wpAnyH_ready (rs:=[11]) zp zu ?_;refine AllReadyH.cons (o:=_) rfl (λK hK=>?_) AllReadyH.nil;go_simp;have IH:gl≠bl:=Dr.aC.ne Jj zj;have Mf:gl≠bp:=Dr.aC.ne Ht zj;refine hK.out _ _ ⟨(Jj.mK (p:=⟨gl,5,none⟩) (cy IH) _).cell 0,(Ht.mK (p:=⟨gl,5,none⟩) (cy Mf) _).cell 0⟩ (λ_=>?_);refine wpAnyH_done zp ?_ _;clear hK K;go_wp2_with fail;go_end0;exact uL EB.size wu EB Vr ach Dr gS eF rS eI CK ED yt h1 HR
   refine AllReadyH.cons (o:=_) rfl (λK hK=>?_) AllReadyH.nil;go_simp;obtain⟨W3,J5,bg⟩:=zF W2 (.cells #[.slice A5 p.length lX] 29);have eI:=zi (bz.trans (bg.mono bz.size));have Hn:Hid (Src W3 (some ⟨W2.heap.size,0,none⟩) [.slice A5 p.length lX]):=by rw[Hid,<-J5];exact Src.dE (ay.new W2 29 [.slice A5 p.length lX])
   obtain⟨rS,Re⟩:=dz (fm ee bg) (fm agm eI);rw[J5];obtain⟨_,_,_,_,_,e5,_⟩:=gg (uW.aa eI).aC;have hS3:=zi (⟨(nZ.aa eI nZ.lt).cell 0,(wo.aa eI wo.lt).cell 0⟩:W3.cell? ⟨bl,0,none⟩=some (.pointer (some ⟨gl,0,none⟩))/\W3.cell? ⟨bp,0,none⟩=some (.slice A p.length aB));clear bg J5;refine hK.out _ _ hS3 (λ_=>?_);clear hK K;(try simp only[Act.put,zq1,zq2,zP,zq4,zq5,RR]);refine wpAnyH_ready (rs:=[4]) zp zu ?_;refine AllReadyH.cons (o:=_) rfl (λK hK=>?_) AllReadyH.nil;go_simp;refine hK.out _ _ hS3 (λ_=>?_);clear hK K;(try simp only[Act.put,zq1,zq2,zP,zq4,zq5,RR]);refine wpAnyH_ready (rs:=[8]) zp zu ?_;refine AllReadyH.cons (o:=_) rfl (λK hK=>?_) AllReadyH.nil;have Gi:Hid (∀u∈ [Value.slice A5 p.length lX],u.oneCell'=true):=by intro u hu;simp at hu;subst hu;exact MX rS
   refine fY _ rfl (.tmp 79) (.tmp 82) 57 rfl 0 29 j0 (.slice none 0 0) 1 24 Tryz.underlying57 hj Yd XQ RL rfl zj va l.all.length vs rfl Re (some ⟨W2.heap.size,0,none⟩) 1 1 [.slice A5 p.length lX] rfl rfl Hn Gi aeG Ex (aM _) ?_;intro v4 W4 eF gS CK;obtain⟨A4,qi,rfl,_,_,_⟩:=bJ eF;have wP:∀(x:Nat) (t:TypeId) (cs:List Value),ay W3 x t cs->t≠29->x≠x->False:=λ_ _ _ _ _ h=>h rfl;have Pz:∀(x:Nat) (t:TypeId) (cs:List Value),ay W3 x t cs->t≠29->some x≠va.ownBlock:=λx t cs h1 h2 e=>h2 (h1.dV.dv (dc Re e.symm));have Dr:Hid (dW W4 gl g va {l with next:=nx+k}):=⟨(uW.aa eI).aC.grown gS (Pz _ _ _ (uW.aa eI).aC zj),uW.small⟩;obtain⟨Jj,Ht⟩:=dz ((nZ.aa eI nZ.lt).grown gS (Pz _ _ _ (nZ.aa eI nZ.lt) zj)) ((wo.aa eI wo.lt).grown gS (λe=>ait e.symm));have hS4:=zi (⟨Jj.cell 0,Ht.cell 0⟩:W4.cell? ⟨bl,0,none⟩=some (.pointer (some ⟨gl,0,none⟩))/\W4.cell? ⟨bp,0,none⟩=some (.slice A p.length aB));obtain⟨_,_,_,_,_,e5,_,_,_,_,_,_,g5,_⟩:=gg Dr.aC;clear wP Pz;refine hK.out _ _ hS4 (λ_=>?_);clear hK K;(try simp only[Act.put,zq1,zq2,zP,zq4,zq5,RR]);refine wpAnyH_take (i:=9) (oi:=_) (v:=?_) rfl zp zp zp (λ_ _ _ h=>h) (Or.inl ⟨by rfl,?_⟩) (by assumption) ?_;rotate_left
   ·intro W lR;(try dsimp only at lR);go_simp;rfl
   (try simp only[Act.put,zq1,zq2,zP,zq4,zq5,RR]);refine wpAnyH_take (i:=10) (oi:=_) (v:=?_) rfl zp zp zp (λ_ _ _ h=>h) (Or.inl ⟨by rfl,?_⟩) (by assumption) ?_;rotate_left
   ·intro W lR;(try dsimp only at lR);go_simp;rfl
   (try simp only[Act.put,zq1,zq2,zP,zq4,zq5,RR]);refine wpAnyH_ready (rs:=[11]) zp zu ?_;refine AllReadyH.cons (o:=_) rfl (λK hK=>?_) AllReadyH.nil;go_simp;have IH:gl≠bl:=Dr.aC.ne Jj zj;have Mf:gl≠bp:=Dr.aC.ne Ht zj;refine hK.out _ _ ⟨(Jj.mK (p:=⟨gl,5,none⟩) (cy IH) _).cell 0,(Ht.mK (p:=⟨gl,5,none⟩) (cy Mf) _).cell 0⟩ (λ_=>?_);refine wpAnyH_done zp ?_ _;clear hK K;go_wp2_with fail;go_end0;exact uL EB.size wu EB Vr ach Dr gS eF rS eI CK ED yt h1 HR
theorem Ky(W:World)(a b c:Value):(callFunc 277 #[a,b,c]).run Tryz.prog W= .ok (.enter 277 #[a,b,c]) W:=by simp[go_sem]
theorem FV(h:p.length<1\/2000<p.length):l.append d p=(l,d,4):=by unfold Pl.Lg.append;rw[ah h]
theorem PV(h:¬(p.length<1\/2000<p.length))(h2:l.data<l.next+Pl.chunks p.length):l.append d p=(l,d,5):=by unfold Pl.Lg.append;rw[aj h,ah h2]
theorem U5(h:¬(p.length<1\/2000<p.length))(h2:¬l.data<l.next+Pl.chunks p.length)(hb:l.bad=true):l.append d p=(l,d,3):=by unfold Pl.Lg.append;rw[aj h,aj h2,hb,ah rfl]
theorem append_eq(h:¬(p.length<1\/2000<p.length))(h2:¬l.data<l.next+Pl.chunks p.length)(hb:l.bad=false):
 l.append d p=(if(d.run (Pl.dw l p)).2 then(Pl.aci l p,(d.run (Pl.dw l p)).1,0)else({l with bad:=true},(d.run (Pl.dw l p)).1,3)):=by
 unfold Pl.Lg.append;rw[aj h,aj h2,hb,aj zj];show(match d.run (Pl.dw l p)with|(d',true)=>_|(d',false)=>_)=_;rcases d.run (Pl.dw l p)with⟨d',ok⟩;cases ok
 ·rfl
 ·cases l;simp at hb;subst hb;rfl
theorem NZ(gl g:Nat)(v va:Value)(vs:List Value)(d:Pl.Dk)(rd:Int)(l:Pl.Lg)(p:List UInt8)(A:Option Addr)(aB:Nat)(w:World)(h:dB w gl g v va vs d rd l)
 (hb:aw w A p) (hA:∀q,A=some q->q.block<w.heap.size/\¬uq gl g v va q.block) (fo:p.length<=aB) (EO:p.length<=140737488351232) (jn:l.first+2+l.data<=d.aV.length) (kD:l.all.length<=5000):
 bG 262 #[.pointer (some ⟨gl,0,none⟩),.slice A p.length aB] w (xZ (l.append d p) gl g v va rd w):=by
 obtain⟨w1,dj⟩:=ze ((w.alloc (.cells #[.pointer (some ⟨gl,0,none⟩)] 139)).alloc (.cells #[.slice A p.length aB] 29));have aI:Below w.heap.size w w1:=by rw[<-dj];exact(za _ _).alloc zu _
 have B1:ay w1 w.heap.size 139 [.pointer (some ⟨gl,0,none⟩)]:=by rw[<-dj];exact(ay.new _ _ _).alloc _
 have B2:ay w1 (w.heap.size+1) 29 [.slice A p.length aB]:=by rw[<-dj];exact ay.newAt _ _ _ _ zu
 have ma:w1.heap.size=w.heap.size+1+1:=by rw[<-dj];simp
 have hsm:=h.cells.small;obtain⟨c1,_⟩:=bP B1;obtain⟨c2,_⟩:=bP B2;by_cases kK:p.length<1
 ·have q1:(p.length:Int)<1:=zo;go_enter Tryz.func262,Tryz.ntmps262;go_wp2_with fail;go_ret;exact xZ.same (k:=4) h aI (FV d (.inl kK))
 ·have q1:¬(p.length:Int)<1:=zo;have q1d:decide ((p.length:Int)<1)=false:=aH q1;by_cases mY:2000<p.length
  ·have q2:(2000:Int)<(p.length:Int):=zo;go_enter Tryz.func262,Tryz.ntmps262;go_wp2_with fail;go_ret;exact xZ.same (k:=4) h aI (FV d (.inr mY))
  ·have q2:¬(2000:Int)<(p.length:Int):=zo;have q2d:decide ((2000:Int)<(p.length:Int))=false:=aH q2;have hzz:¬(p.length<1\/2000<p.length):=zo;obtain⟨ck,yt⟩:=ze (Pl.chunks p.length);have atL:((p.length:Int)+240-1)/240=(ck:Int):=by rw[<-yt];unfold Pl.chunks;omega
   have atK:ck<=9:=by rw[<-yt];unfold Pl.chunks;omega
   obtain⟨w2,iA,bz⟩:=zF w1 (.cells #[.int .i64 (ck:Nat)] 3);have eC:Below w.heap.size w w2:=aI.trans (bz.mono aI.size);have B3:ay w2 (w.heap.size+1+1) 3 [.int .i64 (ck:Nat)]:=by rw[<-iA];exact ay.newAt _ _ _ _ ma.symm
   have h2:=h.aa eC;obtain⟨a0,a1,a2,a3,a4,a5,a6,b0,b1,b2,b3,b4,b5,b6⟩:=gg h2.cells.aC;obtain⟨d1,_⟩:=bP (B1.aa bz B1.lt);obtain⟨d3,_⟩:=bP B3;obtain⟨ank,Pm⟩:=dz (B1.aa bz B1.lt) (B2.aa bz B2.lt);have hwn:IntKind.i64.wrap ((l.next:Int)+ck)=(l.next:Int)+ck:=aY _ zo;have Ue:(0:Int)<=(l.next:Int)+ck:=zo;have JJ:=zf Tryz.prog;clear bz h2 a0 a1 a3 a5 a6 b0 b1 b2 b3 b4 b5 b6;by_cases Md:l.data<l.next+ck
   ·have q3:(l.data:Int)<(l.next:Int)+ck:=zo;go_enter Tryz.func262,Tryz.ntmps262;go_wp2_with fail;go_quiet (fail);go_wp2_with fail;go_ret;exact xZ.same (k:=5) h (below_drewN eC _) (PV d hzz (by rw[yt];exact Md))
   ·have q3:¬(l.data:Int)<(l.next:Int)+ck:=zo;go_enter Tryz.func262,Tryz.ntmps262;go_wp2_with fail;go_quiet (fail);obtain⟨w3,fX⟩:=ze (w2.drewN nq);have jv:Below w.heap.size w w3:=by rw[<-fX];exact below_drewN eC _
    have CH:Below w2.heap.size w2 w3:=by rw[<-fX];exact below_drewN (ak _ _) _
    obtain⟨PQ,HY2,HY3⟩:=kt (ank.aa CH ank.lt) (Pm.aa CH Pm.lt) (B3.aa CH B3.lt);rw[fX];obtain⟨e1,_⟩:=bP PQ;clear fX CH iA dj c1 c2 d1 d3 a2 a4;cases jO:l.bad
    ·have HD:=zi (akq 277 #[.pointer (some ⟨w.heap.size+1,0,none⟩),.pointer (some ⟨w.heap.size,0,none⟩),.pointer (some ⟨w.heap.size+1+1,0,none⟩)] gl g v va vs d rd l
      (λk d' l'=>k=(l.append d p).2.2/\d'=(l.append d p).2.1/\{l' with bad:=(k==3)}=(l.append d p).1) w w3 h jv jO (λW=>Ky W _ _ _) (by
        intro W hW;have hS:=(h.aa jv).aa hW;have hbW:=jv.trans (hW.mono jv.size);refine(RY gl g _ _ _ v va vs d rd l p A aB W hS (HY2.aa hW HY2.lt) (PQ.aa hW PQ.lt) (by rw[yt];exact HY3.aa hW HY3.lt) (λe=>by have:=(h.rows.own.lt _ e).2;omega) (hb.bQ hbW) (λq hq=>⟨aK (hA q hq).1 hbW.size,(hA q hq).2⟩) fo (zA hzz) (zA hzz) (by rw[yt];have:=Md;omega) jn kD).mono ?_;rintro e w' ⟨iw,gj,he,hst,yN,hrs,ho⟩;rw[append_eq d hzz (by rw[yt];exact Md) jO];cases gP:(d.run (Pl.dw l p)).2
        ·rw[gP]at he hst;exact⟨3,iw,gj,_,l,he.agA,jO,⟨rfl,rfl,rfl⟩,hst,yN,hrs,ho⟩
        ·rw[gP]at he hst;exact⟨0,iw,gj,_,Pl.aci l p,he.agA,jO,⟨rfl,rfl,by cases l;simp at jO;subst jO;rfl⟩,hst,yN,hrs,ho⟩))
     go_wp2_with fail;refine HD.mono ?_;intro e w5 Jm;have HP:=zi (Jm.out (r:=l.append d p) (λk d' l' ⟨h1,h2,h3⟩=>by rw[h3,h2,h1]));obtain⟨k,iw,gj,d',l',hp,rfl,hst,hs,_,ho⟩:=Jm;clear hp hst hs ho;go_wp2_with fail;go_ret;exact HP
    ·have HDB:=zi (acg gl g va l (.func (.func 277) #[] #[.pointer (some ⟨w.heap.size+1,0,none⟩),.pointer (some ⟨w.heap.size,0,none⟩),.pointer (some ⟨w.heap.size+1+1,0,none⟩)]) _ (h.cells.aa jv) jO);go_wp2_with fail;refine HDB.mono ?_;rintro e w' ⟨rfl,rfl⟩;go_wp2_with fail;go_ret;exact xZ.same (k:=3) h jv (U5 d hzz (by rw[yt];exact Md) jO)
theorem Tq(g:Nat)(v:Value)(d:Pl.Dk)(rd:Int)(i:Nat)(w:World)(h:aJ w g v d rd)(hi:i<d.aV.length)(hl:d.aW≠0)(o:Option (List UInt8))(ho:d.look i=o):
 bG 156 #[.pointer (some ⟨g,0,none⟩),.int .i64 (i:Nat)] w λe w'=>e= .returned (.tuple #[.string (ar (o.getD [])),.bool o.isSome])/\(∃cO,aJ w' g v d cO/\Rds rd cO)/\ag (·=g) w w':=by
 subst ho;refine(ZH g v d rd i w h hi).mono ?_;rintro e w' ⟨⟨h0,_⟩|⟨_,he⟩,h2,h3⟩
 ·omega
 grind
theorem AA(g:Nat)(v:Value)(d:Pl.Dk)(rd:Int)(i:Nat)(w:World)(h:aJ w g v d rd)(hi:i<d.aV.length)(hl:d.aW≠0)(ii:Int)(hii:ii=((i:Nat):Int))(ho:d.look i=none):
 bG 156 #[.pointer (some ⟨g,0,none⟩),.int .i64 ii] w λe w'=>e= .returned (.tuple #[.string (ar []),.bool false])/\(∃cO,aJ w' g v d cO/\Rds rd cO)/\ag (·=g) w w':=hii▸Tq g v d rd i w h hi hl _ ho
theorem Cf(g:Nat)(v:Value)(d:Pl.Dk)(rd:Int)(i:Nat)(w:World)(h:aJ w g v d rd)(hi:i<d.aV.length)(hl:d.aW≠0)(s:List UInt8)(ii:Int)(hii:ii=((i:Nat):Int))(ho:d.look i=some s):
 bG 156 #[.pointer (some ⟨g,0,none⟩),.int .i64 ii] w λe w'=>e= .returned (.tuple #[.string (ar s),.bool true])/\(∃cO,aJ w' g v d cO/\Rds rd cO)/\ag (·=g) w w':=hii▸Tq g v d rd i w h hi hl _ ho
theorem uP{d:Pl.Dk}(h:aJ w g v d rd){i:Nat}(hs:d.look i=some s):s.length=256:=by
 unfold Pl.Dk.look at hs;split at hs
 ·next x hx=>
  split at hs
  ·cases hs
  ·rw[<-fB hs];exact(h.sized x zw).1
 grind
def reads(l:Pl.Lg):List (Option (List UInt8)):=(List.range l.data).map (λi=>d.look (l.first+2+i))
theorem Wa(l:Pl.Lg)(k:Nat)(h:k<l.data):(reads d l).drop k=d.look (l.first+2+k)::(reads d l).drop (k+1):=by
 have hl:k<(reads d l).length:=by simp[reads];exact h
 rw[fT hl];simp[reads]
theorem aaJ(l:Pl.Lg):(reads d l).drop l.data=[]:=uE (by simp[reads])
def xm(gl g:Nat)(v va:Value)(d:Pl.Dk)(l:Pl.Lg)(w:World)(e:Ending)(w':World):Prop:=
 ∃iw gj cO,e= .returned (.tuple #[])/\dB w' gl g v iw gj d cO {l with all:=(Pl.scan l.eE (reads d l) 0 [] l.all l.next).1,next:=(Pl.scan l.eE (reads d l) 0 [] l.all l.next).2}/\Sep w va iw/\ag (uq gl g v va) w w'
def Yu(vs:List Value)(B:Nat):Prop:=∀u∈vs,∀k,u.ownBlock=some k->k<B
theorem ag.El{vb:Value}(h:w.grownBy w' vb.ownBlock):ag (λx=>vb.ownBlock=some x) w w':=⟨h.os,h.tape,h.output,h.size,λk hk hn=>h.block k hk (λe=>zw)⟩
theorem dB.read{w2:World}{d:Pl.Dk}{rR:Int}(h:dB w gl g v va vs d rd l)(hd:aJ w2 g v d rR)(ho:ag (·=g) w w2):dB w2 gl g v va vs d rR l:=by
 have hk:bR (·=g) w [108]:=λx hx=>by obtain⟨wr',sy',hg'⟩:=h.gq.aC;rw[hx];exact⟨_,zu,hg'.dV⟩
 exact⟨hd,h.cells.only ho hk zj,h.rows.only ho hk zj zj⟩
theorem dB.low{d:Pl.Dk}(h:dB w gl g v va vs d rd l):Yu vs w.heap.size:=by
 intro u hu k hk;obtain⟨j,hj⟩:=uZ hu;have PD:vs.length=l.all.length:=by simpa using h.rows.own.1
 have hjl:j<l.all.length:=by rw[<-PD];exact(cR.1 hj).1
 exact((h.rows.each j u _ hj (aF hjl)).lt k hk).2
theorem ag.LP{iw:Value}{w1 w2:World}(ho:ag (uq gl g v va) w w1)(h:ag (uq gl g v iw) w1 w2)(hs:Sep w va iw):ag (uq gl g v va) w w2:=
 ho.trans h (λx hx e=>by
  rcases e with e|e
  ·exact .inl e
  ·rcases hs x e with e|e
   ·exact .inr e
   grind)
def ahU(e k:Nat)(b s:List UInt8):Prop:=Pl.jQ e s=true/\Pl.num ((s.drop 9).take 4)=k/\Pl.sizeOf s<=240/\b.length+Pl.sizeOf s<=2000
theorem ahq{e nx:Nat}{b:List UInt8}{all:List (List UInt8)}(r:List (Option (List UInt8)))(h:¬ahU e k b s):Pl.scan e (some s::r) k b all nx=(all,nx):=by unfold ahU at h;rw[Pl.scan,aj h]
namespace Pl
variable (d:Dk) (e first next k:Nat)
def EA:Bool:=(d.look (first+2+k)).any (jQ e)
theorem Ws(h:next<=k):tT d e first next (k+1)=tT d e first next k++(if EA d e first k then[.wr (first+2+k) []]else[]):=by
 unfold tT EA;rw[jK,AX,gH];congr 1;by_cases hc:(d.look (first+2+k)).any (jQ e)=true
 ·simp[hc,h]
 ·simp[hc]
theorem Uo:∀k,k<=next->tT d e first next k=[]:=by
 intro k hk;unfold tT;rw[List.map_eq_nil_iff,np]
 grind
end Pl
variable {gl g:Nat} {v va:Value} {vs:List Value} {rd:Int} {l:Pl.Lg}
def j8(ops:List Pl.Ch)(gl g:Nat)(v va:Value)(vs:List Value)(d:Pl.Dk)(l:Pl.Lg)(w:World)(e:Ending)(w':World):Prop:=
 Ends (d.run ops).2 3 e/\(∃cO,dB w' gl g v va vs (d.run ops).1 cO l)/\ag (lF gl g v) w w'
theorem j8.stop{ops a r:List Pl.Ch}{c:Pl.Ch}{d dk:Pl.Dk}{w w':World}(he:ops=a++c::r)(h:d.run a=(dk,true))(fK:dk.alive=false)(hd:dB w' gl g v va vs (dk.change c) rd l)(ho:ag (lF gl g v) w w'):j8 ops gl g v va vs d l w (xV 3) w':=by have:=Pl.H8 r h fK (c:=c);rw[<-he]at this;unfold j8;rw[this];exact⟨Ends.no 3,zw,ho⟩
theorem j8.rM{ops:List Pl.Ch}{gl g:Nat}{v va:Value}{vs:List Value}{d dk:Pl.Dk}{rd:Int}{l:Pl.Lg}{w w':World}(h:d.run ops=(dk,true))(hd:dB w' gl g v va vs dk rd l)(ho:ag (lF gl g v) w w'):j8 ops gl g v va vs d l w (.returned (.tuple #[])) w':=by unfold j8;rw[h];exact⟨Ends.rM 3,zw,ho⟩
theorem dB.afl{w w2:World}{d d2:Pl.Dk}{rR:Int}(h:dB w gl g v va vs d rd l)(hd:aJ w2 g v d2 rR)(ho:ag (dF g v) w w2):dB w2 gl g v va vs d2 rR l:=
 ⟨hd,h.cells.only ho h.gq.kinds zj,h.rows.only ho h.gq.kinds zj zj⟩
theorem LU(gl g:Nat)(va:Value)(l:Pl.Lg)(i p:Nat)(w:World)(h:dW w gl g va l)(hi:i<=4096)(hp:l.first+2+i=p):
 bG 212 #[.pointer (some ⟨gl,0,none⟩),.int .i64 (i:Nat)] w λe w'=>e= .returned (.int .i64 (p:Nat))/\w'=w:=by
 subst hp;exact ur gl g va l i w h hi
namespace Pl
variable {s:List UInt8} {d:Dk} {first n:Nat}
def LV(d:Dk)(first:Nat):Nat->Nat
 |0=>0
 |k+1=>max (LV d first k) (gw (d.look (first+k)))
theorem aao(o:Option (List UInt8)):gw o<18446744073709551616:=by
 unfold gw;split
 ·next r=>exact eN r 8
 ·omega
theorem abB(d:Dk)(first:Nat):∀k,LV d first k<18446744073709551616:=by
 intro k
 induction k with
 |zero=>show 0<_;omega
 |succ k ih=>have:=aao (d.look (first+k));show max _ _<_;omega
theorem afE(h:s.headD 0≠72):gw (some s)=0:=by
 unfold gw
 grind
theorem abS(h:s.headD 0=72):gw (some s)=num ((s.drop 1).take 8):=by
 match s,h with
 |x::r,h=>have:x=72:=h;subst this;rfl
 | [],h=>grind
theorem Oa(first n:Nat)(h:d.aW=0):iz d first n=(d,.inl 3):=by unfold iz;rw[ah h]
theorem OD(h:d.aW≠0)(he:LV d first 2=0):iz d first n=(d,.inl 2):=by
 unfold iz;rw[aj h];have:max (gw (d.look first)) (gw (d.look (first+1)))=0:=by
  have e:LV d first 2=max (max 0 (gw (d.look (first+0)))) (gw (d.look (first+1))):=rfl
  grind
 simp only[this,ah]
theorem N8(h:d.aW≠0){ep:Nat}(hep:LV d first 2=ep)(he:ep≠0){r:List (List UInt8)×Nat}(hr:scan ep ((List.range (n-2)).map (λi=>d.look (first+2+i))) 0 [] [] 0=r){res:Dk×Bool}(yS:d.run (oY (tT d ep first r.2 (n-2)))=res):
 iz d first n=(res.1,if res.2 then .inr ⟨first,n-2,ep,r.2,r.1,false⟩else .inl 3):=by
 subst hr yS;unfold iz;rw[aj h];have:max (gw (d.look first)) (gw (d.look (first+1)))=ep:=by
  have e:LV d first 2=max (max 0 (gw (d.look (first+0)))) (gw (d.look (first+1))):=rfl
  grind
 simp only[this,aj he];rcases d.run _ with⟨d',ok⟩;cases ok<;>rfl
end Pl
variable {gl g first n:Nat} {v iw va:Value} {gj vs:List Value} {d d':Pl.Dk} {cO rd:Int} {l' l:Pl.Lg} {w w':World}
def lg0(first n ep:Nat):Pl.Lg:=⟨first,n-2,ep,0,[],false⟩
def lN(gl g:Nat)(v:Value)(d:Pl.Dk)(first n:Nat)(w:World)(e:Ending)(w':World):Prop:=
 ∃(k:Nat) (iw:Value) (gj:List Value) (cO:Int) (l':Pl.Lg),aeJ k e/\dB w' gl g v iw gj (Pl.iz d first n).1 cO l'/\(Pl.iz d first n).2=(if k=0 then .inr l' else .inl k)/\Sep w (.slice none 0 0) iw/\ag (uq gl g v (.slice none 0 0)) w w'
theorem lN.no{k:Nat}(hk:k=3\/k=2)(h:dB w' gl g v iw gj d' cO l')(ho:Pl.iz d first n=(d',.inl k))(hs:Sep w (.slice none 0 0) iw)(pQ:ag (uq gl g v (.slice none 0 0)) w w'):lN gl g v d first n w (xV k) w':=by
 refine⟨k,iw,gj,cO,l',?_,zw,?_,hs,pQ⟩
 ·rcases hk with rfl|rfl
  ·exact .inr (.inl ⟨rfl,rfl⟩)
  ·exact .inr (.inr ⟨rfl,rfl⟩)
 grind
theorem lN.yes(h:dB w' gl g v iw gj d' cO l')(ho:Pl.iz d first n=(d',.inr l'))(hs:Sep w (.slice none 0 0) iw)(pQ:ag (uq gl g v (.slice none 0 0)) w w'):lN gl g v d first n w (.returned (.tuple #[])) w':=
 ⟨0,iw,gj,cO,l',.inl ⟨rfl,rfl⟩,zw,zw,hs,pQ⟩
theorem dB.eE(h:dB w gl g v va vs d rd l)(m:Nat)(mi:Int)(hmi:mi=((m:Nat):Int))(hm:m<18446744073709551616):
 dB (w.setCell ⟨gl,3,none⟩ (.int .u64 mi)) gl g v va vs d rd {l with eE:=m}/\ag (uq gl g v va) w (w.setCell ⟨gl,3,none⟩ (.int .u64 mi)):=by
 subst hmi;have ho:ag (·=gl) w (w.setCell ⟨gl,3,none⟩ (.int .u64 ((m:Nat):Int))):=(ag.refl (·=gl) w).setCell (p:=⟨gl,3,none⟩) zu _;have hk:bR (·=gl) w [252]:=by rintro x rfl;exact⟨_,zu,h.cells.aC.dV⟩
 exact⟨⟨h.gq.JE ho hk zj zj,⟨h.cells.aC.bw 3 _,h.cells.small.1,h.cells.small.2.1,hm⟩,h.rows.only ho hk zj zj⟩,ho.mono (λ_ _ e=> .inl (.inr e))⟩
theorem sN{b:Nat}{t:TypeId}{cs:List Value}(h:dB w gl g v va vs d rd l)(hb:ay w b t cs)(ht:t∉nG):¬uq gl g v va b:=λhk=>by obtain⟨t',h1,h2⟩:=h.kinds b hk;exact ht (hb.dV.dv h2▸h1)
theorem Qw(W:World)(a b c:Value):(callFunc 155 #[a,b,c]).run Tryz.prog W= .ok (.enter 155 #[a,b,c]) W:=by simp[go_sem]
def adE(g:Nat)(v:Value)(d:Pl.Dk)(first n:Nat)(w:World)(e:Ending)(w':World):Prop:=
 (∃cO,aJ w' g v (Pl.iz d first n).1 cO)/\ag (dF g v) w w'/\
 ((∃k,(Pl.iz d first n).2= .inl k/\(k=3\/k=2)/\e= .returned (.tuple #[.pointer none,Di k]))\/
  (∃gl iw gj cO l',(Pl.iz d first n).2= .inr l'/\e= .returned (.tuple #[.pointer (some ⟨gl,0,none⟩),.nilIface])/\dB w' gl g v iw gj (Pl.iz d first n).1 cO l'/\w.heap.size<=gl/\∀x,iw.ownBlock=some x->w.heap.size<=x))
theorem aaX(gl g:Nat)(v va:Value)(vs:List Value)(d:Pl.Dk)(rd:Int)(l:Pl.Lg)(w:World)(h:dB w gl g v va vs d rd l)(me:d.aW≠0)(jn:l.first+2+l.data<=d.aV.length)(kD:l.all.length<=5000)(hno:∀k s,k<l.data->d.look (l.first+2+k)=some s->Pl.jQ l.eE s=false):
 bG 158 #[.pointer (some ⟨gl,0,none⟩)] w (xm gl g v va d l w):=by
 have wu:=h;have hsm:=h.cells.small;obtain⟨a0,a1,a2,a3,a4,a5,a6,b0,b1,b2,b3,b4,b5,b6⟩:=gg h.cells.aC;obtain⟨res,yS⟩:=ze (Pl.scan l.eE (reads d l) 0 [] l.all l.next);have pA:∀(W:World) (iw:Value) (gj:List Value) (cO:Int),dB W gl g v iw gj d cO {l with all:=res.1,next:=res.2}->Sep w va iw->ag (uq gl g v va) w W->xm gl g v va d l w (.returned (.tuple #[])) W:=by intro W iw gj cO h1 h2 h3;unfold xm;rw[yS];exact⟨iw,gj,cO,rfl,h1,h2,h3⟩
 go_enter Tryz.func158,Tryz.ntmps158;go_wp2_with fail
 go_loopw [2,13] (λvb i W=>∃(k:Nat) (b:List UInt8) (yI:List (List UInt8)) (nk:Nat) (iw:Value) (gj:List Value) (Hm:Int) (B:Nat),k<=l.data/\i= .int .i64 (k:Int)/\Hid (W.ownsRow B 5 1 vb b.length (bv b))/\Hid (w.heap.size<=B/\B<=W.heap.size/\b.length<=2000/\yI.length<=5000+k/\nk<=l.data)/\
  Hid (Yu gj B)/\Hid (Pl.scan l.eE ((reads d l).drop k) k b yI nk=res)/\Hid (dB W gl g v iw gj d Hm {l with all:=yI,next:=nk})/\Hid (Sep w va iw)/\Hid (ag (uq gl g v va) w W)) (λ_ i _=>l.data-(intOf i).toNat)
 case atStart=>exact⟨0,[],l.all,l.next,va,vs,rd,w.heap.size,aM _,rfl,dA _ _ _ _,⟨ai _,ai _,zu,zo,hsm.2.1⟩,wu.low,yS,wu,Sep.refl _ _,ag.refl _ _⟩
 case round=>
  obtain⟨k,b,yI,nk,iw,gj,Hm,B,hk,rfl,HOB,rK,ajE,PI,vN,adR,HO⟩:=hrel;obtain⟨a0,a1,a2,a3,a4,a5,a6,b0,b1,b2,b3,b4,b5,b6⟩:=gg vN.cells.aC;obtain⟨Ab,atS,rfl,_,_,_⟩:=bJ HOB;have hvo:wr.ownsRow 0 29 1 iw yI.length gj:=vN.rows.own;obtain⟨Av,sP,rfl,_,_,_⟩:=bJ hvo;by_cases hkd:k<l.data
  ·have ajF:=PI.out;rw[Wa d l k hkd]at ajF;have s0:=a0;have yl:l.first+2+k<d.aV.length:=zo;go_wp2_with fail;cases mW:d.look (l.first+2+k)with
   |none=>
    go_region_held3 (λW:World=>W.cell? ⟨gl,0,none⟩=some (.pointer (some ⟨g,0,none⟩))) (first|exact s0|exact s1|fail) (first
     |(go_at_call 212;(with_reducible refine(ur gl g (.slice Av yI.length sP) {l with all:=yI,next:=nk} k _ ?_ ?_).mono ?_);exact vN.cells.aa (w':=wr.drew) ((ak _ _).drew);omega;rintro e w' ⟨rfl,rfl⟩)
     |(go_at_call 156;(with_reducible refine(AA g v d Hm (l.first+2+k) _ ?_ ?_ ?_ _ ?_ ?_).mono ?_);exact vN.gq.aa (w':=wr.drew) ((ak _ _).drew);exact yl;exact me;omega;exact mW;rintro e w2 ⟨rfl,⟨rR,oZ,_⟩,fw⟩
       have Kb:=oZ;have kJ:(ag (·=g) wr w2):=⟨fw.os,fw.tape,fw.output,fw.size,fw.block⟩;have rT:=vN.read Kb kJ;have s1:=rT.cells.aC.cell 0;clear oZ fw)
     |fail)
    have aiz:=(HO.LP (kJ.mono (λx _ hx=>(.inl (.inl (.inl hx)):uq gl g v (.slice Av yI.length sP) x))) adR);have adC:∀W,Below w2.heap.size w2 W->(yI,nk)=res->xm gl g v va d l w (.returned (.tuple #[])) W:=by intro W hW hr;refine pA W _ gj rR ?_ adR (aiz.aa hW);rw[<-hr];exact rT.aa hW
    go_wp2_with fail;go_end0;exact adC _ (ak _ _) (by rw[<-ajF,mW];rfl)
   |some s=>
    go_region_held3 (λW:World=>W.cell? ⟨gl,0,none⟩=some (.pointer (some ⟨g,0,none⟩))) (first|exact s0|exact s1|fail) (first
     |(go_at_call 212;(with_reducible refine(ur gl g (.slice Av yI.length sP) {l with all:=yI,next:=nk} k _ ?_ ?_).mono ?_);exact vN.cells.aa (w':=wr.drew) ((ak _ _).drew);omega;rintro e w' ⟨rfl,rfl⟩)
     |(go_at_call 156;(with_reducible refine(Cf g v d Hm (l.first+2+k) _ ?_ ?_ ?_ s _ ?_ ?_).mono ?_);exact vN.gq.aa (w':=wr.drew) ((ak _ _).drew);exact yl;exact me;omega;exact mW;rintro e w2 ⟨rfl,⟨rR,oZ,_⟩,fw⟩
       have Kb:=oZ;have kJ:(ag (·=g) wr w2):=⟨fw.os,fw.tape,fw.output,fw.size,fw.block⟩;have rT:=vN.read Kb kJ;have s1:=rT.cells.aC.cell 0;clear oZ fw)
     |fail)
    have aiz:=(HO.LP (kJ.mono (λx _ hx=>(.inl (.inl (.inl hx)):uq gl g v (.slice Av yI.length sP) x))) adR);have adC:∀W,Below w2.heap.size w2 W->(yI,nk)=res->xm gl g v va d l w (.returned (.tuple #[])) W:=by intro W hW hr;refine pA W _ gj rR ?_ adR (aiz.aa hW);rw[<-hr];exact rT.aa hW
    have JW:=uP vN.gq mW;have ant:=ajF;rw[mW]at ant;have pK:bR (·=g) wr [108]:=λx hx=>by obtain⟨wr',sy',hg'⟩:=vN.gq.aC;rw[hx];exact⟨_,zu,hg'.dV⟩
    obtain⟨sz,hsz⟩:=ze (Pl.sizeOf s);have m1:=λw=>kZ w s 14 16 14 2 rfl rfl zo;have G1:=pI ((s.drop 14).take 2);have atT:sz<65536:=by have:=Pl.eN (s.drop 14) 2;rw[<-hsz];exact this
    have hzl:((s.drop 14).take 2).length<=8:=ao (ow _ _) zo;have G2:∀W,bG 157 #[.string (ar ((s.drop 14).take 2))] W λe w'=>e= .returned (.int .u64 (sz:Nat))/\W=w':=by intro W;rw[<-hsz];exact G1 W hzl
    obtain⟨z1,kK⟩:=ze (ar ((s.drop 14).take 2));rw[kK]at m1 G2;cases bI:Pl.jQ l.eE s with
    |false=>go_wp2_with fail;refine(YG gl g (.slice Av yI.length sP) {l with all:=yI,next:=nk} s _ rT.cells JW).mono ?_;rintro e w3 ⟨he,n3,rfl⟩;rw[show BG _ s=_ from ye bI]at he;subst he;go_wp2_with fail;refine(G2 _).mono ?_;rintro e w' ⟨rfl,rfl⟩;go_wp2_with fail;go_end0;exact adC _ (below_drewN (ak _ _) _) (by rw[<-ant,ahq];intro h;have h1:=h.1;rw[bI]at h1;cases h1)
    |true=>rw[hno k s hkd mW]at bI;cases bI
  ·obtain rfl:k=l.data:=zo;have hr:=PI.out;rw[aaJ]at hr;have HR:((yI,nk)=res):=hr;go_wp2_with fail;go_end0;refine pA _ _ gj Hm ?_ adR HO;rw[<-HR];exact vN
theorem Vv(gl g:Nat)(v va:Value)(vs:List Value)(d:Pl.Dk)(rd:Int)(l:Pl.Lg)(w:World)(h:dB w gl g v va vs d rd l)(me:d.aW≠0)(jn:l.first+2+l.data<=d.aV.length)(hno:∀k s,k<l.data->d.look (l.first+2+k)=some s->Pl.jQ l.eE s=false):
 bG 159 #[.pointer (some ⟨gl,0,none⟩)] w (j8 (Pl.oY (Pl.tT d l.eE l.first l.next l.data)) gl g v va vs d l w):=by
 obtain⟨wu,Uc⟩:=dz h hno;clear hno;have hsm:=h.cells.small;obtain⟨a0,a1,a2,a3,a4,a5,a6,b0,b1,b2,b3,b4,b5,b6⟩:=gg h.cells.aC;have HLF:=zi me;obtain⟨st,hst⟩:∃st,st=Pl.tT d l.eE l.first l.next:=⟨_,rfl⟩;rw[<-hst];have HS:=zi hst;obtain⟨N,hN⟩:=ze d.aV.length;have HN:=zi hN;rw[hN]at jn;have hes:(⟨#[]⟩:ByteArray)=ar []:=rfl;obtain⟨nx,ED⟩:=ze l.next;have PL:=zi ED;rw[ED]at a4 hsm;clear h me hst hN hes ED;go_enter Tryz.func159,Tryz.ntmps159;go_wp2_with fail;clear a0 a1 a2 a3 a4 a5 a6 b0 b1 b2 b3 b4 b5 b6
 go_loopw [2,3] (λsw i W=>∃(k:Nat) (dk:Pl.Dk) (Hm:Int),k<=l.data/\nx<=k/\sw= .bool (!(st k).isEmpty)/\i= .int .i64 (k:Int)/\Hid (d.run (st k)=(dk,true))/\Hid (∀j,k<=j->dk.look (l.first+2+j)=d.look (l.first+2+j))/\Hid (dk.aW≠0)/\
  Hid (dB W gl g v va vs dk Hm l)/\Hid (ag (lF gl g v) w W)) (λ_ i _=>l.data-(intOf i).toNat)
 case atStart=>
  have h0:st nx=[]:=by rw[HS.out,PL.out];exact Pl.Uo _ _ _ _ _ (ai _)
  exact⟨nx,d,rd,hsm.2.1,ai _,by rw[h0];rfl,rfl,by rw[Hid,h0];rfl,λ_ _=>rfl,HLF,wu,ag.refl _ _⟩
 case round=>
  obtain⟨k,dk,Hm,hk,CF,rfl,rfl,HR,YF,HLI,vN,HO⟩:=hrel;obtain⟨a0,a1,a2,a3,a4,a5,a6,b0,b1,b2,b3,b4,b5,b6⟩:=gg vN.cells.aC;have bU:dk.aV.length=N:=by have:=Pl.AH d (st k);rw[HR.out]at this;exact this.trans HN
  by_cases hkd:k<l.data
  ·have s0:=zi a0;obtain⟨p,hp⟩:=ze (l.first+2+k);have HP:=zi hp;have yl:p<dk.aV.length:=zo;have hss:st (k+1)=st k++(if Pl.EA d l.eE l.first k then[.wr (l.first+2+k) []]else[]):=by rw[HS.out];exact Pl.Ws _ _ _ _ _ (by rw[PL.out];exact CF)
   have T8:=zi hss;have ajy:=YF.out k (ai _);rw[hp]at ajy;have ajk:=zi ajy;clear hss ajy;go_wp2_with fail;cases fu:dk.look p with
   |none=>
    have yy:=zi fu;have adX:Hid (st (k+1)=st k):=by rw[Hid,T8.out,aj,dH];unfold Pl.EA;rw[HP.out,<-ajk.out,yy.out];simp
    clear fu
    go_region_held3 (λW:World=>W.cell? ⟨gl,0,none⟩=some (.pointer (some ⟨g,0,none⟩))) (first|exact s0.out|exact s1.out|fail) (first
     |(go_at_call 212;(with_reducible refine(LU gl g va l k p _ ?_ ?_ ?_).mono ?_);exact vN.out.cells.aa (w':=wr.drew) ((ak _ _).drew);omega;exact HP.out;rintro e w' ⟨rfl,rfl⟩)
     |(go_at_call 156;(with_reducible refine(AA g v dk Hm p _ ?_ ?_ ?_ _ ?_ ?_).mono ?_);exact vN.out.gq.aa (w':=wr.drew) ((ak _ _).drew);exact yl;exact HLI.out;rfl;exact yy.out;rintro e w2 ⟨rfl,⟨rR,oZ,_⟩,fw⟩
       have rT:Hid (dB w2 gl g v va vs dk rR l):=vN.out.read oZ ⟨fw.os,fw.tape,fw.output,fw.size,fw.block⟩;have kJ:Hid (ag (lF gl g v) w w2):=HO.out.aE (ag.mono (F:=(·=g)) ⟨fw.os,fw.tape,fw.output,fw.size,fw.block⟩ (λx _ hx=> .inl (.inl hx)));have s1:=zi (rT.out.cells.aC.cell 0);clear oZ fw)
     |fail)
    go_wp2_with fail;refine⟨⟨k+1,dk,rR,zo,zo,?_,by go_num,?_,λj hj=>YF j zo,HLI,rT.aa (ak _ _),kJ.aa (ak _ _)⟩,by simp[intOf];omega⟩
    ·rw[adX.out]
    ·rw[adX.out];exact HR
   |some s=>
    have yy:=zi fu;clear fu;have JW:=uP vN.gq yy;have Lu:Pl.EA d l.eE l.first k=Pl.jQ l.eE s:=by unfold Pl.EA;rw[HP.out,<-ajk.out,yy.out];rfl
    have HSB:=zi Lu;clear Lu
    go_region_held3 (λW:World=>W.cell? ⟨gl,0,none⟩=some (.pointer (some ⟨g,0,none⟩))) (first|exact s0.out|exact s1.out|fail) (first
     |(go_at_call 212;(with_reducible refine(LU gl g va l k p _ ?_ ?_ ?_).mono ?_);exact vN.out.cells.aa (w':=wr.drew) ((ak _ _).drew);omega;exact HP.out;rintro e w' ⟨rfl,rfl⟩)
     |(go_at_call 156;(with_reducible refine(Cf g v dk Hm p _ ?_ ?_ ?_ s _ ?_ ?_).mono ?_);exact vN.out.gq.aa (w':=wr.drew) ((ak _ _).drew);exact yl;exact HLI.out;rfl;exact yy.out;rintro e w2 ⟨rfl,⟨rR,oZ,_⟩,fw⟩
       have rT:Hid (dB w2 gl g v va vs dk rR l):=vN.out.read oZ ⟨fw.os,fw.tape,fw.output,fw.size,fw.block⟩;have kJ:Hid (ag (lF gl g v) w w2):=HO.out.aE (ag.mono (F:=(·=g)) ⟨fw.os,fw.tape,fw.output,fw.size,fw.block⟩ (λx _ hx=> .inl (.inl hx)));have s1:=zi (rT.out.cells.aC.cell 0);clear oZ fw)
     |fail)
    cases bI:Pl.jQ l.eE s with
    |false=>
     have HOW:=zi bI;have adX:Hid (st (k+1)=st k):=by rw[Hid,T8.out,aj,dH];rw[HSB.out,HOW.out];decide
     clear bI;go_wp2_with fail;refine(YG gl g va l s _ rT.cells JW).mono ?_;rintro e w3 ⟨he,n3,rfl⟩;rw[show BG _ s=_ from ye HOW.out]at he;subst he;go_wp2_with fail;refine⟨⟨k+1,dk,rR,zo,zo,?_,by go_num,?_,λj hj=>YF j zo,HLI,rT.aa (below_drewN (ak _ _) _),kJ.aa (below_drewN (ak _ _) _)⟩,by simp[intOf];omega⟩
     ·rw[adX.out]
     ·rw[adX.out];exact HR
    |true=>rw[Uc.out k s hkd (by rw[HP.out,<-ajk.out];exact yy.out)]at bI;cases bI
  ·obtain rfl:k=l.data:=zo;cases hem:(st l.data).isEmpty
   ·have HC:Hid (Pl.oY (st l.data)=st l.data++ [.sy]):=by unfold Pl.oY;rw[Hid,aj (by rw[hem];decide)]
    clear hem;go_wp2_with fail;refine(yB g v dk Hm _ vN.gq).mono ?_;rintro e w2 ⟨⟨fK,rfl⟩|⟨fK,rfl⟩,h2,fw⟩
    ·obtain⟨rT,kJ,R2⟩:=kt (vN.afl h2 fw) (HO.aE (fw.mono (λ_ _ h=> .inl h))) (Pl.Bn (c:= .sy) HR fK);clear h2 fw fK;go_wp2_with fail;go_end0;exact j8.rM (by rw[HC.out];exact R2) rT kJ
    ·obtain⟨rT,kJ,wE⟩:=kt (vN.afl h2 fw) (HO.aE (fw.mono (λ_ _ h=> .inl h))) fK;clear h2 fw fK;unfold xV;go_wp2_with fail;exact⟨rfl,j8.stop (r:=[]) HC HR wE rT kJ⟩
   ·have HC:Hid (Pl.oY (st l.data)=st l.data):=by unfold Pl.oY;rw[Hid,ah hem];exact(List.isEmpty_iff.1 hem).symm
    clear hem;go_wp2_with fail;go_end0;exact j8.rM (by rw[HC.out];exact HR) vN HO
end Go.Proofs.YtbhpofdafhahgaaGreatDoor
