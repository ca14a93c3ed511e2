/- Part 19: RwF RwG RwH RwI RwJ RwK RwL RwM MapA MemA PlainBook. -/
import Derived.Test.YtbhpofdafhahgaaGreatDoorMq18
set_option linter.all false
set_option maxHeartbeats 8000000
set_option maxRecDepth 100000
namespace Go.Proofs.YtbhpofdafhahgaaGreatDoor
open Go.RowKit
variable [Inhabited eH]
section
variable {S:iM} {aA:Nat} {ps:List Pl.Pr} {K:FuncId} {cg:Array Value} {J:List Pl.Pr->(Nat->Prop)->World->Prop} {O0 O:Nat->Prop} {w W W':World} {q:Pl.Key} {A:Option Addr} {aq top k:Nat} {lv:Value} {D R:List Pl.Pr}
theorem uK.aa(E:uK S ps K cg J)(hS:eP S aA)(h:J D O W)(hb:dP W W'):J D O W':=E.sf h (.ae hb) (hS.aa (E.dm h) hb)
theorem mG.aa{l:List UInt8}(h:mG W A l)(hb:dP W W'):mG W' A l:=h.jL (ag.ae hb (λ_=>False)) zu
theorem EIn.aa(h:EIn S J O0 w q A aq top lv D R k O W)(E:uK S ps K cg J)(hS:eP S aA)(hb:dP W W'):EIn S J O0 w q A aq top lv D R k O W':=by refine⟨E.aa hS h.j hb,h.new,h.off,h.ctx.aa hb,⟨h.szs.1,ao h.szs.2.1 hb.size,h.szs.2.2⟩,?_,h.akX,⟨h.xx.1.aa hb,h.xx.2⟩,h.fr.1.trans (.ae hb),h.fr.2.1.aE (ag.ae hb _),h.fr.2.2.trans (.ae hb)⟩;obtain⟨cs,h1,h2⟩:=h.out;exact⟨cs,h1.aa hb,h2.mono (λc x _ hx=>hx.jL (ag.ae hb (λ_=>False)) zu)⟩
structure Uu(S:iM)(ps:List Pl.Pr)(J:List Pl.Pr->(Nat->Prop)->World->Prop)(O0:Nat->Prop)(w:World)(q:Pl.Key)(A:Option Addr)(D:List Pl.Pr)(fk:Pl.Key)(Af:Option Addr)(nf cf:Nat)(O:Nat->Prop)(W:World):Prop where
 j:J D O W
 new:∀x,O x->O0 x\/w.heap.size<=x
 ctx:Ctx W
 xx:mG W A q/\∀p,A=some p->¬O p.block
 fr:lW Sb (λk=>S.bs k\/O0 k) w W/\Gl w W/\lW S.ts (λk=>S.bs k\/O0 k) w W
 size:w.heap.size<=W.heap.size
 len:fk.length=nf/\nf<=60/\nf<=cf
 from_:mG W Af fk/\∀p,Af=some p->¬O p.block
 rest:D++Pl.jw (Pl.jU q) (Pl.pJ fk ps)=Pl.jw (Pl.jU q) ps
 above:∀x∈Pl.pJ fk ps,¬x.key<q
def XX(fk:Pl.Key)(R:List Pl.Pr)(k:Nat):Pl.Key:=match k with|0=>fk|k+1=>(R.getD k ⟨[],[]⟩).key++ [0]
structure FrK(fk:Pl.Key)(R:List Pl.Pr)(k:Nat)(O:Nat->Prop)(Af:Option Addr)(nf cf:Nat)(W:World):Prop where
 len:(XX fk R k).length=nf/\nf<=60/\nf<=cf
 dm:mG W Af (XX fk R k)
 off:∀p,Af=some p->¬O p.block
theorem Uu.agb{fk:Pl.Key}{Af:Option Addr}{nf cf:Nat}{w2:World}{v:Value}(h:Uu S ps J O0 w q A D fk Af nf cf O W)(E:uK S ps K cg J)(hS:eP S aA)(hf:SF S W w2)(ha:S.At ps w2)(ho:xy w2 W.heap.size v ((Pl.pJ fk ps).take 16)):
 EIn S J O0 w q A W.heap.size w2.heap.size v D ((Pl.pJ fk ps).take 16) 0 O w2/\FrK fk ((Pl.pJ fk ps).take 16) 0 O Af nf cf w2:=by
 have hA:=E.dm h.j;have bt:∀{A:Option Addr} {l:List UInt8},mG W A l->mG w2 A l:=λhb=>by have:=SF.eo hS hf hA (A:=_) (cs:=bv _) (t:=5) ⟨hb.1.src,hb.2⟩ zj;exact⟨this.1.bytes,this.2⟩
 obtain⟨cs,h1,h2⟩:=ho;refine⟨⟨by rw[re,dH];exact E.sf h.j hf ha,h.new,λx hx=> .inl (E.lt h.j x hx).1,h.ctx.gl hf.2.1,⟨hf.1.size,zo,h.size⟩,⟨cs,h1,h2.mono (λc x _ hx=>hx.t zo)⟩,λg hg=>(AK h1 g hg).2,⟨bt h.xx.1,h.xx.2⟩,?_⟩,⟨h.len,bt h.from_.1,h.from_.2⟩⟩;exact⟨h.fr.1.te hf.1 zS,h.fr.2.1.aE hf.2.1,h.fr.2.2.te hf.2.2 zS⟩
theorem Uu.start(hJ:J [] O w)(hc:Ctx w){n ca:Nat}(hn:q.length=n)(h50:n<=50)(GJ:n<=ca)(hA:mG w A q)(ho:∀p,A=some p->¬O p.block):Uu S ps J O w q A [] q A n ca O w:=
 ⟨hJ,zS,hc,zw,⟨.refl _,ag.refl _ _,.refl _⟩,zo,zo,zw,by rw[aX,Pl.agB],λx hx hlt=>by
   have:=(uO.1 hx).2
   grind⟩
theorem EIn.fin{L:List Pl.Pr}(h:EIn S J O0 w q A aq top lv D R k O W)(hL:D++R.take k=L):aid S J O0 L w (.returned .nilIface) W:=⟨rfl,O,hL▸h.j,h.new,h.fr⟩
end
variable {aA aq:Nat} {w w':World} {v:Value} {xs:List (List UInt8)} {F:Nat->Prop}
variable (S:iM) (ps:List Pl.Pr) (gK k j:Nat) (l:List UInt8)
theorem JQ{S:iM}{ps:List Pl.Pr}{K:FuncId}{cg:Array Value}{J:List Pl.Pr->(Nat->Prop)->World->Prop}(hS:eP S aA)(Qj:YZ S ps)(E:uK S ps K cg J)(O:Nat->Prop)(q:Pl.Key)(A:Option Addr)(n ca:Nat)(w:World)(hJ:J [] O w)(hc:Ctx w)(hn:q.length=n)(h50:n<=50)(GJ:n<=ca)(hA:mG w A q)(ho:∀p,A=some p->¬O p.block):
 bG 119 #[S.v,.slice A n ca,.func (.func K) #[] cg] w (aid S J O (Pl.jw (Pl.jU q) ps) w):=by
 have wu:=zi (Uu.start (S:=S) (ps:=ps) hJ hc hn h50 GJ hA ho);have HE:=E.enter;have HM:=Qj.aeQ;have HM2:=Qj.abr;have HN:=zi hn;have atQ:n<=50:=h50;unfold iM.v;clear hJ hc hn h50 GJ hA ho;go_enter Tryz.func119,Tryz.ntmps119;go_wp2_with fail
 go_loopw [7] (λv wr=>∃(D:List Pl.Pr) (fk:Pl.Key) (Af:Option Addr) (nf cf:Nat) (O':Nat->Prop),v= .slice Af nf cf/\Hid (Uu S ps J O w q A D fk Af nf cf O' wr)) (λv wr=>(Pl.pJ (bytesOf wr v) ps).length)
 case atStart=>exact⟨[],q,A,n,ca,O,rfl,wu⟩
 case round=>
  obtain⟨D,fk,Af,nf,cf,O',rfl,HO⟩:=hrel;obtain⟨ws,hws⟩:∃x,x=wr:=⟨_,rfl⟩;subst hws;have HB0:Hid ((Pl.pJ (bytesOf ws (.slice Af nf cf)) ps).length=(Pl.pJ fk ps).length):=by rw[Hid,Hs HO.from_.1.1 HO.len.1]
  have PI:=zi (Qj.scan fk Af nf cf ws (E.dm HO.j) HO.ctx HO.len.1 (zA HO.len) HO.from_.1.1);go_wp2_with fail;refine PI.mono ?_;rintro e w2 ⟨Fz,ha2,v,rfl,ahm⟩;obtain⟨yl,hfk⟩:=HO.agb E hS Fz ha2 ahm;obtain⟨R,hR⟩:=ze ((Pl.pJ fk ps).take 16);rw[hR]at yl hfk;have HR:=zi hR;obtain⟨cs,hrw,TX⟩:=yl.out;obtain⟨Al,cl,rfl,CC,_,_⟩:=bJ hrw;obtain⟨nl,kG⟩:=ze R.length;rw[kG]at CC;obtain⟨Pn,Lr,HFK⟩:=kt kG yl hfk;have att:nl<=16:=by rw[<-kG,<-hR,aP];omega
  rw[kG];clear Fz ha2 ahm yl hfk hR hrw TX kG;go_wp2_with fail
  go_loopw [7,25] (λv i wr=>∃(k:Nat) (O1:Nat->Prop) (Ak:Option Addr) (nk ck:Nat),k<=nl/\v= .slice Ak nk ck/\i= .int .i64 (k:Int)/\Hid (EIn S J O w q A ws.heap.size w2.heap.size (.slice Al R.length cl) D R k O1 wr)/\Hid (FrK fk R k O1 Ak nk ck wr)/\Hid (∀(j:Nat) (x:Pl.Pr),j<k->R[j]?=some x->Pl.jU q x.key=true)) (λ_ i _=>nl-(intOf i).toNat)
  case atStart=>exact⟨0,O',Af,nf,cf,aM _,rfl,rfl,Lr,HFK,λj x hj=>by omega⟩
  case round=>
   obtain⟨k,O1,Ak,nk,ck,hk,rfl,rfl,HI,HF,C9⟩:=hrel;by_cases pX:k<nl
   ·obtain⟨p,hp⟩:∃x,R[k]?=some x:=⟨_,aF (by rw[Pn.out];exact pX)⟩;obtain⟨cs2,hrw,TX⟩:=HI.out.out;obtain⟨c,⟨A1,c1,B1,c2,rfl,aI,bz,fo,LR,Mg⟩,bU,yT⟩:=TX.dm hp;obtain⟨_,_,eAl,_,tX,_⟩:=bJ hrw;injection eAl with eA1 eA2 eA3;subst eA1 eA3;clear eA2;have at0:=yT 0 zj;have at1:=yT 1 zj;obtain⟨b,off,rfl,g0⟩:=tX.dm _ _ at0;have g1:=tX.cell _ _ at1;rw[<-ew]at g1;rw[cI]at g0;have q1:(k:Int)<(nl:Int):=zo;have hwk:IntKind.i64.wrap ((k:Int)+1)=(k:Int)+1:=aY _ zo;obtain⟨lk,mW⟩:=ze p.key.length;obtain⟨lx,hlx⟩:=ze p.val.length;rw[mW]at g0 fo;rw[hlx]at g1 fo;obtain⟨g6,w4,Ai,qz,cj,B4⟩:=zE wr 206 [.slice A1 lk c1,.slice B1 lx c2];obtain⟨y0,y1,_,_⟩:=aO B4;have hpR:p∈R:=bO hp;have aiN:p∈ps:=by rw[<-HR.out]at hpR;exact(uO.1 (mQ hpR)).1
    have jn:=hS.fit (E.dm HI.j) p aiN;have atq:lk<=40:=by rw[<-mW];exact jn.1.2
    have arW:lx<=100:=by rw[<-hlx];exact jn.2
    have HI4:=zi (HI.aa E hS cj);obtain⟨Am,zW,HP,Xx,YF,HLX,fJ,eY,HR1⟩:=zh9 (Xk p.key q A1 A lk n c1 ca w4 mW HN fo.1 (aI.aa cj).1 (HI4.xx.1).1 zo zo) B4 hp aiN mW hlx (aI.aa cj) (bz.aa cj) LR;obtain⟨CQ,HCP⟩:=dz Mg fo;obtain⟨bb,dM⟩:=ze (Pl.jU q p.key);rw[dM]at Am;have rK:=zi dM;clear cj B4 hp aiN mW hlx aI bz LR Mg fo hrw TX bU yT tX at0 at1 dM hpR jn;go_wp2_with fail;refine Am.mono ?_;rintro e w5 ⟨rfl,nB⟩;obtain⟨HI5,B5⟩:=dz (HI4.aa E hS nB) (zW.aa nB zW.lt);obtain⟨z0,z1,_,_⟩:=aO B5;cases bb with
    |false=>clear nB y0 y1;go_wp2_with fail;go_ret;refine HI5.fin ?_;exact(congrArg (D++·) (Pl.aey (G:=Pl.pJ fk ps) (List.Pairwise.filter _ (hS.uo (E.dm HO.j))) HO.above HR C9 HP rK).symm).trans HO.rest
    |true=>
     obtain⟨CG,HK5⟩:=dz (E.call w5 p A1 B1 c1 c2 lk lx _ O1 HI5.j HI5.ctx (Pl.abX HO.rest (List.length_filter_le _ _) HR C9 HP rK) Xx YF HLX HCP.1 HCP.2 (fJ.aa nB) (eY.aa nB) (λx hx hf=>by have:=HR1.out x hx;have:=HI.off _ hf;omega) (λx hx hf=>by have:=CQ.out x hx;have:=HI.off _ hf;omega)) (fJ.aa nB);clear nB y0 y1;go_wp2_with fail;refine CG.mono ?_;rintro e w6 ⟨rfl,O2,hj6,hO2,jV⟩;have HI6:=zi (HI5.called E HP hj6 hO2 jV);have Rn:=E.lt HI.j;have B6:=zi (jV.aC B5 (λhf=>by have:=(Rn _ hf).1;omega));have HK6:Hid (mG w6 A1 p.key):=HK5.jL jV (λx hx hf=>by have:=HR1.out x hx;have:=HI.off _ hf;omega);obtain⟨v0,v1,_,_⟩:=aO B6;clear hj6 hO2 jV Rn z0 z1;go_wp2_with (first
      |(at_builtin
        refine ic (v:= .slice none 0 0) rfl (.const (.slice none 0 0)) (.tmp 41) rfl rfl (Ob.nil w6 w6.heap.size) A1 lk c1 p.key rfl YF.out HK6.out.1.src (by simp;omega) (ai _) ?_;intro v7 w7 o7 m7;rw[aX]at o7;have b7:Below w6.heap.size w6 w7:=m7.gV (Ob.nil w6 w6.heap.size) (ai _);obtain⟨x1,x2,x3,b7⟩:=yx (o7.alloc (.cells #[.int .u8 ((0:Nat):Int)] 5)) (lH w7 0 zj) (iV b7.size (.cells #[.int .u8 ((0:Nat):Int)] 5)) (b7.trans ((ak w6.heap.size w7).alloc b7.size (.cells #[.int .u8 ((0:Nat):Int)] 5)));clear o7 m7)
      |(at_builtin
        refine ic rfl (.tmp 42) (.tmp 43) rfl rfl x1.out (some ⟨w7.heap.size,0,none⟩) 1 1 [UInt8.ofNat 0] rfl rfl x2.out (by rw[YF.out];omega) x3.out ?_;intro v8 w8 o8 m8;have b8:=b7.out.trans (m8.gV x1.out x3.out);obtain⟨A8,n8,c8,e8,hl8,hc8,hs8,hr8,Ep⟩:=o8.nt b8 (ai _);injection e8 with e8;subst e8;obtain⟨HL8,HC8,HS8,HR8,b8⟩:=OW hl8 hc8 hs8 hr8 b8;clear o8 m8 hl8 hc8 hs8 hr8 Ep)
      |fail)
     have alZ:XX fk R (k+1)=p.key++ [UInt8.ofNat 0]:=by show(R.getD k ⟨[],[]⟩).key++ [0]=_;rw[tY,HP.out];rfl
     have HF8:FrK fk R (k+1) O2 A8 n8 c8 w8:=by refine⟨by rw[alZ];exact⟨HL8,by have:=HL8.out;rw[ax,YF.out,dy]at this;omega,HC8.out⟩,by rw[alZ];exact⟨HS8.bytes,HS8.2⟩,λx hx hf=>?_⟩;have h1:=HR8.out x hx;have h2:=(E.lt HI6.j _ hf).1;omega
     exact⟨⟨k+1,O2,A8,n8,c8,zo,rfl,zu,HI6.aa E hS b8,HF8,λj x hj hx=>by
      by_cases h:j<k
      ·exact C9 j x h hx
      ·obtain rfl:j=k:=zo;rw[HP.out]at hx;rw[<-fB hx];exact rK⟩,by simp[intOf];omega⟩
   ·obtain rfl:k=nl:=zo;have q1:¬(k:Int)<(k:Int):=zo;have wE:Hid (R.take k=R):=by rw[Hid,dx (by rw[Pn.out];exact ai _)]
    by_cases YN:k<16
    ·have q2:(k:Int)<16:=zo;have q3:decide ((k:Int)<16)=true:=aQ q2;have H16:=zi YN;clear YN;go_wp2_with fail;go_ret;refine HI.fin ?_;rw[wE.out];exact(congrArg (D++·) (Pl.aab (G:=Pl.pJ fk ps) HR (by rw[Pn.out];exact H16) (by rw[Pn.out];exact C9)).symm).trans HO.rest
    ·have q2:¬(k:Int)<16:=zo;have q3:decide ((k:Int)<16)=false:=aH q2;obtain rfl:k=16:=zo;obtain⟨x,hx⟩:∃x,R[15]?=some x:=⟨_,aF (by rw[Pn.out];omega)⟩;have mM:=hS.uo (E.dm HO.j);obtain⟨PL,arC⟩:=dz (Pl.Tf mM HR hx) (Pl.Ni mM HR hx);have HGE:Hid (∀y∈(Pl.pJ fk ps).drop 16,¬y.key<q):=λy hy=>HO.above y (qB hy);have HRS:Hid (D++R++Pl.jw (Pl.jU q) ((Pl.pJ fk ps).drop 16)=Pl.jw (Pl.jU q) ps):=by
      have e1:Pl.jw (Pl.jU q) R=R:=Pl.Ec (λj y hj=>C9 j y (by rw[<-Pn.out];exact(cR.1 hj).1) hj);have e2:Pl.jw (Pl.jU q) (Pl.pJ fk ps)=R++Pl.jw (Pl.jU q) ((Pl.pJ fk ps).drop 16):=by
       conv=>lhs;rw[<-di 16 (Pl.pJ fk ps),HR.out,Pl.ez,e1]
      rw[Hid,cJ,<-e2];exact HO.rest
     have aeN:XX fk R 16=x.key++ [0]:=by show(R.getD 15 ⟨[],[]⟩).key++ [0]=_;rw[tY,hx];rfl
     have hF:=HF.out;have hE:Uu S ps J O w q A (D++R) (x.key++ [0]) Ak nk ck O1 wr:=by have h0:=HI.out;have tu:=h0.fr;refine⟨by have:=h0.j;rwa [wE.out]at this,h0.new,h0.ctx,h0.xx,tu,tu.1.size,by have:=hF.len;rwa [aeN]at this,by have:=hF.dm;rw[aeN]at this;exact⟨this,hF.off⟩,by rw[PL.out];exact HRS,by rw[PL.out];exact HGE⟩
     have HEO:=zi hE;have fJ:Hid ((Pl.pJ (bytesOf wr (.slice Ak nk ck)) ps).length=(Pl.pJ (x.key++ [0]) ps).length):=by rw[Hid,Hs hE.from_.1.1 hE.len.1]
     clear hx mM aeN hF hE;go_wp2_with fail;exact⟨⟨D++R,x.key++ [0],Ak,nk,ck,O1,rfl,HEO⟩,by rw[fJ.out,HB0.out];exact arC⟩
theorem Me{S:iM}(hS:eP S aA)(gK:Nat)(tm cn:Value)(ps:List Pl.Pr)(key l:Pl.Key)(A:Option Addr)(n ca:Nat)(w:World)(hB:ay w gK 203 [S.v,tm,cn])(hA:S.At ps w)(hc:Ctx w)(tE:Pl.ey key)(hn:key.length=n)(hb:aw w A key)(hl:Pl.dI key ps=some l):
 bG 127 #[.pointer (some ⟨gK,0,none⟩),.slice A n ca] w λe w'=>SF S w w'/\S.At ps w'/\∃A' aB,e= .returned (.tuple #[.slice A' l.length aB,.nilIface])/\l.length<=aB/\dn w' A' (bv l) 5/\∀q,A'=some q->w.heap.size<=q.block:=by
 have HG:=hS.get ps key A n ca w hA hc tE hn hb;have HM:=hS.aeP;have HM2:=hS.ads;unfold iM.v at hB;have c0:=hB.cell 0;simp only[au]at c0;go_enter Tryz.func127,Tryz.ntmps127;go_wp2_with fail;refine HG.mono ?_;rintro e w2 ⟨hf,ha,⟨l',A',aB,h1,rfl,h2,h3,h4⟩|⟨h1,_⟩⟩
 ·rw[hl]at h1;injection h1 with h1;subst h1;have HIS:=th 8 w2;obtain⟨nl,kG⟩:=ze l.length;rw[kG]at h2|-
  go_wp2_with fail;refine HIS.mono ?_;rintro e w3 ⟨rfl,rfl⟩;go_wp2_with fail;go_ret2;exact⟨hf,ha,A',aB,by rw[kG];rfl,by rw[kG];exact h2,h3,h4⟩
 ·rw[hl]at h1;cases h1
theorem wQ{c n:Nat}{rest:List UInt8}(h:rest.length<=30):Pl.ey (Pl.aum c n rest):=by unfold Pl.ey Pl.aum;simp only[bE,ax,Pl.aG];omega
abbrev vZ(tm cn:Value)(w:World):Prop:=ay w gK 203 [S.v,tm,cn]
def agF(w:World)(e:Ending)(w':World):Prop:=
 SF S w w'/\S.At ps w'/\∃A' aB,e= .returned (.tuple #[.slice A' l.length aB,.nilIface])/\l.length<=aB/\dn w' A' (bv l) 5
theorem SC{S:iM}(hS:eP S aA)(gK:Nat)(tm cn:Value)(ps:List Pl.Pr)(k:Nat)(l:List UInt8)(w:World)(hB:vZ S gK tm cn w)(hA:S.At ps w)(hc:Ctx w)(hk:k<4294967296)(hl:Pl.dI (Pl.kB k) ps=some l)(h13:l.length=13):
 bG 128 #[.pointer (some ⟨gK,0,none⟩),.int .i64 (k:Nat)] w (agF S ps l w):=by
 have HN:=lI 98 k [] none 0 0 w zj zo rfl zo (.inl rfl);go_enter Tryz.func128,Tryz.ntmps128;go_wp2_with fail;refine HN.mono ?_;rintro e w1 ⟨A1,n1,c1,rfl,uc,rX,TN,LR,aI⟩;have HF:=Me hS gK tm cn ps (Pl.kB k) l A1 n1 c1 w1 (hB.aa aI hB.lt) (hS.aa hA aI) (hc.aa aI) (wQ zu) uc TN.bytes hl;go_wp2_with fail;refine HF.mono ?_;rintro e w2 ⟨hf,ha,A2,c2,rfl,lC,wC,anX⟩;rw[h13]at lC|-
 have hQ:(agF S ps l w (.returned (.tuple #[.slice A2 l.length c2,.nilIface])) w2):=⟨(SF.ae aI).trans hf,ha,A2,c2,rfl,by rw[h13];exact lC,wC⟩;rw[h13]at hQ;go_wp2_with fail;go_ret2;exact hQ
theorem EI{S:iM}(hS:eP S aA)(gK:Nat)(tm cn:Value)(ps:List Pl.Pr)(k:Nat)(w:World)(hB:vZ S gK tm cn w)(hA:S.At ps w)(hc:Ctx w)(hk:k<4294967296)(hl:k≠0->∃l,Pl.dI (Pl.kB k) ps=some l/\l.length=13):
 bG 77 #[.pointer (some ⟨gK,0,none⟩),.int .i64 (k:Nat)] w λe w'=>SF S w w'/\S.At ps w'/\e= .returned (.tuple #[bM (Pl.aun ps k),.nilIface]):=by
 obtain⟨g1,w1,nY,dj,aI,B1⟩:=zE w 80 [.int .u8 0,.int .u8 0,.int .u8 0,.int .u8 0];by_cases h0:k=0
 ·subst h0;obtain⟨c0,c1,c2,c3,f0,f1,f2,f3⟩:=eh B1;have HG:=zi (show w.heap.size<=g1 by omega);clear hB hc hl;go_enter Tryz.func77,Tryz.ntmps77;go_wp2_with fail;have hz:Pl.aun ps 0=0:=rfl;have pA:=rC aI HG (.int .u8 0) (.int .u8 0) (.int .u8 0) (.int .u8 0);refine bH (v:= .tuple #[bM 0,.nilIface]) (zO rfl rfl rfl (by rw[show hc 0=[.int .u8 0,.int .u8 0,.int .u8 0,.int .u8 0] by unfold hc;rfl];exact B1.R0 _ _ _ _)) rfl ⟨.ae pA,hS.aa hA pA,by rw[hz]⟩
 ·obtain⟨l,l7,BJ⟩:=hl h0;have hE:Pl.aun ps k=Pl.iZ l:=by unfold Pl.aun Pl.auy;rw[aj h0,l7];rfl
  rw[hE];obtain⟨x,hx⟩:=ze (Pl.iZ l);rw[hx];have q1:((k:Int)==0)=false:=b9.2 zo;obtain⟨HH,HA,HG⟩:=kt (SC hS gK tm cn ps k l w1 (hB.aa aI hB.lt) (hS.aa hA aI) (hc.aa aI) hk l7 BJ) (hS.aa hA aI) (show w.heap.size<=g1 by omega);clear hB hA hc hl l7 hE h0;go_enter Tryz.func77,Tryz.ntmps77;go_wp2_with fail;refine HH.mono ?_;rintro e w2 ⟨hf,ha,A2,c2,rfl,lC,wC⟩;have HC:=zi (pn A2 c2 l w2 wC.bytes (by rw[BJ];omega));have EC:=SF.aC hS hf HA B1 zj;rw[BJ]at HC|-
  have HF:=zi ((SF.ae aI).trans hf);rw[hx]at HC;clear hf lC wC;go_wp2_with fail;refine HC.mono ?_;rintro e w3 ⟨rfl,bg⟩;unfold bM;have EY:=EC.aa bg EC.lt;obtain⟨c0,c1,c2',c3,f0,f1,f2,f3⟩:=eh EY;go_wp2_with fail;have ho:ag (·=g1) w3 ((((w3.setCell ⟨g1,0,none⟩ (.int .u8 ((x:Int)/16777216))).setCell ⟨g1,1,none⟩ (.int .u8 ((x:Int)/65536%256))).setCell ⟨g1,2,none⟩ (.int .u8 ((x:Int)/256%256))).setCell ⟨g1,3,none⟩ (.int .u8 ((x:Int)%256))):=MN (ag.refl (λy=>y=g1) w3) (.inl rfl) _ _ _ _;refine bH (v:= .tuple #[bM x,.nilIface]) (zO rfl rfl rfl (EY.R0 _ _ _ _)) rfl ⟨?_,?_,rfl⟩
  ·have h1:=HF.trans (SF.ae bg);exact⟨h1.1.since ho (λy hy e=>by have:=HG.out;omega),h1.2.1.trans (ho.mono (λy _ e=>e)) (λy hy e=>by have:=HG.out;omega),h1.2.2.since ho (λy hy e=>by have:=HG.out;omega)⟩
  ·exact hS.bQ (ts:=[80]) (hS.aa ha bg) ho (bR.spare (aD EY)) zj (λ_=>by decide) (λy hy e=>by subst e;exact hS.bsT (hS.aa ha bg) hy EY.dV)
def afy(g aq:Nat)(done:List Pl.Pr)(O:Nat->Prop)(W:World):Prop:=
 S.At ps W/\(∀p∈done,p∈ps)/\LO<=g/\g<aq/\aq<=W.heap.size/\∃v,ay W g 29 [v]/\Ob W aq v (done.flatMap Pl.Pr.val)/\(∀k,O k↔(k=g\/v.ownBlock=some k))
theorem Lm{ps:List Pl.Pr}(h:∀p∈ps,p.val.length<=100):∀l:List Pl.Pr,(∀p∈l,p∈ps)->(l.flatMap Pl.Pr.val).length<=100*l.length
 | [],_=>by simp
 |a::l,hl=>by have h1:=Lm h l (λp hp=>hl p (kd _ hp));have h2:=h a (hl a zu);rw[dR,ax,bE];omega
theorem Nc{S:iM}(hS:eP S aA)(hu:¬S.u8)(hroom:aA<=100000)(ps:List Pl.Pr)(g aq:Nat)(W:World)(p:Pl.Pr)(A B:Option Addr)(ca cb nk nv:Nat)(done:List Pl.Pr)(O:Nat->Prop)(hJ:afy S ps g aq done O W)(hd:done.length<ps.length)(hp:p∈ps)(wP:p.val.length=nv)(hB:mG W B p.val)(hO:∀q,B=some q->¬O q.block):
 bG 121 #[.agg #[.slice A nk ca,.slice B nv cb],.pointer (some ⟨g,0,none⟩)] W λe W'=>e= .returned .nilIface/\∃O',afy S ps g aq (done++ [p]) O' W'/\(∀k,O' k->O k\/W.heap.size<=k)/\ag O W W':=by
 obtain⟨hA,fj,fu,pO,tA,v,hb,ho,hOO⟩:=hJ;have jn:=hS.fit hA;have bU:=hS.len hA;have EO:=Lm (λp hp=>(jn p hp).2) done fj;have ato:=(jn p hp).2;obtain⟨g1,w1,nY,dj,aI,B1⟩:=zE W 206 [.slice A nk ca,.slice B nv cb];obtain⟨y0,y1,_,_⟩:=aO B1;have G1:=hb.aa aI hb.lt;have z0:=G1.cell 0;have hzf:=G1.frozen 0;simp only[au]at z0;have H1:=ho.aa aI;have HB:=hB.aa aI;have U9:=ao tA aI.size;have HL:=show(done.flatMap Pl.Pr.val).length+nv<=70368744177664 by omega
 have HX:=And.intro hA (And.intro fj (And.intro fu (ze9 pO tA hb ho hOO aI hO hp nY)));go_enter Tryz.func121,Tryz.ntmps121;go_wp2_with (first
  |(at_builtin
    refine ic (v:=v) rfl (.tmp 4) (.tmp 6) rfl rfl H1 B nv cb p.val rfl wP HB.1.src HL U9 ?_;intro v2 w2 o2 m2;obtain⟨A2,fC,rfl,_,_,_⟩:=bJ o2;obtain⟨n2,mV⟩:=ze ((done.flatMap Pl.Pr.val++p.val).length);rw[mV]at m2|-
    have YE:=mV;have G2:=G1.grown m2.1 (λe=>by have:=H1.lt g e.symm;have:=HX.2.2.2.1;omega);have zg:=G2.cell 0;have zf2:=G2.frozen 0;simp only[au]at zg;have G2:=G2;have o2:=o2;have m2:=m2;clear mV)
  |fail)
 go_ret;obtain⟨hA,fj,fu,pO,tA,hb,ho,hOO,aI,hO,hp,nY⟩:=id HX;rw[YE]at o2;have fw:ag (·=g) w2 (w2.setCell ⟨g,0,none⟩ (.slice A2 n2 fC)):=(ag.refl (·=g) w2).zs 0;have hob:Ob (w2.setCell ⟨g,0,none⟩ (.slice A2 n2 fC)) aq (.slice A2 n2 fC) (done.flatMap Pl.Pr.val++p.val):=fw.own o2 (λx hx e=>by have:=(o2.lt x hx).1;omega);have pQ:ag O W (w2.setCell ⟨g,0,none⟩ (.slice A2 n2 fC)):=((ag.ae aI O).aE (m2.only.mono (λx _ e=>(hOO x).2 (.inr e)))).aE (fw.mono (λx _ e=>(hOO x).2 (.inl e)));refine⟨rfl,λk=>k=g\/(Value.slice A2 n2 fC).ownBlock=some k,⟨?_,λx hx=>?_,fu,pO,ao tA pQ.size,_,G2.bw 0 _,by rw[iH,dR,uN,dH];exact hob,λk=>Iff.rfl⟩,λk hk=>?_,pQ⟩
 ·have hs:kM O W [29,5]:=λx t ht hn hx=>by
   rcases(hOO x).1 hx with e|e
   ·subst e;exact hn (by rw[ht.dv hb.dV];simp)
   ·exact hn (by rw[ht.dv (dc ho e)];simp)
  refine hS.bQ hA pQ hs zj (λh=>absurd h hu) (λx hx hf=>?_);rcases(hOO x).1 hf with e|e
  ·exact hS.bsT hA hx (e▸hb.dV)
  ·exact hS.bsT hA hx (dc ho e)
 ·rcases eQ.1 hx with hx|hx
  ·exact fj x hx
  ·rw[dU.1 hx];exact hp
 ·rcases hk with e|e
  ·exact .inl ((hOO k).2 (.inl e))
  ·by_cases h:k<W.heap.size
   ·by_cases h2:v.ownBlock=some k
    ·exact .inl ((hOO k).2 (.inr h2))
    ·exact absurd e (m2.2 k (aK h aI.size) h2)
   ·exact .inr zo
theorem SF.own{S:iM}{aA:Nat}(hS:eP S aA){ps:List Pl.Pr}{w w':World}(h:SF S w w')(hA:S.At ps w){aq n size:Nat}{e:TypeId}{v:Value}{xs:List Value}(ho:w.ownsRow aq e size v n xs)(ht:e∉Sb):w'.ownsRow aq e size v n xs:=by obtain⟨F,h1,h2⟩:=h.1;exact h1.own ho (λg hg hf=>(h2 g hf).elim (λ⟨t',g1,g2⟩=>ht ((dc ho hg).dv g2▸g1)) (λhb=>hS.bsT hA hb (dc ho hg)))
theorem Om{S:iM}(hS:eP S aA)(hu:¬S.u8)(hroom:aA<=100000)(ps:List Pl.Pr)(g aq:Nat):uK S ps 121 #[.pointer (some ⟨g,0,none⟩)] (afy S ps g aq) where
 enter:=λx W=>by simp[go_sem]
 dm:=λh=>h.1
 sf:=λ{done O W W'} h hf ha=>by obtain⟨hA,fj,fu,pO,tA,v,hb,ho,hOO⟩:=h;exact⟨ha,fj,fu,pO,ao tA hf.1.size,v,SF.aC hS hf hA hb zj,SF.own hS hf hA ho zj,hOO⟩
 lt:=λ{done O W} h k hk=>by
  obtain⟨hA,fj,fu,pO,tA,v,hb,ho,hOO⟩:=h;rcases(hOO k).1 hk with e|e
  ·subst e;exact⟨hb.lt,.inl fu⟩
  ·have:=ho.lt k e;exact⟨this.2,.inl zo⟩
 call:=λW p A B ca cb nk nv done O hJ _ hd hp _ wP _ _ _ hB _ hO=>Nc hS hu hroom ps g aq W p A B ca cb nk nv done O hJ hd hp wP hB hO
theorem cA{g:Nat}{t:TypeId}{a:Value}(h:ay w g t [a]):w.cell? ⟨g,0,none⟩=some a:=h.cell 0
theorem DD{S:iM}(hS:eP S aA)(hu:¬S.u8)(hroom:aA<=100000)(gK:Nat)(tm cn:Value)(ps:List Pl.Pr)(Qj:YZ S ps)(n:Nat)(w:World)(hB:vZ S gK tm cn w)(hA:S.At ps w)(hc:Ctx w)(hn:n<4294967296):
 bG 74 #[.pointer (some ⟨gK,0,none⟩),.int .i64 (n:Nat)] w (agF S ps ((Pl.jw (Pl.jU (Pl.aum 112 n [])) ps).flatMap Pl.Pr.val) w):=by
 obtain⟨g,w1,hg,dj,aI,B1⟩:=zE w 29 [.slice none 0 0];have fu:=hc.lo;have K1:=hB.aa aI hB.lt;unfold iM.v at K1;have c0:=K1.cell 0;simp only[au]at c0;have HN:=λW=>lI 112 n [] none 0 0 W zj zo rfl zo (.inl rfl);have JJ:=zf Tryz.prog;go_enter Tryz.func74,Tryz.ntmps74;go_wp2_with fail;refine aN 7 (λW=>W.cell? ⟨gK,0,none⟩=some (.iface S.T S.rv)) (λ_=>True) zp c0 trivial (λaz=>?_);refine zt 0 (h:=zt 1 (h:=zt 2 (h:=zt 4 (h:=zl 3 (h:=zt 6 (h:=?_))))));refine zr 5 λK hK=>?_;go_simp;refine(HN _).mono ?_;rintro e w2 ⟨A2,n2,c2,rfl,mV,lC,wC,Mg,bz⟩;have b2:Below w1.heap.size w1 w2:=cG bz;have Kd:S.At ps w2:=hS.aa (hS.aa hA aI) b2;have apV:Ctx w2:=(hc.aa aI).aa b2;have G2:=B1.aa b2 B1.lt;have nY:w1.heap.size=g+1:=by rw[<-dj,<-hg];simp
 have hJ:afy S ps g (g+1) [] (λk=>k=g) w2:=⟨Kd,(λp hp=>by cases hp),zo,zo,by rw[<-nY];exact b2.size,_,G2,Ob.nil _ _,λk=>⟨.inl,λh=>h.elim id (λh=>by cases h)⟩⟩;have HE:=(JQ hS Qj (Om hS hu hroom ps g (g+1)) (λk=>k=g) (Pl.aum 112 n []) A2 n2 c2 w2 hJ apV mV (by rw[<-mV];simp[Pl.aum,Pl.aG]) lC ⟨wC.bytes,wC.2⟩ (λp hp e=>by have:=Mg p hp;have e2:w1.drew.heap.size=w1.heap.size:=rfl;omega));unfold iM.v at HE;have D2:=(K1.aa b2 K1.lt).cell 0;go_wp2_with fail;refine hK.out _ _ ⟨λ_=>D2,trivial⟩ (λaz=>?_);refine zr 7 λK hK=>?_;go_simp;refine HE.mono ?_;rintro e w3 ⟨rfl,O',hJ3,hO3,hx3,Cr⟩;obtain⟨ha3,_,_,_,_,v3,bg,sR,_⟩:=hJ3;obtain⟨A3,c3,rfl,J8,Er,ahe⟩:=bJ sR;have mr:dn w3 A3 (bv ((Pl.jw (Pl.jU (Pl.aum 112 n [])) ps).flatMap Pl.Pr.val)) 5:=⟨Er,λp hp=>dc sR (ahe p hp)⟩;have KA:SF S w w3:=by have J3:Below w.heap.size w w2:=aI.trans (b2.mono aI.size);have hx:∀x,x<w.heap.size->(S.bs x\/x=g)->S.bs x:=λx hx e=>e.elim id (λe=>by omega);exact⟨(lW.ae (ts:=Sb) (bs:=S.bs) J3).te hx3 hx,(ag.ae J3 _).aE Cr.1,(lW.ae (ts:=S.ts) (bs:=S.bs) J3).te Cr.2 hx⟩
 obtain⟨n3,OM⟩:=ze (((Pl.jw (Pl.jU (Pl.aum 112 n [])) ps).flatMap Pl.Pr.val).length);have HQ:(agF S ps ((Pl.jw (Pl.jU (Pl.aum 112 n [])) ps).flatMap Pl.Pr.val) w (.returned (.tuple #[.slice A3 n3 c3,.nilIface])) w3):=⟨KA,ha3,A3,c3,by rw[OM],J8,mr⟩;rw[OM]at bg;have z3:=bg.cell 0;simp only[au]at z3;have Z3:=z3;go_wp2_with fail;refine hK.out _ _ ⟨zk zp,trivial⟩ (λaz=>?_);refine zt 8 (h:=?_);(try simp only[Act.put,zq1,zq2,zP,zq4,zq5,RR]);refine bh zp ?_ _;have z3:=Z3;go_wp2_with fail;go_ret2;exact HQ
def PE(w:World)(P:Nat->Prop)(c:List Value)(l:List UInt8):Prop:=∃A aB,c=[.slice A l.length aB]/\l.length<=aB/\l.length<=140737488351232/\dn w A (bv l) 5/\∀p,A=some p->P p.block
theorem PE.fr:Fr PE:=λ_ _ _ _ _ _ _ ⟨A,aB,h1,h2,h3,h4,h5⟩ ho hF hP=>⟨A,aB,h1,h2,h3,h4.jL ho zS,zS⟩
theorem PE.sl{P:Nat->Prop}{c:List Value}{l:List UInt8}(h:PE w P c l):um w P c l:=by obtain⟨A,aB,h1,h2,h3,h4,h5⟩:=h;exact⟨A,aB,h1,h2,h3,h4.bytes,h5⟩
abbrev TL:=OL 29 1 PE
theorem TL.bl(h:TL w aq v xs):BL w aq v xs:=by obtain⟨cs,h1,h2⟩:=h;exact⟨cs,h1,h2.mono (λ_ _ _ h=>h.sl)⟩
theorem TL.sf{S:iM}(hS:eP S aA){ps:List Pl.Pr}(hf:SF S w w')(hA:S.At ps w)(h:TL w aq v xs):TL w' aq v xs:=by obtain⟨cs,h1,h2⟩:=h;refine⟨cs,SF.own hS hf hA h1 zj,h2.mono (λ_ _ _ ⟨A,aB,e1,e2,e3,e4,e5⟩=>⟨A,aB,e1,e2,e3,SF.eo hS hf hA e4 zj,λp hp=>?_⟩)⟩;obtain⟨g1,g2,g3⟩:=e5 p hp;exact⟨g1,aK g2 hf.1.size,g3⟩
theorem SF.since{S:iM}{w0 w w':World}{F:Nat->Prop}(h:SF S w0 w)(ho:ag F w w')(hF:∀x,F x->w0.heap.size<=x):SF S w0 w':=
 ⟨h.1.since ho zw,h.2.1.trans ho (λx hx hf=>zw),h.2.2.since ho zw⟩
theorem Ctx.since(h:Ctx w)(ho:ag F w w')(hF:∀x,F x->LO<=x):Ctx w':=h.gl (ho.mono (λx _ hx=> .inl (hF x hx)))
theorem eP.kinds{S:iM}(hS:eP S aA){ps:List Pl.Pr}{ts:List TypeId}(hA:S.At ps w)(ho:ag F w w')(hk:bR F w ts)(ht:∀t∈vM,t∉ts)(hu:5∉ts):S.At ps w':=
 hS.bQ hA ho hk.spare ht zS (λk hb hf=>by obtain⟨t,_,ht⟩:=hk k hf;exact hS.bsT hA hb ht)
theorem MM{n size:Nat}{e:TypeId}{xs:List Value}(h:w.ownsRow aq e size v n xs):bR (λb=>v.ownBlock=some b) w [e]:=λk hk=>⟨e,zu,dc h hk⟩
def uC:List (List UInt8):=(List.range j).map λd=>Pl.auu ps (3*(k-1)+(d+1))
theorem OZ:uC ps k 3=Pl.aut ps k:=by simp[uC,Pl.aut,jK]
theorem QO:uC ps k (j+1)=uC ps k j++ [Pl.auu ps (3*(k-1)+(j+1))]:=by unfold uC;rw[jK,gH];rfl
def arN(ls:List (List UInt8))(w:World)(e:Ending)(w':World):Prop:=
 SF S w w'/\S.At ps w'/\∃v,e= .returned (.tuple #[v,.nilIface])/\TL w' w.heap.size v ls
theorem Ot{S:iM}(hS:eP S aA)(gK:Nat)(tm cn:Value)(ps:List Pl.Pr)(k:Nat)(w:World)(hB:vZ S gK tm cn w)(hA:S.At ps w)(hc:Ctx w)(h0:1<=k)(hk:k<1000000000)(hl:∀n,3*(k-1)<n->n<=3*k->∃l,Pl.dI (Pl.kE n) ps=some l):
 bG 76 #[.pointer (some ⟨gK,0,none⟩),.int .i64 (k:Nat)] w (arN S ps (Pl.aut ps k) w):=by
 obtain⟨j0,hj0,Yd,XQ,RL⟩:=bV Tryz.oI;obtain⟨HI,HS,HL⟩:=kt (sS hj0 Yd XQ RL) (sS hB hA hc (SF.refl (S:=S) w)) hl;have yy:Hid (LO<=w.heap.size):=hc.lo;obtain⟨e3,he3⟩:∃e:Nat,3*(k-1)=e:=⟨_,rfl⟩;have HE3:=zi he3;have hx:((k:Int)-1)*3+1=((e3+1:Nat):Int):=zo;have hx3:(k:Int)*3=((e3+3:Nat):Int):=zo;clear hB hA hc hl hj0 Yd XQ RL he3;go_enter Tryz.func76,Tryz.ntmps76;go_wp2_with fail
 go_loopw [6,7] (λu i wr=>∃j m:Nat,j<=3/\i= .int .i64 (m:Int)/\Hid (m=e3+(j+1))/\Hid (TL wr w.heap.size u (uC ps k j))/\Hid (vZ S gK tm cn wr/\S.At ps wr/\Ctx wr/\SF S w wr)) (λ_ i _=>e3+4-(intOf i).toNat)
 case atStart=>exact⟨0,e3+1,zo,by simp[hx],rfl,OL.nil _ _,HS⟩
 case round=>
  obtain⟨j,m,hj,rfl,HM,HO,HW⟩:=hrel;by_cases hjn:j<3
  ·have EN:=HM.out;have h3:=HE3.out;have q1:(m:Int)<=(k:Int)*3:=zo;have q2:m<3000000000:=zo;obtain⟨l,hl⟩:=HL m zo zo;have hen:Hid (Pl.auu ps (3*(k-1)+(j+1))=l):=by rw[Hid,show 3*(k-1)+(j+1)=m by omega];unfold Pl.auu;rw[hl];rfl
   obtain⟨hB,hA,hc,KA⟩:=HW.out;have aij:Hid (l.length<=100):=(hS.fit hA ⟨_,_⟩ (Pl.Io hl)).2;obtain⟨HN,HLM⟩:=dz (lI 101 m [] none 0 0 wr zj zo rfl zo (.inl rfl)) hl;clear hB hA hc KA hl EN h3;go_wp2_with fail;refine HN.mono ?_;rintro e w2 ⟨A2,n2,c2,rfl,mV,lC,wC,Mg,bz⟩;have Kd:=hS.aa HW.2.1 bz;have EC:vZ S gK tm cn w2:=HW.1.aa bz HW.1.lt;obtain⟨HF,sZ,O2⟩:=kt (Me hS gK tm cn ps (Pl.kE m) l A2 n2 c2 w2 EC Kd (HW.2.2.1.aa bz) (wQ zu) mV wC.bytes HLM) (sS EC Kd (HW.2.2.1.aa bz) (HW.2.2.2.trans (SF.ae bz))) (HO.aa PE.fr bz);have HZ2:Hid (wr.heap.size<=w2.heap.size):=bz.size;clear mV lC wC Mg bz Kd EC;go_wp2_with fail;refine HF.mono ?_;rintro e w3 ⟨FC,ha3,A3,c3,rfl,J8,ht3,hr3⟩;obtain⟨n3,OM⟩:=ze l.length;have O3:=TL.sf hS FC sZ.2.1 O2;have EY:vZ S gK tm cn w3:=SF.aC hS FC sZ.2.1 sZ.1 zj;obtain⟨W3,J5,cj⟩:=zF w3 (.cells #[.slice A3 n3 c3] 29);have S4:Hid (Src W3 (some ⟨w3.heap.size,0,none⟩) [.slice A3 n3 c3]):=Src.dE (t:=29) (by rw[<-J5];exact ay.new w3 29 _);have O4:=zi (O3.aa PE.fr cj);have GX:Hid (w.heap.size<=w3.heap.size):=(sZ.2.2.2.trans FC).1.size;have Je:=zi (sS EY ha3 (sZ.2.2.1.gl FC.2.1) (sZ.2.2.2.trans FC));have B4:Hid (w.heap.size<=W3.heap.size):=ao GX cj.size;have HLN:Hid ((uC ps k j).length<=4294967296):=by rw[Hid];unfold uC;rw[eT,ru];omega
   have R4:Hid (PE W3 (λb=>w.heap.size<=b/\b<W3.heap.size/\u6.ownBlock≠some b) [.slice A3 n3 c3] l):=
    ⟨A3,c3,by rw[OM],J8,by have:=aij.out;omega,ht3.bQ cj,λp hp=>⟨ao (ao (HW.2.2.2).1.size HZ2.out) (hr3 p hp),aK (jh.lt_ (ht3.2 p hp)) cj.size,λe=>by
      have h1:=(O2.lt p.block e).2;have h2:=hr3 p hp;omega⟩⟩
   obtain⟨ib,rS⟩:=dz cj O3;rw[OM];clear FC ha3 J8 ht3 hr3 O3 EY cj OM;go_wp2_with (first
    |(at_builtin
      refine oW (v:=u6) PE.fr rfl (.tmp 30) (.tmp 32) 57 rfl Tryz.underlying57 HI.out.1 HI.out.2.1 HI.out.2.2.1 HI.out.2.2.2 rfl zj rfl O4.out (some ⟨w3.heap.size,0,none⟩) 1 [.slice A3 n3 c3] l rfl rfl S4.out (by simp;rfl) R4.out HLN.out zj B4.out ?_;intro v5 w5 o5 m5;have O5:Hid (TL w5 w.heap.size v5 (uC ps k (j+1))):=by rw[Hid,QO,hen.out];exact o5
      have S5:Hid (vZ S gK tm cn w5/\S.At ps w5/\Ctx w5/\SF S w w5):=by have ho:=(ag.ae ib.out (λb=>u6.ownBlock=some b)).aE m5.only;have hk:bR (λb=>u6.ownBlock=some b) w3 [29]:=λb hb=>⟨29,zu,by obtain⟨cs,h1,_⟩:=rS.out;exact dc h1 hb⟩;have Ze:∀b,u6.ownBlock=some b->w.heap.size<=b:=λb hb=>(O4.out.lt b hb).1;exact⟨ho.cY hk Je.out.1 zj,hS.kinds Je.out.2.1 ho hk zj zj,Je.out.2.2.1.since ho (λb hb=>ao yy.out (Ze b hb)),Je.out.2.2.2.since ho Ze⟩
      clear o5 m5)
    |fail)
   exact⟨⟨j+1,m+1,zo,zu,by show _=_;have:=HM.out;omega,O5.out,S5.out⟩,by simp[intOf];have:=HM.out;omega⟩
  ·obtain rfl:j=3:=zo;have EN:=HM.out;have h3:=HE3.out;have q1:¬(m:Int)<=(k:Int)*3:=zo;have kJ:Hid (TL wr w.heap.size u6 (Pl.aut ps k)):=by rw[<-OZ];exact HO
   clear HO EN h3;go_wp2_with fail;go_ret2;exact⟨HW.2.2.2,HW.2.1,_,rfl,kJ⟩
def atk(w:World)(e:Ending)(w':World):Prop:=
 SF S w w'/\S.At ps w'/\∃A aB,e= .returned (.tuple #[.slice A l.length aB,.nilIface])/\l.length<=aB/\aw w' A l
theorem QB{S:iM}(hS:eP S aA)(gK:Nat)(tm cn:Value)(ps:List Pl.Pr)(k:Nat)(w:World)(hB:vZ S gK tm cn w)(hA:S.At ps w)(hc:Ctx w)(h0:1<=k)(hk:k<1000000000)(hl:∀n,3*(k-1)<n->n<=3*k->∃l,Pl.dI (Pl.kE n) ps=some l)
 (hh:k≠1->∃l,Pl.dI (Pl.kB (k-1)) ps=some l/\l.length=13):
 bG 225 #[.pointer (some ⟨gK,0,none⟩),.int .i64 (k:Nat)] w (atk S ps (Pl.auo ps k) w):=by
 obtain⟨HE,HS⟩:=dz (Ot hS gK tm cn ps k w hB hA hc h0 hk hl) (zd hB hA hc);have hx:(k:Int)-1=((k-1:Nat):Int):=zo;obtain⟨ls,Pd⟩:=ze (Pl.aut ps k);have rN:Hid (ls.length=3):=by rw[Hid,<-Pd];rfl
 obtain⟨x,qG⟩:=ze (Pl.aun ps (k-1));have ZA:Hid (x<4294967296):=by
  rw[Hid,<-qG];unfold Pl.aun;split
  ·decide
  ·exact mH (Pl.uV _) zj
 have HQ:Hid (Pl.auo ps k=Pl.header k x (Pl.root ls)):=by rw[Hid];unfold Pl.auo;rw[Pd,qG]
 rw[Pd]at HE;clear hB hA hc hl Pd;go_enter Tryz.func225,Tryz.ntmps225;go_wp2_with fail;refine HE.mono ?_;rintro e w2 ⟨Fz,ha2,v2,rfl,wC⟩;obtain⟨A2,c2,cs2,rfl,lC,nX,Mg,mV⟩:=wC.src PE.fr;have EC:vZ S gK tm cn w2:=SF.aC hS Fz HS.2.1 HS.1 zj;have hC2:=HS.2.2.gl Fz.2.1;have Xj:=zi (EI hS gK tm cn ps (k-1) w2 EC ha2 hC2 zo (λh=>hh zo));rw[qG]at Xj;rw[rN.out]at lC wC|-
 clear nX Mg mV EC hC2;go_wp2_with fail;refine Xj.mono ?_;rintro e w3 ⟨FC,ha3,rfl⟩;have ht3:=TL.sf hS FC ha2 wC;have HF3:=zi (Fz.trans FC);clear FC;obtain⟨W4,hW4,cj⟩:=zF w3 (.cells #[.int .u8 ((x:Int)/16777216),.int .u8 ((x:Int)/65536%256),.int .u8 ((x:Int)/256%256),.int .u8 ((x:Int)%256)] 80);have hBB:BB w3 A2 ls:=by obtain⟨A',c',GV,e,_,hs,hr,_⟩:=(TL.bl ht3).src um.fr;injection e with e1;subst e1;exact hr.bb hs
 have Qo:=zi (DK k x ls A2 c2 W4 zo ZA (hBB.bQ cj) (by rw[rN.out];exact lC) (by rw[rN.out];decide));rw[rN.out]at Qo;obtain⟨d0,d1,d2,d3⟩:=kV (show ay W4 w3.heap.size 80 (hc x) by rw[<-hW4];exact ay.new w3 80 _);clear hBB lC;unfold bM at Qo|-
 go_wp2_with fail;refine Qo.mono ?_;rintro e w5 ⟨A5,n5,c5,rfl,hn5,La,nB,_,ame⟩;have HQ5:=zi (sS hn5 La nB ame);clear hn5 La nB ame;go_wp2_with fail;go_ret2;obtain⟨h1,h2,h3,h4⟩:=HQ5.out;have fj:Below w3.heap.size w3 w5:=cj.trans (h4.mono cj.size);exact⟨HF3.trans (.ae fj),hS.aa ha3 fj,A5,c5,by rw[HQ.out,h1];rfl,by rw[HQ.out,h1];exact h2,by rw[HQ.out];exact h3⟩
end Go.Proofs.YtbhpofdafhahgaaGreatDoor
namespace Go.Proofs.YtbhpofdafhahgaaGreatDoor
open Go.RowKit Go.Maps Go.WideMaps
def Dl(v:Value):Option (DataW Value×List MemPlace):=some (.held v,[])
def dX(w:World)(b n:Nat)(f:List UInt8->Option Value)(sz:Nat):Prop:=
 ∃D:DataW Value,w.ownsMap Tryz.prog 9 Dl b n D/\Maps.size D=sz/\(∀s,Maps.has D (.string s)=(f s).isSome)/\∀s v,f s=some v->∀z,D.atKey (.string s) z= .held v
def upd(f:List UInt8->Option Value)(s:List UInt8)(v:Option Value):List UInt8->Option Value:=λk=>if k=s then v else f k
section
variable {w w':World} {b n sz:Nat} {f:List UInt8->Option Value}
theorem dX.heap(h:dX w b n f sz)(hh:w'.heap[b]?=w.heap[b]?):dX w' b n f sz:=by obtain⟨D,⟨es,clock,h1,h2⟩,h3⟩:=h;exact⟨D,⟨es,clock,hh.trans h1,h2⟩,h3⟩
theorem dX.lt(h:dX w b n f sz):b<w.heap.size:=by obtain⟨D,h1,_⟩:=h;exact h1.lt
theorem dX.mono(h:dX w b n f sz){m:Nat}(hm:n<=m):dX w b m f sz:=by obtain⟨D,h1,h2⟩:=h;exact⟨D,h1.mono hm,h2⟩
theorem dX.tight(h:dX w b n f sz):dX w b sz f sz:=by obtain⟨D,⟨es,clock,h1,h2,h3,h4⟩,h5,h6⟩:=h;refine⟨D,⟨es,clock,h1,h2,?_,h4⟩,h5,h6⟩;rw[<-h5,h4];simp[Maps.size,length_sorted]
theorem dX.only{F:Nat->Prop}(h:dX w b n f sz)(ho:ag F w w')(hn:¬F b):dX w' b n f sz:=h.heap (ho.block b h.lt hn)
theorem dX.aa(h:dX w b n f sz)(hb:dP w w'):dX w' b n f sz:=h.heap (hb.block b h.lt)
theorem dX.kz(h:dX w b n f sz)(t:TypeId):¬jh w b t:=by
 obtain⟨D,⟨es,clock,h1,h2⟩,h3⟩:=h;rintro⟨cs,fz,k⟩
 grind
theorem dX.made(w:World):dX (w.alloc (.map #[] 0)) w.heap.size 0 (λ_=>none) 0:=⟨.map [],World.ownsMap_made _ _ _ _,rfl,λ_=>rfl,zu⟩
theorem UH{s:List UInt8}(hs:s.length<=4294967296):keyOf Tryz.prog 9 (.string (ar s))=some (.string s):=keyOf_string_mk Tryz.underlying9 (by rw[bK];unfold maxLen;omega)
theorem yq{u v:Value}{ps:List MemPlace}(h:Dl u=some (.held v,ps)):u=v:=by
 unfold Dl at h
 grind
theorem dX.look{t e:TypeId}{z:Value}(h:dX w b n f sz)(ht:Tryz.prog.underlying t=some (.map 9 e))(hz:(zeroValue e).run Tryz.prog w= .ok z w)(s:List UInt8)(hs:s.length<=4294967296):
 (Instr.lookup t (.map (some b)) (.string (ar s)) false).run Tryz.prog w= .ok ((f s).getD z) w:=by
 obtain⟨D,bI,h2,h3,h4⟩:=h;obtain⟨v,ps,hrun,hv⟩:=bI.lookup Tryz.Cm ht hz (zd:= .held z) (zp:=[]) rfl (UH hs);rw[hrun];cases hf:f s with
 |none=>rw[atKey_of_not_has zw]at hv;rw[yq hv];rfl
 |some u=>rw[h4 s u hf]at hv;rw[yq hv];rfl
theorem dX.look_ok{t e:TypeId}{z:Value}(h:dX w b n f sz)(ht:Tryz.prog.underlying t=some (.map 9 e))(hz:(zeroValue e).run Tryz.prog w= .ok z w)(s:List UInt8)(hs:s.length<=4294967296):
 (Instr.lookup t (.map (some b)) (.string (ar s)) true).run Tryz.prog w= .ok (.tuple #[(f s).getD z,.bool (f s).isSome]) w:=by
 obtain⟨D,bI,h2,h3,h4⟩:=h;obtain⟨v,ps,hrun,hv⟩:=bI.look_ok Tryz.Cm ht hz (zd:= .held z) (zp:=[]) rfl (UH hs);rw[hrun,h3];cases hf:f s with
 |none=>rw[atKey_of_not_has zw]at hv;rw[yq hv];rfl
 |some u=>rw[h4 s u hf]at hv;rw[yq hv];rfl
theorem dX.len{t e:TypeId}(h:dX w b n f sz)(ht:Tryz.prog.underlying t=some (.map 9 e))(ty:TypeId):(Builtin.len_ #[t] ty #[.map (some b)]).run Tryz.prog w= .ok (.int .i64 (sz:Nat)) w:=by obtain⟨D,bI,h2,_⟩:=h;rw[<-h2];exact bI.len ht ty
theorem Tl(h:w.mapTurned w' b):ag (·=b) w w':=by have:=h.grown;exact⟨this.os,this.tape,this.output,this.size,λi hi hn=>this.block i hi zS⟩
theorem dX.store{t e:TypeId}(h:dX w b n f sz)(ht:Tryz.prog.underlying t=some (.map 9 e))(hn:n<maxLen)(s:List UInt8)(hs:s.length<=4294967296)(v:Value):
 ∃w',(Instr.mapUpdate t (.map (some b)) (.string (ar s)) v).run Tryz.prog w= .ok () w'/\dX w' b (n+1) (upd f s (some v)) (if(f s).isSome then sz else sz+1)/\ag (·=b) w w':=by
 obtain⟨D,bI,h2,h3,h4⟩:=h;obtain⟨w',hrun,ho,hT⟩:=bI.store Tryz.Cm ht hn (val:=v) (d:= .held v) (ps:=[]) (UH hs) rfl;have hk:WideAt.IsKeyLit (.string s):=trivial;refine⟨w',hrun,⟨_,ho,by rw[size_put (bI.tidy Tryz.Cm),h3,h2],λk=>?_,λk u hu z=>?_⟩,Tl hT⟩
 ·unfold upd;by_cases e:k=s
  ·subst e;rw[has_put_same bI.isMap hk,ah rfl];rfl
  ·rw[has_put_other zw,h3,aj e]
 ·unfold upd at hu;by_cases e:k=s
  ·subst e;rw[ah rfl]at hu;rw[atKey_put_same bI.isMap hk,fB hu]
  ·rw[aj e]at hu;rw[atKey_put_other zw]
   grind
end
end Go.Proofs.YtbhpofdafhahgaaGreatDoor
namespace Go.Proofs.YtbhpofdafhahgaaGreatDoor
open Go.RowKit Go.Maps Go.WideMaps
variable [Inhabited eH]
variable {F:Nat->Prop} {ts:List TypeId} {w':World} {gm aA:Nat} {ps:List Pl.Pr}
variable (v:Value) (w:World)
theorem Tryz.LZ:(zeroValue 29).run Tryz.prog w= .ok (.slice none 0 0) w:=by simp
def Ry(gm:Nat):Value:= .agg #[.map (some gm)]
structure nU(gm aA:Nat)(ps:List Pl.Pr)(w:World):Prop where
 lo:LO<=gm
 uo:Pl.qu ps
 fit:∀p∈ps,Pl.la p
 few:ps.length<=aA
 map:∃f,dX w gm ps.length f ps.length/\(∀k,Pl.dI k ps=none->f k=none)/\∀k l,Pl.dI k ps=some l->∃A aB,f k=some (.slice A l.length aB)/\l.length<=aB/\dn w A (bv l) 5
theorem dn.spare{w:World}{A:Option Addr}{cs:List Value}{t:TypeId}(h:dn w A cs t)(ho:ag F w w')(hs:kM F w ts)(ht:t∉ts):dn w' A cs t:=
 h.jL ho (λp hp hf=>hs p.block t (h.2 p hp) ht hf)
theorem nU.bQ{w:World}(h:nU gm aA ps w)(ho:ag F w w')(hs:kM F w ts)(ht:5∉ts)(hn:¬F gm):nU gm aA ps w':=by obtain⟨h1,h2,h3,h4,f,h5,h6,h7⟩:=h;refine⟨h1,h2,h3,h4,f,h5.only ho hn,h6,λk l hl=>?_⟩;obtain⟨A,aB,e1,e2,e3⟩:=h7 k l hl;exact⟨A,aB,e1,e2,e3.spare ho hs ht⟩
theorem nU.aa{w:World}(h:nU gm aA ps w)(hb:dP w w'):nU gm aA ps w':=
 h.bQ (F:=λ_=>False) (ts:=[]) (ag.ae hb _) (λ_ _ _ _ h=>h) zu id
theorem MJ(A:Option Addr)(l:List UInt8)(n ca:Nat)(w:World)(hn:l.length=n)(P8:n<=1000)(hb:aw w A l):
 bG 343 #[.slice A n ca] w λe w'=>dP w w'/\∃A' aB,e= .returned (.slice A' n aB)/\n<=aB/\dn w' A' (bv l) 5/\∀q,A'=some q->w.heap.size<=q.block:=by
 have apn:∀(W:World) (a:Option Addr) (n c:Nat),(binOp .eql 29 (.slice a n c) (.slice none 0 0)).run Tryz.prog W= .ok (.bool a.isNone) W:=λW a n c=>Lib.run_eql_slice_nil W 29 5 a n c 0 0 Tryz.underlying29;have H1:=zi (And.intro hn hb);clear hn hb;cases A with
 |none=>
  have hq:(none:Option Addr).isNone=true:=rfl;have hl:Hid (l=[]):=by
   rcases H1.2 with h|⟨b,off,h,_⟩
   ·exact h
   ·cases h
  go_enter Tryz.func343,Tryz.ntmps343;go_wp2_with fail;go_ret;have Ue:=H1.1;rw[hl.out]at Ue;obtain rfl:n=0:=by simpa using Ue.symm
  refine⟨ak _ _,none,0,rfl,ai _,⟨.inl (by rw[hl.out];rfl),λp hp=>by cases hp⟩,λq hq=>by cases hq⟩
 |some a=>
  have hq:(some a).isNone=false:=rfl;obtain⟨w1,dj,aI⟩:=zF w (.cells #[] 5);have O1:Hid (Ob w1 w.heap.size (.slice (some ⟨w.heap.size,0,none⟩) 0 0) []):=by rw[Hid,<-dj];exact World.ownsRow_lit w #[] 0 (ai _) (by simp[maxLen]) rfl
  have fJ:=zi aI;have HS:=zi (H1.2.bQ aI).src;clear aI;go_enter Tryz.func343,Tryz.ntmps343;go_wp2_with (first
   |(at_builtin
     refine ic rfl (.tmp 5) (.tmp 6) rfl rfl O1.out (some a) n ca l rfl H1.out.1 HS.out (by simp;omega) fJ.out.size ?_;intro v2 w2 o2 m2;have b2:=zi (fJ.out.trans (m2.gV O1.out fJ.out.size));rw[aX]at o2;obtain⟨A2,c2,rfl,lC,nX,pK⟩:=bJ o2;obtain⟨HQ,O2⟩:=dz (zd lC nX pK) o2;clear lC nX pK o2 m2)
   |fail)
  go_ret;obtain⟨h1,h2,h3⟩:=HQ.out;exact⟨b2,A2,c2,by rw[H1.1];rfl,by rw[<-H1.1];exact h1,⟨h2,λp hp=>dc O2 (h3 p hp)⟩,λq hq=>(O2.lt _ (h3 q hq)).1⟩
def wK(gm aA:Nat):iM where
 T:=272
 rv:=Ry gm
 rc:=Ry gm
 aan:=340
 Nf:=341
 alG:=339
 Mt:=342
 bs:=λk=>k=gm
 ts:=[]
 u8:=True
 At:=nU gm aA
theorem Tryz.UN:(Go.method 570 272 v "Get").run Tryz.prog w= .ok (340,v) w:=zp
theorem Tryz.Wm:(Go.method 570 272 v "Put").run Tryz.prog w= .ok (341,v) w:=zp
theorem Tryz.Rl:(Go.method 570 272 v "Scan").run Tryz.prog w= .ok (342,v) w:=zp
theorem Xf(gm aA:Nat)(ps:List Pl.Pr)(key:Pl.Key)(A:Option Addr)(n ca:Nat)(w:World)(hA:nU gm aA ps w)(tE:Pl.ey key)(hn:key.length=n)(hb:aw w A key):
 bG 340 #[Ry gm,.slice A n ca] w (akp (wK gm aA) ps key w):=by
 obtain⟨g,w1,hg,dj,aI,B1⟩:=zE w 272 [.map (some gm)];have c0:=cA B1;have alp:key.length<=40:=tE.2;have Uk:=hA.aa aI;obtain⟨f,WZ,Fz,FC⟩:=Uk.map;have hl:=WZ.look_ok Tryz.underlying270 (Tryz.LZ w1) key zo;have hcv:(convert 29 9 (.slice A n ca)).run Tryz.prog w1= .ok (.string (ar key)) w1:=by rw[<-hn];exact dQ w1 A key ca (hb.bQ aI)
 have fJ:=aI;have HA1:=Uk;unfold Ry;cases tN:Pl.dI key ps with
 |none=>rw[Fz key tN]at hl;simp only[mE,oB]at hl;go_enter Tryz.func340,Tryz.ntmps340;go_wp2_with fail;go_ret2;exact⟨.ae fJ,HA1,.inr ⟨tN,rfl⟩⟩
 |some l=>obtain⟨B,aB,e1,e2,e3⟩:=FC key l tN;rw[e1]at hl;simp only[lU,oQ]at hl;have aij:l.length<=100:=(Uk.fit ⟨_,_⟩ (Pl.Io tN)).2;obtain⟨m,hm⟩:=ze l.length;have HC:=MJ B l m aB w1 hm zo e3.bytes;rw[hm]at hl;go_enter Tryz.func340,Tryz.ntmps340;go_wp2_with fail;refine HC.mono ?_;rintro e w2 ⟨bz,A2,c2,rfl,lC,wC,Mg⟩;have HQ:=zd lC wC Mg;go_wp2_with fail;go_ret2;obtain⟨q1,q2,q3⟩:=id HQ;exact⟨.ae (fJ.trans (bz.mono fJ.size)),HA1.aa bz,.inl ⟨l,A2,c2,tN,by rw[hm];rfl,by rw[hm];exact q1,q2,λq hq=>ao fJ.size (q3 q hq)⟩⟩
end Go.Proofs.YtbhpofdafhahgaaGreatDoor
namespace Go.Proofs.YtbhpofdafhahgaaGreatDoor
namespace Pl
variable {c m:Nat} {k v:Key} {P:List fh} {b:Bs}
variable (n:Nat) (x:fh) (ps:List Pr)
theorem JP{c d:UInt8}(q k:Key)(h:c≠d):jU (c::q) (d::k)=false:=by rw[CX,aH (λe=>h e.symm)];rfl
theorem Jh{n:Nat}(hn:n<4294967296)(hm:m<4294967296)(r:Key):jU (aum c n []) (aum c m r)=decide (n=m):=by
 unfold aum;rw[CX,aQ rfl,Bool.true_and,dH];unfold jU;have h4:(be 4 m++r).take (be 4 n).length=be 4 m:=by rw[aG,ua (by rw[aG];omega),dx (by rw[aG];omega)]
 rw[h4];by_cases e:n=m
 ·grind
 ·rw[aH e,aH];rintro⟨_,h⟩;exact e (sH hn hm h.symm)
theorem alC{n i j:Nat}(hij:i<j)(hj:j<256):kP n i<kP n j:=by
 unfold kP aum;rw[qv];refine .inr ⟨rfl,?_⟩
 induction be 4 n with
 |nil=>rw[aX,aX,qv];refine .inl ?_;rw[UInt8.lt_iff_toNat_lt];simp;omega
 |cons a l ih=>simp_all
theorem LC{n:Nat}(hn:n<4294967296):∀(f i:Nat) (l:List UInt8) (ps:List Pr),qu ps->l.length<=100*f->i+f<=256->(∀p∈jw (jU (aum 112 n [])) ps,∃j,j<i/\p.key=kP n j)->
 qu (auk n f i l ps)/\(jw (jU (aum 112 n [])) (auk n f i l ps)).flatMap Pr.val=(jw (jU (aum 112 n [])) ps).flatMap Pr.val++l
 |0,i,l,ps,hs,hl,hi,hp=>by have:l=[]:=zw;subst this;exact⟨hs,by simp[auk]⟩
 |f+1,i,l,ps,hs,hl,hi,hp=>by
  unfold auk;by_cases h0:l=[]
  ·grind
  ·rw[aj h0];have hb:jU (aum 112 n []) (kP n i)=true:=by unfold kP;rw[Jh hn hn];simp
   have auc:jw (jU (aum 112 n [])) (dN (kP n i) (l.take 100) ps)=jw (jU (aum 112 n [])) ps++ [⟨kP n i,l.take 100⟩]:=by rw[rU hs,ah hb,aeq];intro p hp';obtain⟨j,hj,e⟩:=hp p hp';rw[e];exact alC hj zo
   obtain⟨h1,h2⟩:=LC hn f (i+1) (l.drop 100) (dN (kP n i) (l.take 100) ps) (jA hs) zw zo (λp hp'=>by
    grind)
   simp_all
theorem yD{n:Nat}{k:Key}(hk:∀i,k≠kP n i):∀(f i:Nat) (l:List UInt8) (ps:List Pr),qu ps->dI k (auk n f i l ps)=dI k ps
 |0,_,_,_,_=>rfl
 |f+1,i,l,ps,hs=>by
  unfold auk;split
  ·rfl
  ·rw[yD hk f (i+1) _ _ (jA hs),fQ hs,aj (hk i)]
theorem tg{n:Nat}{q:Key->Bool}(hq:∀i,q (kP n i)=false):∀(f i:Nat) (l:List UInt8) (ps:List Pr),qu ps->jw q (auk n f i l ps)=jw q ps
 |0,_,_,_,_=>rfl
 |f+1,i,l,ps,hs=>by
  unfold auk;split
  ·rfl
  ·rw[tg hq f (i+1) _ _ (jA hs),rU hs,aj zw]
theorem Fg(n:Nat):∀(f i:Nat) (l:List UInt8) (ps:List Pr),qu ps->qu (auk n f i l ps)
 |0,_,_,_,hs=>hs
 |f+1,i,l,ps,hs=>by
  unfold auk;split
  ·exact hs
  ·exact Fg n f (i+1) _ _ (jA hs)
theorem DC(n:Nat):∀(f i:Nat) (l:List UInt8) (ps:List Pr),(auk n f i l ps).length<=ps.length+(l.length+99)/100
 |0,_,_,_=>Nat.le_add_right _ _
 |f+1,i,l,ps=>by
  unfold auk;split
  ·omega
  ·rename_i h0;have h1:=DC n f (i+1) (l.drop 100) (dN (kP n i) (l.take 100) ps);have h2:=jW (kP n i) (l.take 100) ps;have h3:0<l.length:=zw
   grind
structure Good(P:List fh)(b:Bs):Prop where
 jX:b.count=P.length
 few:P.length<1000000
 uo:qu b.ps
 pay:∀n,n<P.length->(jw (jU (aum 112 (n+1) [])) b.ps).flatMap Pr.val=bj (ed P n)
 free:∀n,P.length<=n->n<4294967295->jw (jU (aum 112 (n+1) [])) b.ps=[]
 ent:∀n,n<P.length->dI (kE (n+1)) b.ps=some (dK (n+1) (ed P n))
 hed:∀k,k<P.length/3->dI (kB (k+1)) b.ps=some (nE P k)
theorem Hu:Good [] ⟨[],none,0⟩:=⟨rfl,zj,List.Pairwise.nil,λn h=>absurd h (Ci _),λ_ _ _=>rfl,zu,zu⟩
def Lh(k:Key):Prop:=∃c r,k=c::r/\c≠112/\c≠101/\c≠98/\c≠110
theorem Lh.ne(h:Lh k)(n:Nat)(r:Key):k≠aum 101 n r/\k≠aum 98 n r:=by
 obtain⟨c,r',rfl,h1,h2,h3,h4⟩:=h;constructor
 ·intro e;injection e with e _;grind
 ·intro e;injection e with e _;grind
theorem Lh.jU(h:Lh k)(n:Nat):jU (aum 112 n []) k=false:=by obtain⟨c,r',rfl,h1,h2,h3,h4⟩:=h;exact JP _ _ (λe=>zw)
theorem Good.put(h:Good P b)(hk:Lh k):Good P {b with ps:=dN k v b.ps}:=
 ⟨h.jX,h.few,jA h.uo,λn hn=>by rw[rU h.uo,aj (by rw[hk.jU];decide)];exact h.pay n hn,λn h1 h2=>by rw[rU h.uo,aj (by rw[hk.jU];decide)];exact h.free n h1 h2,
   λn hn=>by rw[fQ h.uo,aj (λe=>(hk.ne (n+1) []).1 e.symm)];exact h.ent n hn,λn hn=>by rw[fQ h.uo,aj (λe=>(hk.ne (n+1) []).2 e.symm)];exact h.hed n hn⟩
theorem Good.tb(h:Good P b)(t:Option Tb):Good P {b with tb:=t}:=⟨h.jX,h.few,h.uo,h.pay,h.free,h.ent,h.hed⟩
theorem DM(h:c=99\/c=114\/c=104)(nm rest:List UInt8):Lh (keyOf c nm rest):=by refine⟨UInt8.ofNat c,_,rfl,?_⟩;rcases h with rfl|rfl|rfl<;>decide
theorem xX{x:fh}(h:m<P.length):ed (P++ [x]) m=ed P m:=by
 unfold ed
 grind
theorem Hy(P:List fh)(x:fh):ed (P++ [x]) P.length=x:=by unfold ed;simp
theorem qh{P Q:List fh}:∀k,(∀m,m<3*k->ed P m=ed Q m)->cK P k=cK Q k
 |0,_=>rfl
 |k+1,h=>by rw[mZ,mZ];unfold nE fG;rw[qh k (λm hm=>h m zo),h (3*k) zo,h (3*k+1) zo,h (3*k+2) zo]
theorem Lv{Q:List fh}{k:Nat}(h:∀m,m<3*(k+1)->ed P m=ed Q m):nE P k=nE Q k:=by unfold nE fG;rw[qh k (λm hm=>h m zo),h (3*k) zo,h (3*k+1) zo,h (3*k+2) zo]
theorem ahY{n:Nat}(hn:n<4294967296)(hm:m<4294967296)(h:n≠m):kE n≠kE m:=by intro e;unfold kE aum at e;injection e with _ e;exact h (sH hn hm zw)
theorem ami{n:Nat}(hn:n<4294967296)(hm:m<4294967296)(h:n≠m):kB n≠kB m:=by intro e;unfold kB aum at e;injection e with _ e;exact h (sH hn hm zw)
theorem kEB(m:Nat):kE n≠kB m:=by intro e;unfold kE kB aum at e;grind
theorem kEP(m i:Nat):kE n≠kP m i:=by intro e;unfold kE kP aum at e;grind
theorem kBP(m i:Nat):kB n≠kP m i:=by intro e;unfold kB kP aum at e;grind
theorem kEN:kE n≠kN:=by intro e;unfold kE kN aum at e;grind
theorem kBN:kB n≠kN:=by intro e;unfold kB kN aum at e;grind
theorem Yr{n:Nat}(hc:UInt8.ofNat c≠112)(q r:Key):jU (112::q) (aum c n r)=false:=JP _ _ (λe=>zw)
theorem yu:aum 112 n []=112::be 4 n:=by unfold aum;simp
theorem Good.header(h:Good P b){x:fh}{n:Nat}(hn:n=P.length+1)(h3:n%3=0){p1:List Pr}(he:∀m,m<=P.length->dI (kE (m+1)) p1=some (dK (m+1) (ed (P++ [x]) m)))(hb:∀k,dI (kB k) p1=dI (kB k) b.ps):
 auo p1 (n/3)=nE (P++ [x]) (n/3-1):=by
 obtain⟨k,hk⟩:∃k,n=3*(k+1):=⟨n/3-1,zo⟩;have e1:n/3=k+1:=zo;rw[e1];have hh:aun p1 k=cK (P++ [x]) k:=by
  cases k with
  |zero=>rfl
  |succ k=>unfold aun auy;rw[aj zo,hb,h.hed k zo,mZ,Lv (Q:=P) (λm hm=>xX zo)];rfl
 have g:∀d,d<3->auu p1 (3*k+(d+1))=dK (3*k+(d+1)) (ed (P++ [x]) (3*k+d)):=λd hd=>by
  unfold auu
  grind
 unfold auo nE aut fG;simp only[qX];rw[hh,show 3*k+1=3*k+(0+1) by omega,g 0 zj,show 3*k+2=3*k+(1+1) by omega,g 1 zj,show 3*k+3=3*k+(2+1) by omega,g 2 zj];rfl
theorem Good.Xr(h:Good P b)(x:fh)(hl:(bj x).length<=10000)(hf:P.length+1<1000000):Good (P++ [x]) (aup b x):=by
 obtain⟨n,hn⟩:∃n,n=P.length+1:=by simp
 have Fi:b.count+1=n:=by rw[h.jX,hn]
 obtain⟨p0,hp0⟩:∃p,p=auk n 100 0 (bj x) b.ps:=by simp
 obtain⟨p1,NW⟩:∃p,p=dN (kE n) (dK n x) p0:=by simp
 obtain⟨p2,QC⟩:∃p,p=(if n%3=0 then dN (kB (n/3)) (auo p1 (n/3)) p1 else p1):=by simp
 have hB:aup b x={b with ps:=dN kN (be 4 n) p2,count:=n}:=by unfold aup auv;rw[Fi,QC,NW,hp0]
 have tu:jw (jU (aum 112 n [])) b.ps=[]:=by rw[hn];exact h.free _ zo zo
 obtain⟨Fl,hf0⟩:=LC (n:=n) zo 100 0 (bj x) b.ps h.uo zo zj zw;rw[<-hp0]at Fl hf0;have ma:qu p1:=by rw[NW];exact jA Fl
 have nX:qu p2:=by rw[QC];split;exact jA ma;grind
 have g0:∀k,(∀i,k≠kP n i)->dI k p0=dI k b.ps:=λk hk=>by rw[hp0];exact yD hk _ _ _ _ h.uo
 have gE:∀m,m<=P.length->dI (kE (m+1)) p1=some (dK (m+1) (ed (P++ [x]) m)):=λm hm=>by
  rw[NW,fQ Fl];by_cases e:m=P.length
  ·subst e;rw[ah (by rw[hn]),Hy,hn]
  ·rw[aj (ahY zo zo zo),g0 _ (kEP _ _),h.ent m zo,xX zo]
 have gB:∀k,dI (kB k) p1=dI (kB k) b.ps:=λk=>by rw[NW,fQ Fl,aj (λe=>kEB _ _ e.symm),g0 _ (kBP _ _)]
 have hH:=λh3=>h.header (x:=x) hn h3 gE gB;have f2:∀q:Key,jw (jU (112::q)) p2=jw (jU (112::q)) p0:=λq=>by
  have a1:jw (jU (112::q)) p1=jw (jU (112::q)) p0:=by rw[NW,rU Fl,aj (by unfold kE;rw[Yr zj];decide)]
  rw[QC];split
  ·rw[rU ma,aj (by unfold kB;rw[Yr zj];decide),a1]
  grind
 have f3:∀q:Key,jw (jU (112::q)) (dN kN (be 4 n) p2)=jw (jU (112::q)) p0:=λq=>by rw[rU nX,aj (by unfold kN;rw[JP _ _ zj];decide),f2]
 have l1:(P++ [x]).length=n:=zw;rw[hB];refine⟨l1.symm,zo,jA nX,λm hm=>?_,λm h1 h2=>?_,λm hm=>?_,λk hk=>?_⟩
 ·rw[l1]at hm;show(jw (jU (aum 112 (m+1) [])) (dN kN (be 4 n) p2)).flatMap Pr.val=_;rw[yu,f3,<-yu];by_cases e:m=P.length
  ·subst e;rw[<-hn,hf0,tu,Hy];rfl
  ·rw[hp0,tg (λi=>by unfold kP;rw[Jh zo zo];grind) _ _ _ _ h.uo,h.pay m zo,xX zo]
 ·rw[l1]at h1;show jw (jU (aum 112 (m+1) [])) (dN kN (be 4 n) p2)=_;rw[yu,f3,<-yu,hp0,tg (λi=>by unfold kP;rw[Jh zo zo];grind) _ _ _ _ h.uo];exact h.free m zo h2
 ·rw[l1]at hm;show dI (kE (m+1)) (dN kN (be 4 n) p2)=_;rw[fQ nX,aj (kEN _),QC];split
  ·rw[fQ ma,aj (kEB _ _)];grind
  grind
 ·rw[l1]at hk;show dI (kB (k+1)) (dN kN (be 4 n) p2)=_;rw[fQ nX,aj (kBN _),QC];by_cases e:k<P.length/3
  ·have hh:nE (P++ [x]) k=nE P k:=Lv (λm hm=>xX zo);split
   ·rw[fQ ma,aj (ami zo zo zo),gB,h.hed k e,hh]
   ·rw[gB,h.hed k e,hh]
  ·rw[ah zo,fQ ma,ah zw,hH zo]
   grind
theorem Good.hash(h:Good P b){k:Nat}(hk:k<=P.length/3):aun b.ps k=cK P k:=by
 cases k with
 |zero=>rfl
 |succ k=>unfold aun auy;rw[aj zo,h.hed k zo,mZ];rfl
theorem Yv(P:List fh)(k:Nat):(nE P k).length=13:=eZ _ _ _
theorem Good.aqt(h:Good P b)(t:Tb)(old:List UInt8):Good P (auw b t old):=
 ((h.put (DM (c:=104) zo _ _)).put (DM (c:=99) zo _ _)).tb _
theorem Ym{x:List Pr}(hx:qu x):dI k x=(jw (λy=>decide (y=k)) x).head?.map Pr.val:=by
 obtain⟨A,M,B,rfl,hA,hM,hB⟩:=pd k x hx;rw[vx hA hM hB,ez,ez];have eA:jw (λy=>decide (y=k)) A=[]:=np.2 zw;have eB:jw (λy=>decide (y=k)) B=[]:=np.2 zw;rw[eA,eB];rcases hM with rfl|⟨m,rfl,hm⟩
 ·rfl
 ·unfold jw;grind
theorem Yb{k':Key}{ps:List Pr}(h:qu ps)(hk:rD k ps=true):dI k' (Ld k ps)=if k'=k then none else dI k' ps:=by
 by_cases e:k'=k
 ·subst e;rw[ah rfl];obtain⟨A,M,B,rfl,hA,hM,hB⟩:=pd k' ps h;have hn:M≠ []:=λe=>by rw[CI,vx hA hM hB,e]at hk;cases hk
  rw[NL hA hM hB hn];exact vx (M:=[]) hA zu hB
 ·rw[aj e,Ym (Yp h),Ym h,MQ h hk,aj zw]
theorem aby(h:Good P b)(hk:Lh k)(hh:rD k b.ps=true):Good P {b with ps:=Ld k b.ps}:=
 ⟨h.jX,h.few,Yp h.uo,λn hn=>by rw[MQ h.uo hh,aj (by rw[hk.jU];decide)];exact h.pay n hn,λn h1 h2=>by rw[MQ h.uo hh,aj (by rw[hk.jU];decide)];exact h.free n h1 h2,
   λn hn=>by rw[Yb h.uo hh,aj (λe=>(hk.ne (n+1) []).1 e.symm)];exact h.ent n hn,λn hn=>by rw[Yb h.uo hh,aj (λe=>(hk.ne (n+1) []).2 e.symm)];exact h.hed n hn⟩
theorem Good.op(h:Good P b)(o:jb):Good P (aul b o).2:=by
 unfold aul;split
 ·exact(h.put (DM (c:=99) zo _ _)).tb _
 ·rename_i t _;have kr:Lh (aus t o):=DM (c:=114) zo _ _;split
  ·split
   ·exact h.put kr
   grind
  ·rename_i old ho;split
   ·exact h
   ·have hl:=h.aqt t old;have hr:aus t o≠kC t.name/\aus t o≠kH t.name t.lost:=by constructor<;>(intro e;have e:=congrArg List.head? e;exact absurd e (by show¬(some (114:UInt8)=some _);decide))
    split
    ·refine aby hl kr ?_;show rD (aus t o) (dN (kC t.name) _ (dN (kH t.name t.lost) _ b.ps))=true;rw[CI,fQ (jA h.uo),aj hr.1,fQ h.uo,aj hr.2,ho];rfl
    ·exact hl.put kr
def nK(b:Bs)(os:List jb):Bs:=os.foldl (λb o=>(aul b o).2) b
theorem Good.ops{P:List fh}:∀(os:List jb) {b:Bs},Good P b->Good P (nK b os)
 | [],_,h=>h
 |o::os,_,h=>Good.ops os (h.op o)
theorem vE(b:Bs)(o:jb):(aul b o).2.count=b.count:=by
 unfold aul auw;split
 ·rfl
 ·split
  ·grind
  ·split
   ·rfl
   ·split<;>rfl
theorem Rz{ps:List Pr}(h:qu ps):(dN k v ps).length=if(dI k ps).isSome then ps.length else ps.length+1:=by
 obtain⟨A,M,B,rfl,hA,hM,hB⟩:=pd k ps h;rw[uA hA hM hB,vx hA hM hB]
 grind
theorem oV{α:Type}(f:α->List UInt8)(c:Nat):∀l:List α,(∀x∈l,(f x).length<=c)->(l.flatMap f).length<=c*l.length
 | [],_=>by simp
 |a::l,h=>by have h1:=oV f c l zS;have h2:=h a zu;rw[dR,ax,bE,Nat.mul_succ];omega
theorem AJ{v:Vl}(h:Gq v):(nI v).length<=18:=by
 unfold nI short;rcases h with⟨h1,_,_⟩|⟨h1,_,h2⟩
 ·rw[ah h1,bE,aG];omega
 grind
theorem Hh{c:Cl}(h:Gv c):(rO c).length<=10:=by unfold rO short;rw[ax,bE,dy];have:=h.1.1.2;omega
theorem Rf{o:jb}(h:p8 o):(fp o).length<=83:=by
 unfold fp short;have h8:=h.1.1.2;rw[bE,ax,bE];rcases h.2 with⟨a,b,c⟩|⟨a,b,c⟩|⟨a,b,v,c,d⟩
 ·rw[ah a];have:=oV rO 10 o.aZ (λx hx=>Hh (b.2.1 x hx));have:=b.1.2;unfold ku
  grind
 ·rw[aj zo,aj zo];have:=oV nI 18 o.row (λx hx=>AJ (c.2 x hx));have:=c.1.2;unfold l6
  grind
 ·rw[aj zo,ah a,c];have:=AJ d
  grind
theorem mg{t:fh}(h:nz t):(bj t).length<=1341:=by have h1:=oV fp 83 t.ops (λo ho=>Rf (h.2.2 o ho));have h2:=h.2.1.2;unfold bj ky;rw[ax,ax,bE,aG,aG];omega
def partsOf:List Pr:=auk n 100 0 (bj x) ps
def gh:List Pr:=dN (kE n) (dK n x) (partsOf n x ps)
theorem Good.gh{P:List fh}{b:Bs}(h:Good P b)(x:fh){n:Nat}(hn:n=P.length+1):
 (∀m,m<=P.length->dI (kE (m+1)) (Pl.gh n x b.ps)=some (dK (m+1) (ed (P++ [x]) m)))/\(∀k,dI (kB k) (Pl.gh n x b.ps)=dI (kB k) b.ps)/\qu (Pl.gh n x b.ps):=by
 have Fl:qu (partsOf n x b.ps):=Fg _ _ _ _ _ h.uo;have hf:=h.few;have g0:∀k,(∀i,k≠kP n i)->dI k (partsOf n x b.ps)=dI k b.ps:=λk hk=>yD hk _ _ _ _ h.uo;refine⟨λm hm=>?_,λk=>?_,jA Fl⟩
 ·unfold Pl.gh;rw[fQ Fl];by_cases e:m=P.length
  ·subst e;rw[ah (by rw[hn]),Hy,hn]
  ·rw[aj (ahY zo zo zo),g0 _ (kEP _ _),h.ent m zo,xX zo]
 ·unfold Pl.gh;rw[fQ Fl,aj (λe=>kEB _ _ e.symm),g0 _ (kBP _ _)]
theorem Good.block(h:Good P b)(x:fh){n k:Nat}(hn:n=P.length+1)(h3:n=3*k):
 (∀m,3*(k-1)<m->m<=3*k->∃l,dI (kE m) (Pl.gh n x b.ps)=some l)/\(k≠1->∃l,dI (kB (k-1)) (Pl.gh n x b.ps)=some l/\l.length=13):=by
 obtain⟨h1,h2,_⟩:=h.gh x hn;refine⟨λm h4 h5=>?_,λhk=>?_⟩
 ·obtain⟨m,rfl⟩:∃j,m=j+1:=⟨m-1,zo⟩;simp_all
 ·obtain⟨k,rfl⟩:∃j,k=j+2:=⟨k-2,zo⟩;rw[h2];exact⟨_,h.hed k zo,Yv _ _⟩
theorem Tt:auv n x ps=dN kN (be 4 n) (if n%3=0 then dN (kB (n/3)) (auo (Pl.gh n x ps) (n/3)) (Pl.gh n x ps)else Pl.gh n x ps):=rfl
theorem ZQ:(auv n x ps).length<=ps.length+((bj x).length+99)/100+3:=by
 rw[Tt];have h1:=DC n 100 0 (bj x) ps;have h2:=jW (kE n) (dK n x) (auk n 100 0 (bj x) ps);have h4:(Pl.gh n x ps).length<=ps.length+((bj x).length+99)/100+1:=by unfold Pl.gh partsOf;omega
 split
 ·have h3:=jW (kB (n/3)) (auo (Pl.gh n x ps) (n/3)) (Pl.gh n x ps);have h5:=jW kN (be 4 n) (dN (kB (n/3)) (auo (Pl.gh n x ps) (n/3)) (Pl.gh n x ps));omega
 ·have h5:=jW kN (be 4 n) (Pl.gh n x ps);omega
theorem Oz(f j:Nat)(ps:List Pr):auk n f j [] ps=ps:=by
 cases f with
 |zero=>rfl
 |succ f=>unfold auk;simp
theorem KC{n f j:Nat}{l:List UInt8}{ps:List Pr}(h:l≠ []):auk n (f+1) j l ps=auk n f (j+1) (l.drop 100) (dN (kP n j) (l.take 100) ps):=by
 conv=>lhs;unfold auk
 grind
end Pl
end Go.Proofs.YtbhpofdafhahgaaGreatDoor
