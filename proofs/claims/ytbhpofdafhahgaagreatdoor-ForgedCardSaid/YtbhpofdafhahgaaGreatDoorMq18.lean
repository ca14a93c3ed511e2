/- Part 18: DbA DbB RwB PhY PlainLean KpA PiJ PiK PiL PiM PlainLogged PlainKeep PiN RwC PlainBeg PlainEach RwD RwE. -/
import Derived.Test.YtbhpofdafhahgaaGreatDoorMq17
set_option linter.all false
set_option maxHeartbeats 8000000
set_option maxRecDepth 100000
namespace Go.Proofs.YtbhpofdafhahgaaGreatDoor
open Go.RowKit
variable [Inhabited eH]
namespace Pl
variable {fk:Key} {ps:List Pr}
def pJ(fk:Key)(ps:List Pr):List Pr:=ps.filter (λp=>!decide (p.key<fk))
theorem N0(h:∀p∈ps,p.key<fk):pJ fk ps=[]:=np.2 (λp hp=>by simp[h p hp])
theorem YS(h:∀p∈ps,¬p.key<fk):pJ fk ps=ps:=List.filter_eq_self.2 (λp hp=>by simp[h p hp])
theorem AP(fk:Key)(a b:List Pr):pJ fk (a++b)=pJ fk a++pJ fk b:=AX ..
theorem wR{α:Type}(fk:Key)(f:α->List Pr):∀l:List α,pJ fk (l.flatMap f)=l.flatMap (λx=>pJ fk (f x))
 | []=>rfl
 |a::l=>by rw[dR,dR,AP,wR fk f l]
theorem Hj{fk:Key}:∀{ps:List Pr},qu ps->pJ fk ps=ps.drop (aR ps fk)
 | [],_=>rfl
 |p::ps,h=>by
  obtain⟨h1,h2⟩:=lM.1 h;by_cases hp:p.key<fk
  ·have e:aR (p::ps) fk=aR ps fk+1:=by unfold aR;simp_all
   rw[e,jg,<-Hj h2];unfold pJ
   grind
  ·have e:aR (p::ps) fk=0:=by unfold aR;simp_all
   rw[e,jD];refine YS λq hq=>?_
   grind
end Pl
variable {w w':World} {d:Pl.Dk} {h:Nat} {js:List Nat} {s:Pl.ST h} {t:Pl.Tr h}
variable (E:fe) (go gm aq many:Nat) (fk:Pl.Key)
abbrev gp(h:Nat)(t:Pl.Tr h):List Pl.Pr:=Pl.pJ fk (Pl.kh h t)
def aen(h:Nat):Prop:=
 ∀(t:Pl.Tr h) (r jt:Nat) (lo:Pl.Key) (hi:Option Pl.Key) (w:World) (rd:Int) (G:Gh) (acc:List Pl.Pr),TW E w rd G->G r=some ⟨h,t⟩->Pl.yK (decide (jt=0)) h t->Pl.yA h lo hi t->jt+h<=64->
  rH w go gm aq many acc->acc.length<many->acc.length+(Pl.kh h t).length<=100000->
  bG 322 #[.pointer (some ⟨E.gT,0,none⟩),dJ r,iR lo hi,.int .i64 (jt:Nat),.string (ar fk),YD go gm] w (xH E go gm aq many G acc (Pl.pJ fk (Pl.kh h t)) w)
theorem IY(hn:E.m.n<=4096)(hl:E.d.aW≠0)(hgo:aq<=go)(h1:1<aq)(h2:0<aq)(fu:LO<=aq)(hm:many<=100000)(h:Nat)(ih:∀h',h=h'+1->aen E go gm aq many fk h'):aen E go gm aq many fk h:=by
 intro t r jt lo hi w rd G acc hw hG CE hs hd IQ hac bU;obtain⟨sl,yZ⟩:=ze (ar lo);obtain⟨sh,CD⟩:=ze (ar (hi.getD []));obtain⟨bn,J9⟩:=ze hi.isNone;have es:iR lo hi= .agg #[.string sl,.string sh,.bool bn]:=by unfold iR;rw[yZ,CD,J9]
 obtain⟨gs,w1,ui,dj,yg,B1⟩:=zE w 368 [.string sl,.string sh,.bool bn];have HPG:=xU E r h jt t lo hi w1 rd G (hw.aa yg) hG CE hs zo hn;rw[es]at HPG|-
 unfold dJ at HPG|-
 unfold YD;have HF1:=px.ae yg;have aqR:=IQ.aa yg;have MY:=And.intro hac bU;obtain⟨e0,e1,e2,_,_,_⟩:=iY B1;have VY:=KP;have arY:∀(b:Nat) (W:World),(Instr.typeAssert (.iface 343 (.pointer (some ⟨b,0,none⟩))) 263 343 true).run Tryz.prog W= .ok (.tuple #[.pointer (some ⟨b,0,none⟩),.bool true]) W:=λb W=>by kernel_rfl
 have arL:∀(b:Nat) (W:World),(Instr.typeAssert (.iface 377 (.pointer (some ⟨b,0,none⟩))) 263 343 true).run Tryz.prog W= .ok (.tuple #[.pointer none,.bool false]) W:=λb W=>by kernel_rfl
 have aqE:∀(b:Nat) (W:World),(Instr.typeAssert (.iface 377 (.pointer (some ⟨b,0,none⟩))) 263 377 true).run Tryz.prog W= .ok (.tuple #[.pointer (some ⟨b,0,none⟩),.bool true]) W:=λb W=>by kernel_rfl
 go_enter Tryz.func322,Tryz.ntmps322;go_wp2_with fail;refine HPG.mono ?_;rintro e w2 h2';rcases h2' with⟨v2,G2,rR,rfl,hW2,hE2,Qi,_,hP2,_,_⟩|⟨fK,_⟩;rotate_left
 ·exact absurd fK hl
 have HF2:(px w w2):=HF1.trans Qi.wk;have amb:=aqR.Ir Qi;have BS2:=Qi.aC B1 zj zj;cases h with
 |zero=>
  obtain⟨ps,vS⟩:∃ps:List Pl.Pr,ps=t:=⟨t,rfl⟩;subst vS;obtain⟨b,rfl,rJ⟩:=hP2;have amw:ps.length<=300:=by have h5:=iP ps;have h9:=Pl.yK.root CE;have:=h9.1;omega
  have GY:=ET b ps fk w2 rJ hs.1 zo;have tN:Pl.pJ fk ps=ps.drop (Pl.aR ps fk):=Pl.Hj hs.1;have hip:=Pl.qV ps fk;obtain⟨i0,yW⟩:=ze (Pl.aR ps fk);rw[yW]at GY tN hip;have ane:(acc.length<many/\acc.length+ps.length<=100000):=MY;obtain⟨sfk,aat⟩:=ze (ar fk);rw[aat]at GY|-
  have HGL:=zi tN;clear tN;unfold fR;go_wp2_with fail;refine GY.mono ?_;rintro e w3 ⟨rfl,bg⟩;have HW3:=hW2.aa bg;have HF3:=HF2.trans (px.ae bg);have aev:=amb.aa bg;obtain⟨A,ca,yg,GJ,Er⟩:=rJ.aa bg;obtain⟨n0,kG⟩:=ze (List.length ps);rw[kG]at yg GJ amw hip;obtain⟨f0,_⟩:=bP yg;have q4:(i0:Int)<=(n0:Int):=zo;have q5:(i0:Int)<=(ca:Int):=zo;have q6:(n0:Int)<=(ca:Int):=zo;by_cases Ue:i0=n0
  ·subst Ue;have HG0:Hid (Pl.pJ fk ps=[]):=by rw[Hid,HGL.out];exact nd.2 (by rw[kG];exact ai _)
   rcases A with _|a
   all_goals
    by_cases fo:ca=i0
    ·subst fo;go_wp2_with fail
     go_loopw [41] (λi wr=>i= .int .i64 (0:Int)/\w3=wr) (λ_ _=>0)
     case atStart=>exact⟨rfl,rfl⟩
     case round=>obtain⟨rfl,rfl⟩:=hrel;go_wp2_with fail;go_ret;show xH E go gm aq many G acc (Pl.pJ fk ps) w _ _;rw[HG0.out];exact Xu MY.1 HW3 hE2 aev HF3
    ·go_wp2_with fail
     go_loopw [41] (λi wr=>i= .int .i64 (0:Int)/\w3=wr) (λ_ _=>0)
     case atStart=>exact⟨rfl,rfl⟩
     case round=>obtain⟨rfl,rfl⟩:=hrel;go_wp2_with fail;go_ret;show xH E go gm aq many G acc (Pl.pJ fk ps) w _ _;rw[HG0.out];exact Xu MY.1 HW3 hE2 aev HF3
  ·obtain⟨b2,apE,rfl⟩:=Er.at2 (by rw[kG];omega);have atO:¬ca=i0:=zo;obtain⟨ps0,atE⟩:=ze ps;have hsd:=Er.drop (i0*2);rw[zK ps i0 (by rw[kG];omega)]at hsd;obtain⟨off,wG⟩:=ze (apE+i0*2);rw[wG]at hsd;obtain⟨qs,hqs⟩:=ze (ps.drop i0);have HGQ:(Pl.pJ fk ps=qs):=by rw[HGL.out];exact hqs
   have HQM:(∀p∈qs,p∈ps):=λp hp=>qB (hqs▸hp);rw[hqs]at hsd;have hql:qs.length=n0-i0:=by rw[<-hqs,bT,kG]
   obtain⟨n,hn⟩:=ze (n0-i0);rw[hn]at hql;have HN:(qs.length=n):=hql;have HLQ:(n<=ps.length):=by rw[kG];omega
   have hni:(n0:Int)-(i0:Int)=(n:Int):=zo;obtain⟨cb,zV⟩:=ze (ca-i0);have hci:(ca:Int)-(i0:Int)=(cb:Int):=zo;go_wp2_with fail
   go_loopw [41] (λi wr=>∃k:Nat,k<=n/\i= .int .i64 (k:Int)/\Hid (acc.length+k<many)/\Hid (TW E wr rR G2)/\Hid (px w wr)/\Hid (rH wr go gm aq many (acc++qs.take k))/\Hid (dn wr (some ⟨b2,off,none⟩) (bu qs) 399)) (λi _=>n-(intOf i).toNat)
   case atStart=>exact⟨0,aM _,rfl,ane.1,HW3,HF3,by simp only[re,dH];exact aev,hsd⟩
   case round=>
    obtain⟨k,hk,rfl,HM,HWr,HFr,UC,HTr⟩:=hrel;by_cases pX:k<n
    ·obtain⟨p,hp⟩:∃x,qs[k]?=some x:=⟨_,aF (by rw[HN];exact pX)⟩;have dm:=jB (f:=gQ) (s:=2) (λ_=>rfl) qs k p hp;obtain⟨b3,o3,e3,g0⟩:=HTr.1.dm _ _ (dm 0 zo);have g1:=HTr.1.cell _ _ (dm 1 zo);obtain⟨rfl,rfl⟩:b2=b3/\off=o3:=by injection e3 with e3;injection e3 with e3 e5 _;exact⟨e3,e5⟩
     rw[<-ew]at g1;rw[cI]at g0;have q1:(k:Int)<(n:Int):=zo;have hwk:IntKind.i64.wrap ((k:Int)+1)=(k:Int)+1:=aY _ zo;have aqB:p.key.length<=1000/\p.val.length<=1000:=by have h1:=vy (HQM p (bO hp));have h2:=Pl.yK.root CE;have h3:=h2.1;unfold Pl.tL at h1;omega
     have Ca:qs.take (k+1)=qs.take k++ [p]:=by rw[eK,hp];rfl
     have mW:(acc++qs.take k).length=acc.length+k:=by rw[ax,aP,HN];omega
     obtain⟨g6,w4,Ai,qz,cj,B4⟩:=zE wr 399 [.string (ar p.key),.string (ar p.val)];have ary:=Wf go gm aq many (acc++qs.take k) p w4 (UC.aa cj) hgo (zC UC.lt cj.size) aqB (zD ane.2 HN HLQ) hm;have HF4:=HFr.trans (px.ae cj);have HW4:=HWr.aa cj;have F0:=HTr.aa cj;obtain⟨y0,y1,_,_⟩:=aO B4;go_wp2_with fail;refine ary.mono ?_;rintro e w5 ⟨rfl,QH,FY⟩;have HW5:=FY.tw HW4;have HF5:=HF4.trans (FY.wk h1 h2 fu);have HS5:(rH w5 go gm aq many (acc++qs.take (k+1))):=by
      have h9:acc++qs.take (k+1)=acc++qs.take k++ [p]:=by rw[Ca,cJ]
      rw[h9];exact QH
     have Oh:(dn w5 (some ⟨b2,off,none⟩) (bu qs) 399):=by obtain⟨F,ho,hk,_⟩:=FY;exact F0.only ho hk zj
     rw[mW];by_cases hlt:acc.length+k+1<many
     ·have hd:decide (acc.length+k+1<many)=true:=aQ hlt;rw[hd];have HLT:(acc.length+(k+1)<many):=by show _<_;omega
      go_wp2_with fail;exact⟨⟨k+1,zo,by go_num,HLT,HW5,HF5,HS5,Oh⟩,by simp[intOf];omega⟩
     ·have hd:decide (acc.length+k+1<many)=false:=aH hlt;rw[hd];have HLT:=hlt;go_wp2_with fail;go_ret;have hM:=HM.out;have hlt:=HLT;have hln:=HN;show xH E go gm aq many G acc (Pl.pJ fk ps) w _ _;rw[HGQ];refine⟨G2,rR,?_,HW5,hE2,?_,HF5⟩
      ·have h9:¬(acc++qs).length<many:=by rw[ax];omega
       show _=Ending.returned (.bool (decide ((acc++qs).length<many)));rw[aH h9];rfl
      ·have h8:(acc++qs).take many=acc++qs.take (k+1):=by rw[BP,dx zo,show many-acc.length=k+1 by omega]
       show rH w5 go gm aq many ((acc++qs).take many);rw[h8];exact HS5
    ·obtain rfl:k=n:=zo;have q1:decide ((k:Int)<(k:Int))=false:=aH zo;go_wp2_with fail;go_ret;have hM:=HM.out;have hln:=HN;have h8:acc++qs.take k=acc++qs:=by rw[dx zo]
     have h9:(acc++qs).length<many:=by rw[ax];omega
     show xH E go gm aq many G acc (Pl.pJ fk ps) w _ _;rw[HGQ];refine⟨G2,rR,?_,HWr,hE2,?_,HFr⟩
     ·show _=Ending.returned (.bool (decide ((acc++qs).length<many)));rw[aQ h9];rfl
     ·show rH wr go gm aq many ((acc++qs).take many);rw[dx zo,<-h8];exact UC
 |succ h=>
  obtain⟨tt,XJ⟩:∃x:List Pl.Key×List (Pl.Tr h),x=t:=⟨t,rfl⟩;subst XJ;obtain⟨rs,⟨bi,rfl,hi2⟩,s9,hgk,_⟩:=hP2;have jn:Pl.Fit (h+1) tt:=Pl.yK.root CE;have TR:=jr tt.1;have acu:tt.1.length<=60:=zA jn.2.2.1;obtain⟨N,hN⟩:=ze rs.length;have Dx:(rs.length=N):=hN;have HTL:(tt.2.length=N):=s9.symm.trans hN;have HKL:(tt.1.length+1=N/\tt.1.length<=1000):=⟨by have:=jn.1;have:=HTL;omega,zo⟩;have aud:N<=61:=zA HKL.1;have asR:=Pl.tQ tt.1 fk;have aiC:((tt.2.take (Pl.gY tt.1 fk)).flatMap λc=>Pl.pJ fk (Pl.kh h c))=[]:=by rw[<-Pl.wR];exact Pl.N0 (Pl.Fc fk hs).1
  have HWY:=OQ bi tt.1 rs fk w2 hi2 (Pl.ff.keys hs).1 zo;obtain⟨i0,yW⟩:=ze (Pl.gY tt.1 fk);rw[yW]at HWY asR aiC;have HI0:(i0+1<=N):=zA HKL.1;obtain⟨sfk,aat⟩:=ze (ar fk);rw[aat]at HWY|-
  unfold eG;go_wp2_with fail;refine HWY.mono ?_;rintro e w3 ⟨rfl,bg⟩;have HW3:=hW2.aa bg;have HF3:=HF2.trans (px.ae bg);have aev:=amb.aa bg;have BS3:=BS2.aa bg BS2.lt;have aqH:(iq w3 (eG bi) (.inner tt.1 rs)):=⟨bi,rfl,hi2.aa bg⟩;go_wp2_with fail
  go_loopw [19] (λi wr=>∃(k:Nat) (G':Gh) (cO:Int),i0<=k/\k<=N/\i= .int .i64 (k:Int)/\Hid ((acc++(tt.2.take k).flatMap (gp fk h)).length<many)/\Hid (TW E wr cO G')/\Hid (Ext G2 G')/\Hid (px w3 wr)/\Hid (rH wr go gm aq many (acc++(tt.2.take k).flatMap (gp fk h)))) (λi _=>N-(intOf i).toNat)
  case atStart=>exact⟨i0,G2,rR,ai _,by have:=HI0;omega,rfl,(by rw[Hid,aiC,dH];exact MY.1),HW3,Ext.refl _,px.refl _,by rw[Hid,aiC,dH];exact aev⟩
  case round=>
   obtain⟨k,G',cO,hik,hk,rfl,HM,HWr,HEr,HFr,UC⟩:=hrel;have Mf:=HFr.1.sfr.pg aqH zj;obtain⟨bi',ebi,hir⟩:=Mf;obtain rfl:bi=bi':=by unfold eG at ebi;injection ebi with _ ebi;injection ebi with ebi;injection ebi with ebi;injection ebi
   obtain⟨A,ca,A',vR,dM,_,_,_,PG⟩:=id hir;rw[Dx]at dM;have x1:wr.cell? ⟨bi,1,none⟩=some (.slice A' N vR):=dM.cell 1;by_cases hkN:k<N
   ·obtain⟨rk,JY⟩:∃x,rs[k]?=some x:=⟨_,aF (by rw[Dx];exact hkN)⟩;obtain⟨ck,yt⟩:∃x,tt.2[k]?=some x:=⟨_,aF (by rw[HTL];exact hkN)⟩;have Mn:=jn.2.2.2.2 ck (bO yt);have hcs:=Pl.ff.dm k ck hs yt;have E6:=λW hW=>GD lo hi bi tt.1 rs k W (dZ.aa hir hW) (zA HKL.1) HKL.2;rw[es]at E6;have BSr:=HFr.1.sfr.aC BS3 zj;obtain⟨e0,e1,e2,_,_,_⟩:=iY BSr;obtain⟨bk,ok,rfl,g0⟩:=PG.1.dm _ _ (iX JY);unfold dJ at g0;have q1:(k:Int)<(N:Int):=zo;have hwd:IntKind.i64.wrap ((jt:Int)+1)=(jt:Int)+1:=aY _ zo;have hwk:IntKind.i64.wrap ((k:Int)+1)=(k:Int)+1:=aY _ zo;have Ca:(tt.2.take (k+1)).flatMap (gp fk h)=(tt.2.take k).flatMap (gp fk h)++gp fk h ck:=by rw[eK,yt];simp
    have fj:gp fk (h+1) tt=(tt.2.take (k+1)).flatMap (gp fk h)++(tt.2.drop (k+1)).flatMap (gp fk h):=by rw[<-iH,di];exact Pl.wR fk (Pl.kh h) tt.2
    have afc:(acc++(tt.2.take k).flatMap (gp fk h)).length+(Pl.kh h ck).length<=100000:=by
     have h8:=MY.2;have h9:Pl.kh (h+1) tt=(tt.2.take k).flatMap (Pl.kh h)++(Pl.kh h ck++(tt.2.drop (k+1)).flatMap (Pl.kh h)):=by
      have e:tt.2=tt.2.take k++(ck::tt.2.drop (k+1)):=by obtain⟨hlt,he⟩:=cR.1 yt;rw[<-he,<-fT hlt,di]
      have e2:tt.2.flatMap (Pl.kh h)=(tt.2.take k++(ck::tt.2.drop (k+1))).flatMap (Pl.kh h):=by rw[<-e]
      exact e2.trans (by rw[iH,dR])
     have h7:((tt.2.take k).flatMap (gp fk h)).length<=((tt.2.take k).flatMap (Pl.kh h)).length:=by have e:(tt.2.take k).flatMap (gp fk h)=Pl.pJ fk ((tt.2.take k).flatMap (Pl.kh h)):=(Pl.wR fk (Pl.kh h) _).symm;rw[e];exact List.length_filter_le ..
     rw[h9]at h8;simp only[ax]at h8|-
     omega
    have TZ:(G' rk=some ⟨h,ck⟩):=HEr _ _ (hE2|>λ_=>hgk k rk ck JY yt);obtain⟨P,hP⟩:=ze (acc++(tt.2.take k).flatMap (gp fk h));rw[hP]at HM UC afc;have S0:=TV e0 e1 e2 x1 g0;go_wp2_with fail;obtain⟨Bd,hBd⟩:=ze (decide ((P++gp fk h ck).length<many))
    go_region_held3 (λW:World=>W.cell? ⟨gs,0,none⟩=some (.string sl)/\W.cell? ⟨gs,1,none⟩=some (.string sh)/\W.cell? ⟨gs,2,none⟩=some (.bool bn)/\W.cell? ⟨bi,1,none⟩=some (.slice (some ⟨bk,ok,none⟩) N vR)/\W.cell? ⟨bk,ok+k,none⟩=some (.pointer (some ⟨rk,0,none⟩))) (first|exact S0|exact S1|exact S2) (first
     |(go_at_call 275
       refine(E6 _ ((ak _ _).drew)).mono ?_;rintro e w4 ⟨rfl,Kp⟩;have cj:Below wr.heap.size wr w4:=im Kp;have ib:=cj;have b1:=BSr.aa cj BSr.lt;have b2:=dM.aa cj dM.lt;have b3:=(PG.aa cj).1.cell _ _ (iX JY);have S1:=TV (b1.cell 0) (b1.cell 1) (b1.cell 2) (b2.cell 1) b3;have HIH:(bG 322 #[.pointer (some ⟨E.gT,0,none⟩),.pointer (some ⟨rk,0,none⟩),iR (Pl.DW lo tt.1 k) (Pl.wW hi tt.1 k),.int .i64 ((jt:Int)+1),.string sfk,.func (.func 323) #[] #[.pointer (some ⟨go,0,none⟩),.pointer (some ⟨gm,0,none⟩)]] w4 (xH E go gm aq many G' P (gp fk h ck) w4)):=by have hih:=ih h rfl ck rk (jt+1) _ _ w4 cO G' P (HWr.aa cj) TZ (by rw[aH zo];exact Mn) hcs zo (UC.aa cj) HM afc;rw[aat]at hih;exact hih
       clear cj Kp b1 b2 b3)
     |(go_at_call 322
       refine HIH.mono ?_;rintro e w5 ⟨G5,J7,he5,hW5,hE5,hS5,amc⟩;rw[hBd]at he5;subst he5;have HF5:(px wr w5):=(px.ae ib).trans amc;have HW5:=hW5;have HE5:=hE5;have HS5:=hS5;have b1:=HF5.1.sfr.aC BSr zj;have b2:=HF5.1.sfr.aC dM zj;have b3:=(HF5.1.sfr.eo PG zj).1.cell _ _ (iX JY);have S2:=TV (b1.cell 0) (b1.cell 1) (b1.cell 2) (b2.cell 1) b3;clear hW5 hE5 hS5 amc b1 b2 b3)
     |fail)
    have hP9:P++gp fk h ck=acc++(tt.2.take (k+1)).flatMap (gp fk h):=by rw[Ca,<-cJ,hP]
    cases Bd;rotate_left
    ·have HLT:=jd hBd;go_wp2_with fail;refine⟨⟨k+1,G5,J7,zo,zo,by go_num,?_,HW5,HEr.trans HE5,HFr.trans HF5,?_⟩,by simp[intOf];omega⟩
     ·show _<_;rw[<-hP9];exact HLT
     ·have h8:=HS5;rw[dx (iG HLT),hP9]at h8;exact h8
    ·have HLT:=of_decide_eq_false hBd;go_wp2_with fail;go_ret;have hlt:=HLT;have h8:acc++gp fk (h+1) tt=(P++gp fk h ck)++(tt.2.drop (k+1)).flatMap (gp fk h):=by rw[hP9,fj,cJ]
     refine⟨G5,J7,?_,HW5,hE2.trans (HEr.trans HE5),?_,HF3.trans (HFr.trans HF5)⟩
     ·rw[h8,aH (by rw[ax];omega)];rfl
     ·rw[h8,ua zo];exact HS5
   ·obtain rfl:k=N:=zo;have q1:decide ((k:Int)<(k:Int))=false:=aH zo;go_wp2_with fail;go_ret;have hM:=HM.out;have h8:acc++(tt.2.take k).flatMap (gp fk h)=acc++gp fk (h+1) tt:=by rw[dx (by rw[HTL];omega)];exact congrArg (acc++·) (Pl.wR fk (Pl.kh h) tt.2).symm
    rw[h8]at hM;refine⟨G',cO,?_,HWr,hE2.trans HEr,?_,HF3.trans HFr⟩
    ·rw[aQ hM];rfl
    ·rw[dx (iG hM),<-h8];exact UC
theorem LW(E:fe)(go gm aq many:Nat)(fk:Pl.Key)(hn:E.m.n<=4096)(hl:E.d.aW≠0)(hgo:aq<=go)(h1:1<aq)(h2:0<aq)(fu:LO<=aq)(hm:many<=100000):∀h,aen E go gm aq many fk h
 |0=>IY E go gm aq many fk hn hl hgo h1 h2 fu hm 0 zu
 |h+1=>IY E go gm aq many fk hn hl hgo h1 h2 fu hm (h+1) (λh' e=>by
  obtain rfl:h=h':=zo;exact LW E go gm aq many fk hn hl hgo h1 h2 fu hm h)
theorem Xo(gt gf go gm aq many:Nat)(fk:Pl.Key)(Af:Option Addr)(cf:Nat)(hn:E.m.n<=4096)(hl:E.d.aW≠0)(hgo:aq<=go)(h1:1<aq)(h2:0<aq)(fu:LO<=aq)(hm:many<=100000)(PH:0<many)(h:Nat)(t:Pl.Tr h)(w:World)(rd:Int)(G:Gh)(hw:TW E w rd G)(hG:G E.m.root=some ⟨h,t⟩)(gP:Pl.ix ⟨h,t⟩)(hh:h<=62)(yR:pz w)
 (vS:(Pl.kh h t).length<=100000) (ht:ay w gt 140 [.pointer (some ⟨E.gT,0,none⟩)]) (hf:ay w gf 29 [.slice Af fk.length cf]) (G0:aw w Af fk) (IQ:rH w go gm aq many []):
 bG 321 #[.pointer (some ⟨gm,0,none⟩),.pointer (some ⟨gt,0,none⟩),.pointer (some ⟨gf,0,none⟩),.pointer (some ⟨go,0,none⟩)] w λe w'=>e= .returned (.tuple #[])/\acQ E go gm aq many G (gp fk h t) w w':=by
 obtain⟨hrf,hsp⟩:=gP;obtain⟨root,Aq⟩:=ze E.m.root;have c3:w.cell? ⟨E.gT,3,none⟩=some (.pointer (some ⟨root,0,none⟩)):=Aq▸hw.tree.cell 3;rw[Aq]at hG;obtain⟨v0,v1,v2⟩:=yR;have c0:w.cell? ⟨gt,0,none⟩=some (.pointer (some ⟨E.gT,0,none⟩)):=ht.cell 0;have d0:w.cell? ⟨gf,0,none⟩=some (.slice Af fk.length cf):=hf.cell 0;have m0:w.cell? ⟨gm,0,none⟩=some (.int .i64 (many:Nat)):=IQ.many.cell 0;have hmn:((many:Int)==0)=false:=b9.2 zo;have cv:∀W,aw W Af fk->(convert 29 9 (.slice Af fk.length cf)).run Tryz.prog W= .ok (.string (ar fk)) W:=λW hW=>dQ W Af fk cf hW;have JJ:=zf Tryz.prog;have HWK:(∀W,Below w.heap.size w W->bG 322 #[.pointer (some ⟨E.gT,0,none⟩),dJ root,iR [] none,.int .i64 ((0:Nat):Int),.string (ar fk),YD go gm] W (xH E go gm aq many G [] (gp fk h t) W)):=λW hW=>
  LW E go gm aq many fk hn hl hgo h1 h2 fu hm h t root 0 [] none W rd G [] (hw.aa hW) hG hrf hsp zo (IQ.aa hW) PH (by simpa using vS)
 have HEV:(pz w):=⟨v0,v1,v2⟩;have XF:(E.m.root=root):=Aq;unfold dJ YD iR at HWK;obtain⟨sfk,aat⟩:=ze (ar fk);rw[aat]at HWK cv;go_enter Tryz.func321,Tryz.ntmps321;go_wp2_with fail;have C0:(w.cell? ⟨E.gT,3,none⟩=some (.pointer (some ⟨root,0,none⟩))/\w.cell? ⟨1,0,none⟩=some (.string (ar []))/\w.cell? ⟨1,1,none⟩=some (.string (ar []))/\w.cell? ⟨1,2,none⟩=some (.bool true)/\w.cell? ⟨gf,0,none⟩=some (.slice Af fk.length cf)/\aw w.drew Af fk):=⟨c3,HEV.1,HEV.2.1,HEV.2.2,d0,G0.bQ ((ak w.heap.size w).drew)⟩;have D0:(w.cell? ⟨gt,0,none⟩=some (.pointer (some ⟨E.gT,0,none⟩))):=c0;refine aN 9 (λW=>W.cell? ⟨E.gT,3,none⟩=some (.pointer (some ⟨root,0,none⟩))/\W.cell? ⟨1,0,none⟩=some (.string (ar []))/\W.cell? ⟨1,1,none⟩=some (.string (ar []))/\W.cell? ⟨1,2,none⟩=some (.bool true)/\W.cell? ⟨gf,0,none⟩=some (.slice Af fk.length cf)/\aw W Af fk) (λW=>W.cell? ⟨gt,0,none⟩=some (.pointer (some ⟨E.gT,0,none⟩))) zp C0 D0 (λaz=>?_);refine zt 0 (h:=zt 1 (h:=zt 2 (h:=zt 3 (h:=zl 4 (h:=zl 5 (h:=zm 7 6 (h:=?_)))))));(try simp only[Act.put,zq1,zq2,zP,zq4,zq5,RR]);refine Hg (i:=7) (oi:=_) (v:=?_) rfl zp zp zp zp (λ_ _ _ h=>h) (.inl ⟨by rfl,?_⟩) (by assumption) ?_;rotate_left
 ·intro W lR;have hcw:=cv W lR.1.2.2.2.2.2;go_simp;(try rfl)
 refine zt 8 (h:=?_);refine zr 9 λK hK=>?_;go_simp;refine(HWK _ ((ak _ _).drew)).mono ?_;rintro e w5 ⟨G5,J7,rfl,hW5,hE5,hS5,hF5⟩;have HR:=sS hW5 hE5 hS5 hF5;have D1:(w5.cell? ⟨gt,0,none⟩=some (.pointer (some ⟨E.gT,0,none⟩))):=(hF5.1.sfr.aC (ht.aa ((ak _ _).drew) ht.lt) zj).cell 0;go_wp2_with fail;refine hK.out _ _ ⟨zk zp,D1⟩ (λaz=>?_);(try simp only[Act.put,zq1,zq2,zP,zq4,zq5,RR]);refine bh zp ?_ _;go_wp2_with fail;obtain⟨hW5,hE5,hS5,hF5⟩:=id HR;go_end0;exact⟨rfl,G5,J7,hW5,hE5,hS5,(px.ae ((ak _ _).drew)).trans hF5⟩
theorem WE(Af:Option Addr)(cf:Nat)(hn:E.m.n<=4096)(hl:E.d.aW≠0)(jO:E.m.bad=false)(hm:many<=100000)(PH:0<many)(h:Nat)(t:Pl.Tr h)(w:World)(rd:Int)(G:Gh)(hw:TW E w rd G)(hG:G E.m.root=some ⟨h,t⟩)(gP:Pl.ix ⟨h,t⟩)(hh:h<=62)(yR:pz w)(Ze:GE w)
 (vS:(Pl.kh h t).length<=100000) (G0:aw w Af fk):
 bG 312 #[.pointer (some ⟨E.gT,0,none⟩),.slice Af fk.length cf,.int .i64 (many:Nat)] w λe w'=>∃v go,e= .returned (.tuple #[v,.nilIface])/\ay w' go 286 [v]/\ScQ E w.heap.size many G (gp fk h t) v w w':=by
 obtain⟨gt,w1,Ub,dj,aI,B1⟩:=zE w 140 [.pointer (some ⟨E.gT,0,none⟩)];obtain⟨gf,w2,hgf,iA,bz,B2⟩:=zE w1 29 [.slice Af fk.length cf];obtain⟨gm,w3,hgm,fX,bg,B3⟩:=zE w2 3 [.int .i64 (many:Nat)];obtain⟨go,w4,hgo,qz,cj,B4⟩:=zE w3 286 [.slice none 0 0];have eC:=aI.trans (bz.mono aI.size);have jv:=eC.trans (bg.mono eC.size);have mN:=jv.trans (cj.mono jv.size);have Jb:=bg.trans (cj.mono bg.size);have adq:=bz.trans (Jb.mono bz.size);have agN:w.heap.size<=go:=by rw[<-hgo];exact jv.size
 have BT4:=B1.aa adq B1.lt;have BF4:=B2.aa Jb B2.lt;have BM4:=B3.aa cj B3.lt;obtain⟨PS,hPS⟩:=ze (gp fk h t);have XI:(bG 202 #[.pointer (some ⟨E.gT,0,none⟩),.func (.func 321) #[] #[.pointer (some ⟨gm,0,none⟩),.pointer (some ⟨gt,0,none⟩),.pointer (some ⟨gf,0,none⟩),.pointer (some ⟨go,0,none⟩)]] w4 λe w'=>e= .returned .nilIface/\∃v,ay w' go 286 [v]/\ScQ E w.heap.size many G PS v w w'):=by
  have alh:=hw.aa mN;obtain⟨W1,tC,ja⟩:=zF w4 (.cells #[.nilIface] 73);have he:ay W1 w4.heap.size 73 [.nilIface]:=by rw[<-tC];exact ay.new w4 73 _
  have abY:=mN.trans (ja.mono mN.size);have hp:=Xo E gt gf go gm w.heap.size many fk Af cf hn hl agN (ahI yR) (aio Ze) hw.aq hm PH h t W1 rd G (alh.aa ja) hG gP hh (yR.Ir (iu.ae abY)) vS (BT4.aa ja BT4.lt) (BF4.aa ja BF4.lt) (G0.bQ abY) ⟨⟨_,B4.aa ja B4.lt,xy.nil _ _⟩,BM4.aa ja BM4.lt⟩;rw[hPS]at hp
  have hd:=Ow E.gT E.m 321 #[.pointer (some ⟨gm,0,none⟩),.pointer (some ⟨gt,0,none⟩),.pointer (some ⟨gf,0,none⟩),.pointer (some ⟨go,0,none⟩)] w4 alh.tree jO (λk w'=>k=0/\ay w' w4.heap.size 73 [.nilIface]/\acQ E go gm w.heap.size many G PS W1 w') (Pb _)
   (λk w' hq=>by
     obtain⟨_,_,G',cO,h1,_⟩:=hq;obtain⟨m,hm',h2⟩:∃m:Tm,m.bad=false/\ny w' E.gT m:=⟨E.m,jO,h1.tree⟩;obtain⟨m0,m1,m2,m3,m4,m5,m6,m7⟩:=m;dsimp only at hm';subst hm';exact⟨_,_,_,_,_,_,_,h2⟩)
   (by
     rw[tC];exact hp.mono λe w' hc=>by
      obtain⟨rfl,hq⟩:=hc;have MF:=hq;obtain⟨G',cO,k1,k2,k3,k4⟩:=MF;have jM:=k4.1.aC he zj id;exact⟨jM,0,.inl ⟨rfl,rfl⟩,rfl,jM,hq⟩)
  refine hd.mono ?_;rintro e sL ⟨k,w',⟨rfl,jM,G',cO,k1,k2,k3,k4⟩,rfl,ho,hx⟩;have yX:bR (λb=>b=w4.heap.size\/b=E.gT) w' [73,242]:=by
   rintro b (rfl|rfl)
   ·exact⟨_,zu,jM.dV⟩
   ·exact⟨_,zu,k1.tree.dV⟩
  have XJ:ny sL E.gT E.m:=by have:=hx _ _ _ _ _ _ _ _ k1.tree;rwa [show((0:Nat)==3)=false from rfl,<-jO]at this
  have k3':=k3.only ho yX zj zj zj zj;obtain⟨v,o1,o2⟩:=k3'.out;have hS:lW Sb noB w w':=(lW.ae abY).trans (k4.1.mono (by simp[wkT,Sb]) (λ_ h=>h));have hU:uh w w':=(px.ae abY).2.1.trans k4.2.1;have hGk:Gk w w':=(px.ae abY).2.2.trans k4.2.2;have asB:LO<=w4.heap.size:=alh.aq;refine⟨rfl,v,o1,G',cO,k1.do ho yX XJ,k2,o2,?_,?_,?_⟩
  ·exact hS.since ho (λx hx hf=>by
    rcases hf with e|e
    ·exact absurd e (zA mN.size)
    ·exact⟨242,e▸hw.tree.dV,by simp[Sb]⟩)
  ·exact hU.trans (λr a v hr=>⟨v,ho.cY yX hr zj,.inl rfl⟩)
  ·refine hGk.trans ⟨λx=>?_,λx=>?_,ho.mono (λb _ hb=>by rcases hb with e|e;exact e▸ .inl asB;exact e▸hw.low.t)⟩
   ·have n1:=anZ x k1.tree;have n2:1≠w4.heap.size:=Nat.ne_of_lt (aK (ahI yR) mN.size);have n3:¬(1=w4.heap.size\/1=E.gT):=λe=>e.elim n2 n1;exact⟨ho.cell x.1 n3,ho.cell x.2.1 n3,ho.cell x.2.2 n3⟩
   ·have n1:=amJ x k1.tree;have n2:0≠w4.heap.size:=Nat.ne_of_lt (aK (aio Ze) mN.size);exact ho.cell x (λe=>e.elim n2 n1)
 have JJ:=zf Tryz.prog;have q1:¬((many:Int)<0):=zo;rw[hPS];have d0:w4.cell? ⟨gt,0,none⟩=some (.pointer (some ⟨E.gT,0,none⟩)):=BT4.cell 0;have d1:w3.cell? ⟨gm,0,none⟩=some (.int .i64 (many:Nat)):=B3.cell 0;go_enter Tryz.func312,Tryz.ntmps312;go_wp2_with fail;refine XI.mono ?_;rintro e w' ⟨rfl,v,o1,hq⟩;have hv:w'.cell? ⟨go,0,none⟩=some v:=o1.cell 0;go_wp2_with fail;go_ret2;exact⟨v,go,rfl,o1,hq⟩
theorem dn.jL{F:Nat->Prop}{A:Option Addr}{cs:List Value}{t:TypeId}(h:dn w A cs t)(ho:ag F w w')(hn:∀p,A=some p->¬F p.block):dn w' A cs t:=
 ⟨ho.src h.1 hn,λp hp=>by
   obtain⟨GV,fz,h2⟩:=h.2 p hp;exact⟨GV,fz,(ho.block _ zw zw).trans h2⟩⟩
structure Ctx(w:World):Prop where
 ev:pz w
 ge:GE w
 gl1:¬Zn 1
 gl2:¬Zn 0
 lo:LO<=w.heap.size
abbrev Gl(w w':World):Prop:=ag Zn w w'
theorem Ctx.gl(h:Ctx w)(k:Gl w w'):Ctx w':=by obtain⟨⟨e1,e2,e3⟩,h2,h3,h4,h5⟩:=h;exact⟨⟨k.cell e1 h3,k.cell e2 h3,k.cell e3 h3⟩,k.cell h2 h4,h3,h4,ao h5 k.size⟩
theorem Ctx.aa(h:Ctx w)(k:dP w w'):Ctx w':=h.gl (ag.ae k _)
structure iM where
 T:TypeId
 rv:Value
 rc:Value
 aan:FuncId
 Nf:FuncId
 alG:FuncId
 Mt:FuncId
 bs:Nat->Prop
 ts:List TypeId
 u8:Prop
 At:List Pl.Pr->World->Prop
def iM.v(S:iM):Value:= .iface S.T S.rv
def SF(S:iM)(w w':World):Prop:=lW Sb S.bs w w'/\Gl w w'/\lW S.ts S.bs w w'
theorem SF.trans{S:iM}{a b c:World}(h:SF S a b)(k:SF S b c):SF S a c:=⟨h.1.trans k.1,h.2.1.aE k.2.1,h.2.2.trans k.2.2⟩
theorem SF.ae{S:iM}{w w':World}(h:dP w w'):SF S w w':=⟨.ae h,ag.ae h _,.ae h⟩
theorem SF.refl{S:iM}(w:World):SF S w w:= .ae (ak _ _)
def ajw:Value:= .slice none 0 0
def akp(S:iM)(ps:List Pl.Pr)(key:Pl.Key)(w:World)(e:Ending)(w':World):Prop:=
 SF S w w'/\S.At ps w'/\((∃l A aB,Pl.dI key ps=some l/\e= .returned (.tuple #[.slice A l.length aB,.nilIface])/\l.length<=aB/\dn w' A (bv l) 5/\∀q,A=some q->w.heap.size<=q.block)\/
  (Pl.dI key ps=none/\e= .returned (.tuple #[ajw,.iface 30 (.int .i64 8)])))
def UI(S:iM)(ps':List Pl.Pr)(w:World)(e:Ending)(w':World):Prop:=
 SF S w w'/\S.At ps' w'/\e= .returned .nilIface
def afk(S:iM)(ps:List Pl.Pr)(from_:Pl.Key)(w:World)(e:Ending)(w':World):Prop:=
 SF S w w'/\S.At ps w'/\∃v,e= .returned (.tuple #[v,.nilIface])/\xy w' w.heap.size v ((Pl.pJ from_ ps).take 16)
def vM:List TypeId:=[242,265,108,190]++er
structure eP(S:iM)(aA:Nat):Prop where
 aeP:∀w,(Go.method 570 S.T S.rv "Get").run Tryz.prog w= .ok (S.aan,S.rc) w
 adL:∀w,(Go.method 570 S.T S.rv "Put").run Tryz.prog w= .ok (S.Nf,S.rc) w
 ads:∀(a:Array Value) (w:World),(callFunc S.aan a).run Tryz.prog w= .ok (.enter S.aan a) w
 acS:∀(a:Array Value) (w:World),(callFunc S.Nf a).run Tryz.prog w= .ok (.enter S.Nf a) w
 uo:∀{ps w},S.At ps w->Pl.qu ps
 fit:∀{ps w},S.At ps w->∀p∈ps,Pl.la p
 len:∀{ps w},S.At ps w->ps.length<=aA
 bsT:∀{ps w k t},S.At ps w->S.bs k->¬jh w k t
 bQ:∀{ps w w'} {F:Nat->Prop} {ts:List TypeId},S.At ps w->ag F w w'->kM F w ts->(∀t∈vM,t∉ts)->(S.u8->5∉ts)->(∀k,S.bs k->¬F k)->S.At ps w'
 get:∀(ps:List Pl.Pr) (key:Pl.Key) (A:Option Addr) (n ca:Nat) (w:World),S.At ps w->Ctx w->Pl.ey key->key.length=n->aw w A key->
  bG S.aan #[S.rc,.slice A n ca] w (akp S ps key w)
 put:∀(ps:List Pl.Pr) (key v:Pl.Key) (A B:Option Addr) (n m ca cb:Nat) (w:World),S.At ps w->Ctx w->Pl.ey key->v.length<=100->key.length=n->v.length=m->ps.length<aA->aw w A key->aw w B v->
  bG S.Nf #[S.rc,.slice A n ca,.slice B m cb] w (UI S (Pl.dN key v ps) w)
structure YZ(S:iM)(ps:List Pl.Pr):Prop where
 aeQ:∀w,(Go.method 570 S.T S.rv "Scan").run Tryz.prog w= .ok (S.Mt,S.rc) w
 abr:∀(a:Array Value) (w:World),(callFunc S.Mt a).run Tryz.prog w= .ok (.enter S.Mt a) w
 scan:∀(from_:Pl.Key) (A:Option Addr) (n ca:Nat) (w:World),S.At ps w->Ctx w->from_.length=n->n<=100->aw w A from_->
  bG S.Mt #[S.rc,.slice A n ca,.int .i64 16] w (afk S ps from_ w)
theorem eP.aa{S:iM}{aA:Nat}(hS:eP S aA){ps:List Pl.Pr}(h:S.At ps w)(hb:dP w w'):S.At ps w':=
 hS.bQ (F:=λ_=>False) (ts:=[]) h (ag.ae hb _) (λ_ _ _ _ h=>h) zu zu zu
theorem SF.aC{S:iM}{aA:Nat}(hS:eP S aA){ps:List Pl.Pr}{w w':World}(h:SF S w w')(hA:S.At ps w){k:Nat}{t:TypeId}{cs:List Value}(hb:ay w k t cs)(ht:t∉Sb):ay w' k t cs:=
 h.1.aC hb ht (λhk=>hS.bsT hA hk hb.dV)
theorem SF.eo{S:iM}{aA:Nat}(hS:eP S aA){ps:List Pl.Pr}{w w':World}(h:SF S w w')(hA:S.At ps w){A:Option Addr}{cs:List Value}{t:TypeId}(hp:dn w A cs t)(ht:t∉Sb):dn w' A cs t:=
 h.1.eo hp ht (λp hp' hk=>hS.bsT hA hk (hp.2 p hp'))
theorem PN{d1 d2:Pl.Dk}{first n seq:Nat}{l:List Pl.Ch}(hl:DF first js l)(h1:d.run (l++ [.sy])=(d1,true))(hO:Pl.yJ (λj=>d1.look (first+j)) n h s t)
 (h2:d1.run [.wr (first+(seq+1)%2) (jI (seq+1) (Pl.top h s) (Pl.fc n (Pl.fg h s))),.sy]=(d2,true)) (hold:∀x,d.look (first+seq%2)=some x->x.headD 0=84->Pl.num ((x.drop 1).take 8)<seq+1) (hq:seq+1<18446744073709551616) (hf:first+n<=d.aV.length) (hn:2<=n):
 BQ d2 first n (seq+1) (Pl.top h s) (Pl.fc n (Pl.fg h s))/\Pl.yJ (λj=>d2.look (first+j)) n h s t/\d2.aV.length=d.aV.length:=by
 have bU:d1.aV.length=d.aV.length:=by have:=XB (l++ [.sy]) d;grind
 obtain⟨tx,htx⟩:∃x,jI (seq+1) (Pl.top h s) (Pl.fc n (Pl.fg h s))=x:=by simp
 rw[htx,Pl.Dk.iW]at h2;by_cases ha:d1.alive=true
 ·rw[ah ha,Pl.Dk.iW]at h2;by_cases hb:(d1.change (.wr (first+(seq+1)%2) tx)).alive=true
  ·rw[ah hb,Pl.Dk.qb]at h2;injection h2 with h2 _;have lk:∀j,j≠(seq+1)%2->d2.look (first+j)=d1.look (first+j):=λj hj=>by rw[<-h2,mX,ri _ _ _ _ zo]
   have J6:=hO.bounds;refine⟨⟨?_,λx hx=>?_,zo,hq,J6.1,J6.2,Pl.WV (Pl.Oe h s) J6.2,Pl.Mo _ _⟩,hO.congr _ _ _ (λj hj=>lk j (zA ((hO.all _ _ _ j hj).1))),by rw[<-h2,ea,ea,bU]⟩
   ·rw[<-h2,mX,vh ha zo,ah rfl,<-htx];rfl
   ·have e:(seq+1+1)%2=seq%2:=zo;rw[e,lk _ zo,DF.look hl.sy h1 (seq%2) zo]at hx
    grind
  grind
 grind
def YV(gT g first n:Nat)(vD:Value)(d:Pl.Dk)(seq p r h:Nat)(s:Pl.ST h):fe:=⟨gT,⟨g,first,n,r,some r,seq,p,false⟩,vD,d,Pl.fg h s⟩
theorem CJ.env{gT g first n:Nat}{vD:Value}{rd:Int}{seq a p r:Nat}(hp:CJ gT g first n vD d rd seq a p r w w')(hO:Pl.yJ (λj=>d.look (first+j)) n h s t)(ha:Pl.top h s=a)(QC:p=Pl.fc n (Pl.fg h s))(gP:Pl.ix ⟨h,t⟩)(hh:h<=62)(hf:first+n<=d.aV.length)(fu:LO<=w.heap.size)(J0:∀k,dF g vD k->Zn k):
 ∃cO,tF 2 rd cO/\TW (YV gT g first n vD d seq p r h s) w' cO (aal r h t)/\aal r h t r=some ⟨h,t⟩/\yo w' h t r 0/\yh (YV gT g first n vD d seq p r h s) w' (aal r h t) (Pl.fg h s):=by
 obtain⟨h1,h2,h3,h4,⟨cO,h5,h6⟩,h7⟩:=hp;rw[<-ha]at h4;have hG:aal r h t r=some ⟨h,t⟩:=ah rfl;refine⟨cO,h6,⟨h3,h5,λk h' t' hk=>?_,hf,⟨λk x hk=>?_,J0,.inl (ao fu h1)⟩,ao fu (ao h1 (iG h3.lt))⟩,hG,?_,.inr ⟨r,h,t,s,.nilIface,rfl,hG,gP,hh,h4,hO,rfl,QC⟩⟩
 ·unfold aal at hk;by_cases e:k=r
  ·rw[ah e]at hk;injection hk with hk;injection hk with e1 e2;subst e1;obtain rfl:=qQ e2;subst e;exact .inr ⟨s,.nilIface,h4,hO,λj hj=>hj,.inl rfl⟩
  grind
 ·unfold aal at hk;by_cases e:k=r
  ·rw[e];exact .inl (ao fu h2)
  grind
 ·have hb:=hO.bounds;cases h with
  |zero=>exact⟨_,_,h4,.inl ⟨zo,rfl⟩⟩
  |succ h=>exact⟨_,_,h4,.inl ⟨zo,rfl⟩⟩
theorem yh.refs{E:fe}{G G':Gh}(h:yh E w G js)(hG:Ext G G')(hr:∀r a v,cX w r a v->∃v',cX w' r a v'/\(v'=v\/v= .nilIface))(r:Nat):yh (E.to r) w' G' js:=by
 rcases h with h|⟨rs,hs,ts,ss,v,h1,h2,h3,h4,h5,h6,h7,h8⟩
 ·exact .inl h
 ·obtain⟨v',h9,_⟩:=hr _ _ _ h5;exact .inr ⟨rs,hs,ts,ss,v',h1,hG _ _ h2,h3,h4,h9,h6,h7,h8⟩
end Go.Proofs.YtbhpofdafhahgaaGreatDoor
namespace Go.Proofs.YtbhpofdafhahgaaGreatDoor
namespace Pl
variable {ps:List Pr}
theorem RJ(hs:qu ps){p:Pr}(hp:p∈ps):dI p.key ps=some p.val:=by
 obtain⟨A,B,rfl⟩:=List.append_of_mem hp;have h1:=fS.1 hs;have hA:∀q∈A,q.key<p.key:=zS;have EO:aR (A++p::B) p.key=A.length:=by rw[qI hA];unfold aR;simp
 unfold dI
 grind
theorem Io{k v:Key}(h:dI k ps=some v):(⟨k,v⟩:Pr)∈ps:=by
 unfold dI at h;cases hp:ps[aR ps k]? with
 |none=>grind
 |some p=>
  rw[hp]at h;dsimp only at h;by_cases he:p.key=k
  ·rw[ah he]at h;injection h with h;subst he h;exact bO hp
  grind
theorem ix.small{x:Any}(h:ix x){n:Nat}(hn:x.kh.length<=n)(h1:1<=n):GI x.1 x.2<=2*n/\2^x.1<=n:=by
 obtain⟨k,t⟩:=x;cases k with
 |zero=>exact⟨by show 1<=_;omega,zw⟩
 |succ k=>
  have hf:Fit (k+1) t:=h.1;have h2:=Fit.ej _ _ hf;have h3:=Fit.many _ _ hf;have h4:(kh (k+1) t).length<=n:=hn
  grind
end Pl
open Go.RowKit
variable (c n k:Int) (w:World)
def ko:Int:=(if c<0 then-(c+1)else c)%n
theorem EK(hc: -9223372036854775808<=c/\c<=9223372036854775807)(hn:1<=n/\n<=1000000):
 bG 10 #[.int .i64 c,.int .i64 n] w λe w'=>e= .returned (.int .i64 (ko c n))/\w=w':=by
 unfold ko;by_cases h:c<0
 ·rw[ah h];have hm:(-(c+1)).tmod n=(-(c+1))%n:=oz zo;go_enter Tryz.func10,Tryz.ntmps10;go_wp2_with fail;go_ret;exact⟨rfl,rfl⟩
 ·rw[aj h];have hm:c.tmod n=c%n:=oz zo;go_enter Tryz.func10,Tryz.ntmps10;go_wp2_with fail;go_ret;exact⟨rfl,rfl⟩
theorem tR:
 bG 12 #[Az k ⟨#[]⟩] w λe w'=>e= .returned (.bool (k==0))/\dP w w':=by
 have q:=C8;unfold Az;go_enter Tryz.func12,Tryz.ntmps12;go_wp2_with fail;go_ret;refine⟨?_,za _ _⟩;simp
theorem BW:
 bG 45 #[Az k ⟨#[]⟩] w λe w'=>e= .returned (.bool (k==3))/\dP w w':=by
 have q:=C8;unfold Az;go_enter Tryz.func45,Tryz.ntmps45;go_wp2_with fail;go_ret;refine⟨?_,za _ _⟩;simp
end Go.Proofs.YtbhpofdafhahgaaGreatDoor
namespace Go.Proofs.YtbhpofdafhahgaaGreatDoor
open Go.RowKit
variable [Inhabited eH]
namespace Pl
end Pl
namespace Pl
end Pl
end Go.Proofs.YtbhpofdafhahgaaGreatDoor
namespace Go.Proofs.YtbhpofdafhahgaaGreatDoor
namespace Pl
end Pl
end Go.Proofs.YtbhpofdafhahgaaGreatDoor
namespace Go.Proofs.YtbhpofdafhahgaaGreatDoor
open Go.RowKit
variable [Inhabited eH]
end Go.Proofs.YtbhpofdafhahgaaGreatDoor
namespace Go.Proofs.YtbhpofdafhahgaaGreatDoor
namespace Pl
end Pl
namespace Pl
end Pl
end Go.Proofs.YtbhpofdafhahgaaGreatDoor
namespace Go.Proofs.YtbhpofdafhahgaaGreatDoor
variable [Inhabited eH]
namespace Pl
theorem Qb{h n:Nat}(h1:2^h<=n)(hn:n<=10000):h<=13:=by
 rcases eJ h 14 with h2|h2
 ·omega
 ·have:=jG (show 0<2 by omega) h2;omega
end Pl
open Go.RowKit
variable {l:List Pl.Pr}
variable (v:Value) (w:World) (E:fe) (js:List Nat) (ms:List (Nat×List Pl.Pr)) (aA:Nat)
theorem Pl.XY:∀(h:Nat) (t:Pl.Tr h),Pl.Fit h t->∀p∈Pl.kh h t,Pl.la p
 |0,_,hf=>hf.2.2
 |h+1,n,hf=>λp hp=>by obtain⟨t,ht,hp⟩:=lQ.1 hp;exact Pl.XY h t (hf.2.2.2.2 t ht) p hp
theorem Pl.afj:∀(h:Nat) (t:Pl.Tr h),Pl.sW h t->∀p∈Pl.kh h t,Pl.la p
 |0,_,hf=>hf.2
 |h+1,n,hf=>Pl.XY (h+1) n hf
def lZ(G:Gh)(w:World)(aA r:Nat)(l:List Pl.Pr):Prop:=
 ∃(x:Pl.Any) (fr:Nat),G r=some x/\Pl.ix x/\x.kh=l/\yo w x.1 x.2 r fr/\fr+E.m.ej+2<=E.m.n/\l.length<=aA
structure TOk(E:fe)(aA:Nat):Prop where
 n:E.m.n<=4096
 aW:E.d.aW≠0
 bad:E.m.bad=false
 fits:2*aA+E.m.ej+2<=E.m.n
 one:1<=aA
structure TAt(E:fe)(js:List Nat)(ms:List (Nat×List Pl.Pr))(aA:Nat)(ps:List Pl.Pr)(w:World)(rd:Int)(G:Gh)(r:Nat):Prop where
 ok:TOk E aA
 tw:TW (E.to r) w rd G
 root:lZ E G w aA r ps
 marks:∀m∈ms,lZ E G w aA m.1 m.2
 saved:yh (E.to r) w G js
def sO(ps:List Pl.Pr)(w:World):Prop:=∃rd G r,TAt E js ms aA ps w rd G r
theorem lZ.mv{E:fe}{G G':Gh}{w w':World}{aA r:Nat}(h:lZ E G w aA r l)(hG:Ext G G')(hp:∀v pg,iq w v pg->iq w' v pg)(hr:uh w w'):lZ E G' w' aA r l:=by obtain⟨x,fr,h1,h2,h3,h4,h5⟩:=h;exact⟨x,fr,hG _ _ h1,h2,h3,yo.u hp hr _ _ _ _ h4,h5⟩
theorem TAt.mv{E:fe}{js:List Nat}{ms:List (Nat×List Pl.Pr)}{aA:Nat}{ps:List Pl.Pr}{w w':World}{rd cO:Int}{G G':Gh}{r:Nat}(h:TAt E js ms aA ps w rd G r)(hw:TW (E.to r) w' cO G')(hG:Ext G G')(hp:∀v pg,iq w v pg->iq w' v pg)(hr:uh w w'):TAt E js ms aA ps w' cO G' r:=
 ⟨h.ok,hw,h.root.mv hG hp hr,λm hm=>(h.marks m hm).mv hG hp hr,h.saved.refs hG hr r⟩
theorem lZ.hh{E:fe}{G:Gh}{w:World}{aA r:Nat}{l:List Pl.Pr}(x:Pl.Any)(hx:Pl.ix x)(hl:x.kh.length<=aA)(ho:TOk E aA):x.1<=13/\Pl.GI x.1 x.2<=2*aA:=by have:=Pl.ix.small hx hl ho.one;have h1:=ho.fits;have h2:=ho.n;exact⟨Pl.Qb this.2 zo,this.1⟩
theorem F5.TY{gT:Nat}{bs:Nat->Prop}{w w':World}(h:F5 gT w w'):lW Sb bs w w':=by obtain⟨F,h1,h2⟩:=h.only;exact(lW.lJ h1 h2).mono (by simp[Sb]) (λ_ h=>h)
theorem F5.pg{gT:Nat}{w w':World}(h:F5 gT w w'):∀v pg,iq w v pg->iq w' v pg:=λv pg hp=>by obtain⟨F,o1,o2⟩:=h.only;exact hp.only o1 o2 zj
def Db:iM where
 T:=140
 rv:= .pointer (some ⟨E.gT,0,none⟩)
 rc:= .pointer (some ⟨E.gT,0,none⟩)
 aan:=310
 Nf:=311
 alG:=309
 Mt:=312
 bs:=noB
 ts:=Sb
 u8:=False
 At:=sO E js ms aA
theorem Tryz.U1:(Go.method 570 140 v "Get").run Tryz.prog w= .ok (310,v) w:=zp
theorem Tryz.Xi:(Go.method 570 140 v "Put").run Tryz.prog w= .ok (311,v) w:=zp
theorem Tryz.QW:(Go.method 570 140 v "Scan").run Tryz.prog w= .ok (312,v) w:=zp
section
variable {E:fe} {js:List Nat} {ms:List (Nat×List Pl.Pr)} {aA:Nat} {ps:List Pl.Pr} {w:World}
theorem sO.uo(h:sO E js ms aA ps w):Pl.qu ps:=by obtain⟨rd,G,r,h⟩:=h;obtain⟨x,fr,h1,h2,h3,_⟩:=h.root;rw[<-h3];exact h2.uo
theorem sO.get(key:Pl.Key)(A:Option Addr)(n ca:Nat)(hA:sO E js ms aA ps w)(hc:Ctx w)(tE:Pl.ey key)(hn:key.length=n)(hb:aw w A key):
 bG 310 #[.pointer (some ⟨E.gT,0,none⟩),.slice A n ca] w (akp (Db E js ms aA) ps key w):=by
 subst hn;obtain⟨rd,G,r,h⟩:=hA;obtain⟨⟨hh,t⟩,fr,h1,h2,h3,h4,h5,h6⟩:=id h.root;have aI:=lZ.hh (G:=G) (w:=w) (r:=r) (l:=ps) ⟨hh,t⟩ h2 zw h.ok;have hl:Pl.dI key (Pl.fP hh t key)=Pl.dI key ps:=by rw[<-h3];exact Pl.aeI h2
 refine(adi (E.to r) A ca key tE h.ok.n h.ok.bad hh t w rd G h.tw h1 h2 zw hc.ev hb).mono ?_;rintro e w' ⟨k,go,v,rfl,g1,g2,g3,g4⟩;have hS:SF (Db E js ms aA) w w':=⟨g3.TY,g3.low,g3.TY⟩;rcases g4 with⟨rfl,G',cO,A',aB,l,k1,k2,k3,k4,k5,k6,k7,k8,k9⟩|⟨_,k1,_⟩|⟨rfl,k1,k2,G',cO,k3,k4,_⟩
 ·refine⟨hS,⟨cO,G',r,h.mv k2 k3 g3.pg g3.refs⟩,.inl ⟨l,A',aB,zw,?_,?_,⟨k6.src,k7⟩,k9⟩⟩
  ·have:=k5.cell 0;rw[g2]at this;rw[fB this];rfl
  omega
 ·exact absurd k1 h.ok.aW
 ·refine⟨hS,⟨cO,G',r,h.mv k3 k4 g3.pg g3.refs⟩,.inr ⟨zw,?_⟩⟩;have:=k2.cell 0;rw[g2]at this;rw[fB this];rfl
theorem sO.put(key v:Pl.Key)(A B:Option Addr)(n m ca cb:Nat)(hA:sO E js ms aA ps w)(hc:Ctx w)(tE:Pl.ey key)(hvf:v.length<=100)(hn:key.length=n)(hm:v.length=m)(Lw:ps.length<aA)(hbA:aw w A key)(hbB:aw w B v):
 bG 311 #[.pointer (some ⟨E.gT,0,none⟩),.slice A n ca,.slice B m cb] w (UI (Db E js ms aA) (Pl.dN key v ps) w):=by
 subst hn hm;obtain⟨rd,G,r,h⟩:=hA;obtain⟨⟨hh,t⟩,fr,h1,h2,h3,h4,h5,h6⟩:=id h.root;have aI:=lZ.hh (G:=G) (w:=w) (r:=r) (l:=ps) ⟨hh,t⟩ h2 zw h.ok;have TK:Pl.Any.kh (Pl.iB (Pl.dN key v) key ⟨hh,t⟩)=Pl.dN key v ps:=by rw[<-h3];exact Pl.ahk h2
 have EO:=Pl.jW key v ps;have bz:=lZ.hh (G:=G) (w:=w) (r:=r) (l:=ps) _ (Pl.aeT tE hvf h2) zw h.ok;have uX:=h.ok.fits;have fw:=h.ok.n;refine(aeg (E.to r) A B ca cb key v tE hvf h.ok.n (show E.m.ej<=4096 by omega) h.ok.bad hh t w rd G h.tw h1 h2 zw zo hc.ev hbA hbB).mono ?_;rintro e w' ⟨k,rfl,q0,q1⟩;have hS:SF (Db E js ms aA) w w':=⟨q0.TY,q0.low,q0.TY⟩;rcases q1 with⟨rfl,G',cO,r',fr',g1,g2,g3,g4,g5,g6,_⟩|⟨rfl,G',cO,fr',g1,g2,g3,g4,g5,_⟩|⟨_,g1,_⟩|⟨_,g1,_⟩
 ·exact⟨hS,⟨cO,G',r',h.ok,g1,⟨_,fr',g3,Pl.aeT tE hvf h2,TK,g4,g5,zo⟩,λm hm=>(h.marks m hm).mv g2 q0.pg q0.refs,h.saved.refs g2 q0.refs r'⟩,rfl⟩
 ·have e1:(E.to r).m.n=E.m.n:=rfl;have e2:(E.to r).m.ej=E.m.ej:=rfl
  grind
 ·exact absurd g1 h.ok.aW
 grind
theorem sO.scan(fk:Pl.Key)(A:Option Addr)(n ca:Nat)(hA:sO E js ms aA ps w)(hc:Ctx w)(hn:fk.length=n)(hbA:aw w A fk):
 bG 312 #[.pointer (some ⟨E.gT,0,none⟩),.slice A n ca,.int .i64 16] w (afk (Db E js ms aA) ps fk w):=by
 subst hn;obtain⟨rd,G,r,h⟩:=hA;obtain⟨⟨hh,t⟩,fr,h1,h2,h3,h4,h5,h6⟩:=id h.root;have aI:=lZ.hh (G:=G) (w:=w) (r:=r) (l:=ps) ⟨hh,t⟩ h2 zw h.ok;have uX:=h.ok.fits;have fw:=h.ok.n;refine(WE (E.to r) 16 fk A ca h.ok.n h.ok.aW h.ok.bad zj zj hh t w rd G h.tw h1 h2 zw hc.ev hc.ge (by rw[show Pl.kh hh t=ps from h3];omega) hbA).mono ?_;rintro e w' ⟨v,go,rfl,_,G',cO,g1,g2,g3,g4,g5,g6⟩;have g3:xy w' w.heap.size v ((Pl.pJ fk ps).take 16):=by rw[<-h3];exact g3
 exact⟨⟨g4.mono zu (λ_ h=>h.elim),g6.2.2,g4.mono (λ_ h=>h) (λ_ h=>h.elim)⟩,⟨cO,G',r,h.mv g1 g2 (λv pg hp=>g4.sfr.pg hp zj) g5⟩,v,rfl,g3⟩
theorem sO.bQ{w':World}{F:Nat->Prop}{ts:List TypeId}(hA:sO E js ms aA ps w)(ho:ag F w w')(hs:kM F w ts)(ht:∀t∈vM,t∉ts):sO E js ms aA ps w':=by obtain⟨rd,G,r,h⟩:=hA;have t1:242∉ts:=ht _ (by simp[vM]);have t2:265∉ts:=ht _ (by simp[vM]);have t3:∀t∈er,t∉ts:=λt hm=>ht t (by simp[vM,hm]);have t4:108∉ts:=ht _ (by simp[vM]);have t5:190∉ts:=ht _ (by simp[vM]);exact⟨rd,G,r,h.mv (h.tw.sp ho hs t1 t2 t3 t4 t5) (Ext.refl G) (λv pg hp=>hp.sp ho hs t3) (λr a v hr=>⟨v,hr.sp ho hs t2,.inl rfl⟩)⟩
end
variable (E:fe) (js:List Nat) (ms:List (Nat×List Pl.Pr)) (aA:Nat)
theorem dS:eP (Db E js ms aA) aA where
 aeP:=Tryz.U1 _
 adL:=Tryz.Xi _
 ads:=λa w=>by simp[go_sem,Db]
 acS:=λa w=>by simp[go_sem,Db]
 uo:=sO.uo
 fit:=λ{ps w} ⟨rd,G,r,h⟩=>by obtain⟨x,fr,h1,h2,h3,_⟩:=h.root;rw[<-h3];exact Pl.afj _ _ h2.1
 len:=λ{ps w} ⟨rd,G,r,h⟩=>by obtain⟨x,fr,h1,h2,h3,_,_,h4⟩:=h.root;exact h4
 bsT:=λ_ h=>h.elim
 bQ:=λh ho hs ht _ _=>sO.bQ h ho hs ht
 get:=λps key A n ca w hA hc tE hn hb=>sO.get key A n ca hA hc tE hn hb
 put:=λps key v A B n m ca cb w hA hc tE hvf hn hm Lw hbA hbB=>sO.put key v A B n m ca cb hA hc tE hvf hn hm Lw hbA hbB
theorem Nb(ps:List Pl.Pr):YZ (Db E js ms aA) ps where
 aeQ:=Tryz.QW _
 abr:=λa w=>by simp[go_sem,Db]
 scan:=λfk A n ca w hA hc hn _ hb=>sO.scan fk A n ca hA hc hn hb
end Go.Proofs.YtbhpofdafhahgaaGreatDoor
namespace Go.Proofs.YtbhpofdafhahgaaGreatDoor
namespace Pl
def jU(w k:Key):Bool:=decide (w.length<=k.length/\k.take w.length=w)
theorem XG(k:Key):jU [] k=true:=by simp[jU]
theorem CX(c x:UInt8)(w k:Key):jU (c::w) (x::k)=(decide (x=c)&&jU w k):=by
 unfold jU
 grind
theorem M0(c:UInt8)(w:Key):jU (c::w) []=false:=by simp[jU]
theorem ajb{w:Key}:∀{k:Key},jU w k=true->¬k<w:=by
 induction w with
 |nil=>simp
 |cons c w ih=>
  intro k hk;cases k with
  |nil=>rw[M0]at hk;cases hk
  |cons x k=>rw[CX,oX,oP]at hk;simp_all
theorem acy{w:Key}:∀{a b:Key},¬a<w->jU w a=false->a<b->jU w b=false:=by
 induction w with
 |nil=>intro a b _ h;rw[XG]at h;cases h
 |cons c w ih=>
  intro a b ha hf VP;cases b with
  |nil=>simp_all
  |cons y b=>
   cases a with
   |nil=>simp_all
   |cons x a=>
    rw[qv]at ha VP;rw[CX]at hf|-
    grind
theorem Dd:∀(a b:Key),b<a++ [0]↔¬a<b
 | [],b=>by
   cases b with
   |nil=>simp
   |cons y b=>rw[aX,qv];simp
 |x::a,b=>by
  cases b with
  |nil=>simp
  |cons y b=>
   rw[eu,qv,qv,Dd a b]
   grind
end Pl
end Go.Proofs.YtbhpofdafhahgaaGreatDoor
namespace Go.Proofs.YtbhpofdafhahgaaGreatDoor
variable [Inhabited eH]
namespace Pl
variable {l r G R ps:List Pr} {p x:Pr} {w fk:Key} {k:Nat}
theorem acT{a:Key}(hs:qu (l++p::r))(hp:p.key=a):pJ (a++ [0]) (l++p::r)=r:=by subst hp;rw[AP];have h0:=fS.1 hs;have h1:=lM.1 h0.2.1;rw[N0 (λx hx=>(Dd _ _).2 (λh=>zw))];rw[aX];have e:pJ (p.key++ [0]) (p::r)=pJ (p.key++ [0]) [p]++pJ (p.key++ [0]) r:=AP _ [p] r;rw[e,N0 (λx hx=>by rw[dU.1 hx];exact(Dd _ _).2 (aoN _)),YS (λx hx h=>(Dd _ _).1 h zw)];rfl
theorem agp(hs:qu (p::r))(hw:¬p.key<w)(hb:jU w p.key=false):jw (jU w) (p::r)=[]:=by
 unfold jw;rw[np];intro x hx;rcases cV.1 hx with rfl|hx
 ·grind
 ·simp[acy hw hb ((lM.1 hs).1 x hx)]
theorem agB(ps:List Pr):jw (jU w) (pJ w ps)=jw (jU w) ps:=by
 unfold jw pJ;rw[List.filter_filter];congr 1;funext p;cases h:jU w p.key with
 |false=>simp
 |true=>simp[ajb h]
theorem Ec{f:Key->Bool}(h:∀(j:Nat) (x:Pr),l[j]?=some x->f x.key=true):jw f l=l:=by
 unfold jw;rw[List.filter_eq_self];intro x hx;obtain⟨j,hj⟩:=uZ hx
 grind
theorem aey(hs:qu G)(ha:∀x∈G,¬x.key<w)(hR:G.take 16=R)(hb:∀(j:Nat) (x:Pr),j<k->R[j]?=some x->jU w x.key=true)(hp:R[k]?=some p)(hn:jU w p.key=false):jw (jU w) G=R.take k:=by
 have hk:k<R.length:=zw;have hpk:G[k]?=some p:=by
  grind
 have pK:k<16:=zw;have e:R.take k=G.take k:=zw;have hkG:k<G.length:=zw;have yV:G[k]=p:=zw;have e2:G=R.take k++p::G.drop (k+1):=by rw[e,<-yV,<-fT hkG,di]
 have nX:qu (p::G.drop (k+1)):=by rw[e2]at hs;exact(fS.1 hs).2.1
 have Y6:p∈G:=zw;have h1:jw (jU w) (R.take k)=R.take k:=Ec (λj x hj=>by
  grind)
 have h2:=agp nX zw hn;rw[e2,ez,h1,h2,dH]
theorem aab(hR:G.take 16=R)(hl:R.length<16)(hb:∀(j:Nat) (x:Pr),j<R.length->R[j]?=some x->jU w x.key=true):jw (jU w) G=R:=by
 have e:G=R:=by rw[<-hR,aP]at hl;rw[<-hR,dx zo]
 rw[e];exact Ec (λj x hj=>zw)
theorem abX{D L:List Pr}(hL:D++jw (jU w) G=L)(hl:L.length<=ps.length)(hR:G.take 16=R)(hb:∀(j:Nat) (x:Pr),j<k->R[j]?=some x->jU w x.key=true)(hp:R[k]?=some p)(hn:jU w p.key=true):(D++R.take k).length<ps.length:=by
 have hk:k<R.length:=zw;have pK:k<16:=zw;have e:R.take (k+1)=G.take (k+1):=zw;have h1:jw (jU w) (R.take (k+1))=R.take (k+1):=Ec (λj x hj=>by
  grind)
 have h2:jw (jU w) G=R.take (k+1)++jw (jU w) (G.drop (k+1)):=by
  conv=>lhs;rw[<-di (k+1) G,<-e,ez,h1]
 grind
theorem Tf(hs:qu ps)(hR:(pJ fk ps).take 16=R)(hx:R[15]?=some x):pJ (x.key++ [0]) ps=(pJ fk ps).drop 16:=by
 obtain⟨G,hG⟩:∃G,pJ fk ps=G:=by simp
 obtain⟨i,hi⟩:∃i,ps.drop i=G:=⟨_,by rw[<-hG,Hj hs]⟩;rw[hG]at hR|-
 have hxG:G[15]?=some x:=by
  grind
 have h15:15<G.length:=zw;have hxe:G[15]=x:=zw;have e2:ps=(ps.take i++G.take 15)++x::G.drop 16:=by rw[<-hxe,cJ,<-fT h15,di,<-hi,di]
 conv=>lhs;rw[e2]
 exact acT zw rfl
theorem Ni(hs:qu ps)(hR:(pJ fk ps).take 16=R)(hx:R[15]?=some x):(pJ (x.key++ [0]) ps).length<(pJ fk ps).length:=by
 rw[Tf hs hR hx,bT]
 grind
end Pl
open Go.RowKit
variable {A:Option Addr} {l:List UInt8} {w:World}
variable (W:World)
theorem Xk(k q:Pl.Key)(A B:Option Addr)(n m ca cb:Nat)(w:World)(hn:k.length=n)(hm:q.length=m)(GJ:n<=ca)(hA:aw w A k)(hB:aw w B q)(hs:n<=1000000)(nX:m<=1000000):
 bG 183 #[.slice A n ca,.slice B m cb] w λe w'=>e= .returned (.bool (Pl.jU q k))/\dP w w':=by
 have hd:∀j,Below w.heap.size w (w.drewN j):=λj=>below_drewN (ak _ _) j;have HD:=hd;by_cases h:m<=n
 ·have q1:((m:Int)<=(n:Int)):=zo;have q2:decide ((m:Int)<=(n:Int))=true:=aQ q1;have c1:∀j,(convert 29 9 (.slice A m ca)).run Tryz.prog (w.drewN j)= .ok (.string (ar (k.take m))) (w.drewN j):=λj=>by
   have hl:(k.take m).length=m:=by rw[aP];omega
   have:=dQ (w.drewN j) A (k.take m) ca ((hA.bQ (hd j)).head m);rwa [hl]at this
  have c2:∀j,(convert 29 9 (.slice B m cb)).run Tryz.prog (w.drewN j)= .ok (.string (ar q)) (w.drewN j):=λj=>by rw[<-hm];exact dQ _ B q cb (hB.bQ (hd j))
  have hmc:(m:Int)<=(ca:Int):=zo;have PH:(0:Int)<=(m:Int):=zo;have HE:(Pl.jU q k=((ar (k.take m)).toList==(ar q).toList)):=by rw[qU];unfold Pl.jU;rw[hm,hn];by_cases e:k.take m=q<;>simp[h,e]
  obtain⟨s1,ma⟩:=ze (ar (k.take m));obtain⟨s2,ate⟩:=ze (ar q);rw[ma]at c1 HE;rw[ate]at c2 HE;go_enter Tryz.func183,Tryz.ntmps183;go_wp2_with fail;go_quiet (fail);go_wp2_with fail;go_ret;exact⟨by rw[HE];rfl,HD _⟩
 ·have q1:¬((m:Int)<=(n:Int)):=zo;have q2:decide ((m:Int)<=(n:Int))=false:=aH q1;have HE:(Pl.jU q k=false):=by unfold Pl.jU;rw[hm,hn];simp[h]
  go_enter Tryz.func183,Tryz.ntmps183;go_wp2_with fail;go_quiet (fail);go_wp2_with fail;go_ret;exact⟨by rw[HE];rfl,HD _⟩
def ace(A:Option Addr)(i:Nat):UInt8:=
 match A with
 |some a=>match W.cell? ⟨a.block,a.off+i,none⟩with
  |some (.int _ c)=>UInt8.ofNat c.toNat
  |_=>0
 |none=>0
def bytesOf(v:Value):List UInt8:=
 match v with
 | .slice A n _=>(List.range n).map (ace W A)
 |_=> []
theorem Hs{W:World}{n aB:Nat}(h:aw W A l)(hn:l.length=n):bytesOf W (.slice A n aB)=l:=by subst hn;unfold bytesOf;refine List.ext_getElem zu (λi h1 h2=>?_);rw[List.getElem_map,List.getElem_range];obtain⟨b,off,rfl,hc⟩:=h.dm i h2;unfold ace;simp_all
theorem lW.te{ts:List TypeId}{bs bs':Nat->Prop}{a b c:World}(h:lW ts bs a b)(k:lW ts bs' b c)(hb:∀x,x<a.heap.size->bs' x->bs x):lW ts bs a c:=by
 obtain⟨F,h1,h2⟩:=h;obtain⟨F',k1,k2⟩:=k;refine⟨λx=>F x\/(x<a.heap.size/\F' x/\¬F x),(h1.mono zS).trans k1 (λx hx hF=>?_),λx hx=>?_⟩
 ·grind
 ·rcases hx with hx|⟨hl,hx,hn⟩
  ·grind
  ·refine(k2 x hx).imp (λ⟨t,g1,cs,fz,g2⟩=>⟨t,g1,cs,fz,?_⟩) zw;rw[<-h1.block x hl hn];exact g2
structure uK(S:iM)(ps:List Pl.Pr)(K:FuncId)(cg:Array Value)(J:List Pl.Pr->(Nat->Prop)->World->Prop):Prop where
 enter:∀(x:Value) (W:World),(callFunc K (#[x]++cg)).run Tryz.prog W= .ok (.enter K (#[x]++cg)) W
 dm:∀{done O W},J done O W->S.At ps W
 sf:∀{done O W W'},J done O W->SF S W W'->S.At ps W'->J done O W'
 lt:∀{done O W},J done O W->∀k,O k->k<W.heap.size/\Zn k
 call:∀(W:World) (p:Pl.Pr) (A B:Option Addr) (ca cb nk nv:Nat) (done:List Pl.Pr) (O:Nat->Prop),J done O W->Ctx W->done.length<ps.length->p∈ps->p.key.length=nk->p.val.length=nv->nk<=ca->nv<=cb->mG W A p.key->mG W B p.val->
  (∀q,A=some q->¬O q.block)->(∀q,B=some q->¬O q.block)->
  bG K (#[.agg #[.slice A nk ca,.slice B nv cb]]++cg) W λe W'=>e= .returned .nilIface/\∃O',J (done++ [p]) O' W'/\(∀k,O' k->O k\/W.heap.size<=k)/\ag O W W'
def aid(S:iM)(J:List Pl.Pr->(Nat->Prop)->World->Prop)(O:Nat->Prop)(L:List Pl.Pr)(w:World)(e:Ending)(w':World):Prop:=
 e= .returned .nilIface/\∃O',J L O' w'/\(∀k,O' k->O k\/w.heap.size<=k)/\lW Sb (λk=>S.bs k\/O k) w w'/\Gl w w'/\lW S.ts (λk=>S.bs k\/O k) w w'
theorem jh.lt_{k:Nat}{t:TypeId}(h:jh w k t):k<w.heap.size:=by
 obtain⟨cs,fz,h⟩:=h
 grind
def PpT(w:World)(aq top:Nat)(c:List Value)(p:Pl.Pr):Prop:=∃A ca B cb,c=[.slice A p.key.length ca,.slice B p.val.length cb]/\mG w A p.key/\mG w B p.val/\(p.key.length<=ca/\p.val.length<=cb)/\(∀q,A=some q->aq<=q.block/\q.block<top)/\∀q,B=some q->aq<=q.block/\q.block<top
theorem KJ.t{aq top:Nat}{c:List Value}{p:Pl.Pr}(h:KJ w aq c p)(ht:w.heap.size<=top):PpT w aq top c p:=by
 obtain⟨A,ca,B,cb,e,h2,h3,h4,h5,h6⟩:=h;have lt:∀{A:Option Addr} {l:List UInt8},mG w A l->∀q,A=some q->q.block<top:=λh q hq=>by
  obtain⟨cs,fz,h⟩:=h.2 q hq
  grind
 exact⟨A,ca,B,cb,e,h2,h3,h4,λq hq=>⟨h5 q hq,lt h2 q hq⟩,λq hq=>⟨h6 q hq,lt h3 q hq⟩⟩
theorem mG.jL{F:Nat->Prop}{w':World}(h:mG w A l)(ho:ag F w w')(hn:∀q,A=some q->¬F q.block):mG w' A l:=
 ⟨ho.bytes h.1 hn,λq hq=>by
   obtain⟨cs,fz,h2⟩:=h.2 q hq;exact⟨cs,fz,(ho.block _ zw zw).trans h2⟩⟩
theorem PpT.jL{F:Nat->Prop}{w w':World}{aq top:Nat}{c:List Value}{p:Pl.Pr}(h:PpT w aq top c p)(ho:ag F w w')(hF:∀x,F x->x<aq\/top<=x):PpT w' aq top c p:=by obtain⟨A,ca,B,cb,e,h2,h3,h4,h5,h6⟩:=h;exact⟨A,ca,B,cb,e,h2.jL ho zw,h3.jL ho zw,h4,h5,h6⟩
structure EIn(S:iM)(J:List Pl.Pr->(Nat->Prop)->World->Prop)(O0:Nat->Prop)(w:World)(q:Pl.Key)(A:Option Addr)(aq top:Nat)(lv:Value)(D R:List Pl.Pr)(k:Nat)(O:Nat->Prop)(W:World):Prop where
 j:J (D++R.take k) O W
 new:∀x,O x->O0 x\/w.heap.size<=x
 off:∀x,O x->x<aq\/top<=x
 ctx:Ctx W
 szs:aq<=top/\top<=W.heap.size/\w.heap.size<=aq
 out:∃cs,Rw 206 2 W aq lv R.length cs/\fW 2 (PpT W aq top) cs R
 akX:∀g,lv.ownBlock=some g->g<top
 xx:mG W A q/\∀p,A=some p->¬O p.block
 fr:lW Sb (λk=>S.bs k\/O0 k) w W/\Gl w W/\lW S.ts (λk=>S.bs k\/O0 k) w W
section
variable {S:iM} {ps:List Pl.Pr} {K:FuncId} {cg:Array Value} {J:List Pl.Pr->(Nat->Prop)->World->Prop} {O0 O:Nat->Prop} {w W W':World} {q:Pl.Key} {A:Option Addr} {aq top k:Nat} {lv:Value} {D R:List Pl.Pr}
theorem EIn.called{p:Pl.Pr}{O':Nat->Prop}(h:EIn S J O0 w q A aq top lv D R k O W)(E:uK S ps K cg J)(hp:R[k]?=some p)(hj:J (D++R.take k++ [p]) O' W')(hO:∀x,O' x->O x\/W.heap.size<=x)(ho:ag O W W'):
 EIn S J O0 w q A aq top lv D R (k+1) O' W':=by
 have tN:Gl W W':=ho.mono (λx _ hx=>(E.lt h.j x hx).2);refine⟨?_,λx hx=>?_,λx hx=>?_,h.ctx.gl tN,⟨h.szs.1,ao h.szs.2.1 ho.size,h.szs.2.2⟩,?_,h.akX,⟨h.xx.1.jL ho h.xx.2,λp hp hx=>?_⟩,?_⟩
 ·have e:R.take (k+1)=R.take k++ [p]:=by rw[eK,hp];rfl
  grind
 ·rcases hO x hx with hx|hx
  ·exact h.new x hx
  ·have:=h.szs;omega
 ·rcases hO x hx with hx|hx
  ·exact h.off x hx
  ·have:=h.szs;omega
 ·obtain⟨cs,h1,h2⟩:=h.out;refine⟨cs,h1.only ho (λg hg hx=>?_),h2.mono (λc x _ hx=>hx.jL ho h.off)⟩;have:=h.akX g hg;have:=(AK h1 g hg).1;have:=h.off g hx;omega
 ·rcases hO _ hx with hx|hx
  ·exact h.xx.2 p hp hx
  ·have:=jh.lt_ (h.xx.1.2 p hp);omega
 ·have hold:∀x,x<w.heap.size->O x->S.bs x\/O0 x:=λx hl hx=>by
   rcases h.new x hx with hx|hx
   ·grind
   ·omega
  exact⟨h.fr.1.te (bs':=O) ⟨O,ho,λx hx=> .inr hx⟩ hold,h.fr.2.1.aE tN,h.fr.2.2.te (bs':=O) ⟨O,ho,λx hx=> .inr hx⟩ hold⟩
end
end Go.Proofs.YtbhpofdafhahgaaGreatDoor
