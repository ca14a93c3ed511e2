/- Part 13: PgN PgO PgP PgQ PgR. -/
import Derived.Deep.CutBlock
import Derived.Test.YtbhpofdafhahgaaGreatDoorMq12
set_option linter.all false
set_option maxHeartbeats 8000000
set_option maxRecDepth 100000
namespace Go.Proofs.YtbhpofdafhahgaaGreatDoor
open Go.RowKit
variable [Inhabited eH]
def iQ(w:World)(G:Gh)(h:Nat)(rv:Value)(r:Pl.Row h):Prop:=
 ∃A ca B cb vs,rv= .agg #[.slice A r.2.length ca,.slice B r.1.length cb]/\r.2.length<=ca/\r.1.length<=cb/\dn w A (bo r.2) 9/\dn w B vs 263/\vs.length=r.1.length/\
  ∀(i:Nat) (v:Value) (t:Pl.Tr h),vs[i]?=some v->r.1[i]?=some t->fN w G v h t none
def NF(B:Nat)(w:World)(gr:Nat)(P:List (List Pl.Pr))(K:List Pl.Key):Prop:=
 ∃vk vp vs,ay w gr 421 [vk,vp]/\Rw 9 1 w B vk K.length (bo K)/\Rw 263 1 w B vp P.length vs/\vs.length=P.length/\
  ∀(i:Nat) (v:Value) (p:List Pl.Pr),vs[i]?=some v->P[i]?=some p->∃b,v=fR b/\fZ w b p
theorem NF.aa{B:Nat}{w w':World}{gr:Nat}{P:List (List Pl.Pr)}{K:List Pl.Key}(h:NF B w gr P K)(hb:dP w w'):NF B w' gr P K:=by obtain⟨vk,vp,vs,h1,h2,h3,h4,h5⟩:=h;exact⟨vk,vp,vs,h1.aa hb h1.lt,h2.aa hb,h3.aa hb,h4,λi v p hv hp=>by obtain⟨b,e,h6⟩:=h5 i v p hv hp;exact⟨b,e,h6.aa hb⟩⟩
structure YH(B:Nat)(w:World)(gr:Nat)(vk vp:Value)(P:List (List Pl.Pr))(K:List Pl.Key)(vs:List Value):Prop where
 aC:ay w gr 421 [vk,vp]
 keys:Rw 9 1 w B vk K.length (bo K)
 ej:Rw 263 1 w B vp P.length vs
 len:vs.length=P.length
 each:∀(i:Nat) (v:Value) (p:List Pl.Pr),vs[i]?=some v->P[i]?=some p->∃b,v=fR b/\fZ w b p
theorem NF.told{B:Nat}{w:World}{gr:Nat}{P:List (List Pl.Pr)}{K:List Pl.Key}(h:NF B w gr P K):∃vk vp vs,YH B w gr vk vp P K vs:=by obtain⟨vk,vp,vs,h1,h2,h3,h4,h5⟩:=h;exact⟨vk,vp,vs,h1,h2,h3,h4,h5⟩
section
variable {B:Nat} {w w':World} {gr:Nat} {vk vp v:Value} {P:List (List Pl.Pr)} {K:List Pl.Key} {vs:List Value}
theorem YH.dm(h:YH B w gr vk vp P K vs):NF B w gr P K:=⟨vk,vp,vs,h.aC,h.keys,h.ej,h.len,h.each⟩
theorem YH.aa(h:YH B w gr vk vp P K vs)(hb:dP w w'):YH B w' gr vk vp P K vs:=
 ⟨h.aC.aa hb h.aC.lt,h.keys.aa hb,h.ej.aa hb,h.len,λi v p hv hp=>by obtain⟨b,e,h1⟩:=h.each i v p hv hp;exact⟨b,e,h1.aa hb⟩⟩
theorem Rw.oM{e:TypeId}{s:Nat}{w:World}{aq:Nat}{v:Value}{n:Nat}{cs:List Value}(h:Rw e s w aq v n cs):bR (λk=>v.ownBlock=some k) w [e]:=λ_ hk=>⟨e,zu,dc h hk⟩
theorem YH.aoY(h:YH B w gr vk vp P K vs){gl:Nat}{now:List Pl.Pr}(hl:fZ w gl now)(hm:Mv w w' vp v)(hr:Rw 263 1 w' B v (P.length+1) (vs++ [fR gl])):YH B (w'.setCell ⟨gr,1,none⟩ v) gr vk v (P++ [now]) K (vs++ [fR gl]):=by
 have hk:=h.ej.oM;have ho:=hm.only;have hb:=ho.cY hk h.aC zj;have fw:ag (·=gr) w' (w'.setCell ⟨gr,1,none⟩ v):=(ag.refl (·=gr) w').setCell (p:=⟨gr,1,none⟩) zu v;have pK:=aD hb;have lf:∀b (p:List Pl.Pr),fZ w b p->fZ (w'.setCell ⟨gr,1,none⟩ v) b p:=λb p hp=>(hp.only ho hk zj zj).only fw pK zj zj;refine⟨hb.bw 1 v,(h.keys.iC ho hk zj).iC fw pK zj,by rw[ax,dy];exact hr.iC fw pK zj,by rw[ax,ax,h.len];rfl,λi u p hu hp=>?_⟩;rcases eJ i P.length with hi|hi
 ·rw[kc (zA h.len)]at hu;rw[kc hi]at hp;obtain⟨b,e,h1⟩:=h.each i u p hu hp
  grind
 ·rw[iI hi]at hp;rw[iI (zA h.len)]at hu
  grind
theorem YH.key(h:YH B w gr vk vp P K vs){k:Pl.Key}(hm:Mv w w' vk v)(hr:Rw 9 1 w' B v (K.length+1) (bo K++bo [k])):YH B (w'.setCell ⟨gr,0,none⟩ v) gr v vp P (K++ [k]) vs:=by
 have hk:=h.keys.oM;have ho:=hm.only;have hb:=ho.cY hk h.aC zj;have fw:ag (·=gr) w' (w'.setCell ⟨gr,0,none⟩ v):=(ag.refl (·=gr) w').setCell (p:=⟨gr,0,none⟩) zu v;have pK:=aD hb;have e:bo (K++ [k])=bo K++bo [k]:=by unfold bo;simp
 refine⟨hb.bw 0 v,by rw[ax,dy,e];exact hr.iC fw pK zj,(h.ej.iC ho hk zj).iC fw pK zj,h.len,λi u p hu hp=>?_⟩;obtain⟨b,e,h1⟩:=h.each i u p hu hp;exact⟨b,e,(h1.only ho hk zj zj).only fw pK zj zj⟩
end
variable {w w' a b:World} {G:Gh} {h k gx n:Nat} {r:Pl.Row h} {vs cs:List Value} {t:TypeId} {ps:List Pl.Pr} {p:Pl.Pr} {A:Option Addr} {ks:List Pl.Key} {x:Pl.Key} {v:Value}
theorem fN.only{F:Nat->Prop}{w w':World}{G:Gh}{v:Value}{ts:List TypeId}(ho:ag F w w')(hF:bR F w ts)(h2:∀t∈er,t∉ts):{h:Nat}->{t:Pl.Tr h}->fN w G v h t none->fN w' G v h t none
 |0,t,h=>iq.only (pg:= .leaf t) h ho hF h2
 |_+1,_,⟨rs,g1,g2,g3,_⟩=>⟨rs,g1.only ho hF h2,g2,g3,zu⟩
theorem iQ.only{F:Nat->Prop}{w w':World}{G:Gh}{h:Nat}{rv:Value}{r:Pl.Row h}{ts:List TypeId}(hr:iQ w G h rv r)(ho:ag F w w')(hF:bR F w ts)(h1:263∉ts)(h2:∀t∈er,t∉ts):iQ w' G h rv r:=by obtain⟨A,ca,B,cb,vs,e,k1,k2,k3,k4,k5,k6⟩:=hr;exact⟨A,ca,B,cb,vs,e,k1,k2,k3.only ho hF (h2 _ zj),k4.only ho hF h1,k5,λi v t hv ht=>(k6 i v t hv ht).only ho hF h2⟩
theorem iQ.aa{rv:Value}(hr:iQ w G h rv r)(hb:dP w w'):iQ w' G h rv r:=hr.only (ag.ae hb (λ_=>False)) (gG w) zu zu
theorem YH.row{B:Nat}{gr:Nat}{vk vp:Value}{P:List (List Pl.Pr)}{K:List Pl.Key}(h:YH B w gr vk vp P K vs)(G:Gh):iQ w G 0 (.agg #[vk,vp]) ((P,K):Pl.Row 0):=by obtain⟨A,ca,e1,h1,h2,_⟩:=h.keys.eo;obtain⟨A',vR,e2,h3,h4,_⟩:=h.ej.eo;exact⟨A,ca,A',vR,vs,by rw[e1,e2];rfl,h1,h3,h2,h4,h.len,λi v t hv ht=>h.each i v t hv ht⟩
theorem jj{fn:Func}{t:Tmp}{tmps:Array Value}{g:Nat}{a b:Value}(h:fn.results= #[.cell t 421])(ht:tmps.getD t undef= .pointer (some ⟨g,0,none⟩))(hB:ay w g 421 [a,b]):
 (results fn tmps).run Tryz.prog w= .ok (.agg #[a,b]) w:=by
 have c0:=hB.cell 0;have c1:=hB.cell 1;simp only[aL,au]at c0 c1;simp only[fF]at ht;simp[results,h,ht,go_sem,c0,c1,asAddr]
theorem acZ(h:ps[k]?=some p):Pl.yQ (ps.drop k)=Pl.tL p+Pl.yQ (ps.drop (k+1)):=by obtain⟨hlt,rfl⟩:=cR.1 h;unfold Pl.yQ;rw[fT hlt,jf,oU]
theorem agO{all size:Nat}{now:List Pl.Pr}(h:ps[k]?=some p):
 Pl.lv all (ps.drop k) now size=if(256<size+Pl.tL p\/(256<all/\all/2<=size))/\now≠ []then(now::(Pl.lv all (ps.drop (k+1)) [p] (3+Pl.tL p)).1,p.key::(Pl.lv all (ps.drop (k+1)) [p] (3+Pl.tL p)).2)
  else Pl.lv all (ps.drop (k+1)) (now++ [p]) (size+Pl.tL p):=by
 obtain⟨hlt,rfl⟩:=cR.1 h;rw[fT hlt,Pl.lv]
theorem Hx(A:Option Addr)(aB:Nat)(ps:List Pl.Pr)(w:World)(hs:dn w A (bu ps) 399)(hsz:Pl.j5 ps<=1000)(G:Gh):
 bG 329 #[.slice A ps.length aB] w λe w'=>∃rv,e= .returned rv/\iQ w' G 0 rv (Pl.mA ps)/\dP w w':=by
 obtain⟨n,hn⟩:=ze ps.length;have bU:=iP ps;have afF:n<=500:=zo;obtain⟨w1,dj,aI⟩:=zF w (.cells #[.slice none 0 0,.slice none 0 0] 421);have B1:ay w1 w.heap.size 421 [.slice none 0 0,.slice none 0 0]:=by rw[<-dj];exact ay.new w 421 _
 obtain⟨gx,hgx⟩:=ze w.heap.size;rw[hgx]at B1;have Rk:=hgx;have HN:=zi hn;have HS:=hs.aa aI;rw[hn];clear hn;go_enter Tryz.func329,Tryz.ntmps329;go_wp2_with fail
 go_loopw [3,14] (λt i wr=>∃k:Nat,k<=n/\i= .int .i64 (k:Int)/\t= .int .i64 (Pl.j5 (ps.take k):Nat)/\Hid (Below w1.heap.size w1 wr)) (λ_ i _=>n-(intOf i).toNat)
 case atStart=>exact⟨0,aM _,rfl,rfl,ak _ _⟩
 case round=>
  obtain⟨k,hk,rfl,rfl,Gs⟩:=hrel;by_cases pX:k<n
  ·have q1:(k:Int)<(n:Int):=zo;obtain⟨p,hp⟩:∃p,ps[k]?=some p:=⟨_,aF (by rw[HN.out];exact pX)⟩;have Y6:=bO hp;have dm:=jB (f:=gQ) (s:=2) (λ_=>rfl) ps k p hp;have mM:=HS.aa Gs;obtain⟨b2,off,rfl,g0⟩:=mM.1.dm _ _ (dm 0 zo);have g1:=mM.1.cell _ _ (dm 1 zo);rw[<-ew]at g1;rw[cI]at g0;have uB:(Pl.j5 (ps.take (k+1))=Pl.j5 (ps.take k)+Pl.tL p):=zR hp;have hle:=xu ps (k+1);have NW:=vy Y6;obtain⟨t,ht⟩:=ze (Pl.j5 (ps.take k));obtain⟨m,hm⟩:=ze (Pl.tL p);have J6:t+m<=1000:=zC uB hsz;have HP:=λW=>EE p W (zA hsz);rw[ht];rw[hm]at HP;obtain⟨b5,wb,nB,p9,dM,BB⟩:=zE wr 399 [.string (ar p.key),.string (ar p.val)];have rK:=zi (Gs.trans (dM.mono Gs.size));obtain⟨e0,e1,_,_⟩:=aO BB;go_wp2_with fail;refine(HP _).mono ?_;rintro e w3 ⟨rfl,bg⟩;have eI:=zi (rK.trans (bg.mono rK.size));clear bg;go_wp2_with fail
   go_round
   case rel=>exact⟨k+1,zo,zu,by rw[uB,ht,hm];simp,eI⟩
   case measure=>simp[intOf];omega
  ·obtain rfl:k=n:=zo;obtain⟨wA,hwA⟩:∃x,x=wr:=⟨_,rfl⟩;subst hwA;have e9:=gN (l:=ps);rw[HN.out]at e9;rw[e9];obtain⟨all,fj⟩:=ze (Pl.j5 ps);have asf:=zi fj;rw[fj];have atm:all<=1000:=by rw[<-fj];exact hsz
   clear fj;obtain⟨gr,w2,YA,iA,bz,B2⟩:=zE wA 421 [.slice none 0 0,.slice none 0 0];have sZ:=HS.aa Gs;have HX2:=zi (B1.aa Gs B1.lt);have Am:=aI.trans (Gs.mono aI.size);have HL0:(NF wA.heap.size w2 gr [] []):=⟨_,_,[],B2,Rw.nil _ _,Rw.nil _ _,rfl,λi v p h _=>by simp at h⟩;have anY:Hid (gx<gr):=by have:=B1.lt;have:=Gs.size;rw[Hid];omega
   go_wp2_with fail
   go_loopw [7,8,25] (λnv sz i wr=>∃(k' size:Nat) (now:List Pl.Pr) (P:List (List Pl.Pr)) (K:List Pl.Key) (wB:World),k'<=k/\i= .int .i64 (k':Int)/\sz= .int .i64 (size:Nat)/\Hid (3<=size/\size+Pl.yQ (ps.drop k')<=1000)/\
    Hid ((P++(Pl.lv all (ps.drop k') now size).1,K++(Pl.lv all (ps.drop k') now size).2)=Pl.iO ps)/\Hid (P.length+now.length<=k'/\K.length=P.length)/\Hid (Rw 399 2 wr wB.heap.size nv now.length (bu now))/\Hid (NF wA.heap.size wB gr P K)/\Hid (Below wA.heap.size wA wB)/\Hid (Below wB.heap.size wB wr)) (λ_ _ i _=>k-(intOf i).toNat)
   case atStart=>
    refine⟨0,3,[],[],[],w2,aM _,rfl,rfl,⟨ai _,?_⟩,?_,⟨zu,zu⟩,Rw.nil _ _,HL0,bz,ak _ _⟩
    ·have:=Pl.vm ps;have:=hsz;rw[jD];omega
    ·rw[Hid,jD,aX,aX,<-asf.out];rfl
   case round=>
    obtain⟨j,size,now,P,K,wB,hj,rfl,rfl,HSI,HLV,HLE,HNW,HLA,rK,xC⟩:=hrel;by_cases hjk:j<k
    ·have q1:(j:Int)<(k:Int):=zo;obtain⟨p,hp⟩:∃p,ps[j]?=some p:=⟨_,aF (by rw[HN.out];exact hjk)⟩;have Y6:=bO hp;have dm:=jB (f:=gQ) (s:=2) (λ_=>rfl) ps j p hp;have mM:=(sZ.aa rK).aa xC;obtain⟨b2,off,rfl,g0⟩:=mM.1.dm _ _ (dm 0 zo);have g1:=mM.1.cell _ _ (dm 1 zo);rw[<-ew]at g1;rw[cI]at g0;have wu:Hid _:=agO (all:=all) (now:=now) (size:=size) hp;have HPW:Hid _:=acZ hp;have NW:=vy Y6;obtain⟨A7,Cg,rfl,hc7,ht7,_⟩:=HNW.eo;have HP:=λW=>EE p W (zA hsz);obtain⟨m,hm⟩:=ze (Pl.tL p);have J6:size+m<=1000:=zC HPW.out HSI.2;rw[hm]at HP wu;obtain⟨nn,wM⟩:=ze now.length;rw[wM];have auj:nn<=500:=zA HLE.1;obtain⟨b5,wb,nB,p9,dM,BB⟩:=zE wr 399 [.string (ar p.key),.string (ar p.val)];obtain⟨e0,e1,_,_⟩:=aO BB;obtain⟨fb,G0⟩:∃f:Bool,decide (256<size+m\/(256<all/\all/2<=size))=f:=⟨_,rfl⟩
     go_upto_region 13 with fail
     go_cut [11]from 30 to 81 (λs11 wx=>s11= .bool fb/\Hid (Below wb.heap.size wb wx))
     case first=>
      go_wp2_with fail;refine(HP _).mono ?_;rintro e w3 ⟨rfl,bg⟩;have eI:=zi bg;clear bg;have t1:(all:Int).tdiv 2=((all/2:Nat):Int):=(Int.ofNat_tdiv all 2).symm;obtain⟨a2,ha2⟩:=ze (all/2);rw[ha2]at G0 t1;by_cases c1:256<size+m
      ·have d1:decide ((256:Int)<(size:Int)+(m:Int))=true:=aQ zo;have d1':(256:Int)<(size:Int)+(m:Int):=zo;rw[aQ (.inl c1)]at G0;have HFB:=zi G0;clear G0;go_wp2_with fail;go_meet
       case rel=>exact⟨by rw[<-HFB.out],eI⟩
      ·have d1:decide ((256:Int)<(size:Int)+(m:Int))=false:=aH zo;have d1':¬(256:Int)<(size:Int)+(m:Int):=zo;by_cases c2:256<all
       ·have d2:decide ((256:Int)<(all:Int))=true:=aQ zo;have d2':(256:Int)<(all:Int):=zo;by_cases c3:a2<=size
        ·have d3:decide ((a2:Int)<=(size:Int))=true:=aQ zo;have d3':(a2:Int)<=(size:Int):=zo;have d4:decide ((j:Int)<(k:Int))=true:=aQ q1;rw[aQ (.inr ⟨c2,c3⟩)]at G0;have HFB:=zi G0;clear G0;go_wp2_with fail;go_meet
         case rel=>exact⟨by rw[<-HFB.out],eI⟩
        ·have d3:decide ((a2:Int)<=(size:Int))=false:=aH zo;have d3':¬(a2:Int)<=(size:Int):=zo;rw[aH zo]at G0;have HFB:=zi G0;clear G0;go_wp2_with fail;go_meet
         case rel=>exact⟨by rw[<-HFB.out],eI⟩
       ·have d2:decide ((256:Int)<(all:Int))=false:=aH zo;have d2':¬(256:Int)<(all:Int):=zo;rw[aH zo]at G0;have HFB:=zi G0;clear G0;go_wp2_with fail;go_meet
        case rel=>exact⟨by rw[<-HFB.out],eI⟩
     case rest=>
      obtain⟨rfl,arI⟩:=hcut;obtain⟨wd,hwd,ib⟩:∃x,x=wc/\Hid (Below wb.heap.size wb x):=⟨wc,rfl,arI⟩;subst hwd;have HFB:=zi G0;obtain⟨cl,CC⟩:∃f:Bool,(fb&&decide (0<nn))=f:=⟨_,rfl⟩;have CG:=CC;clear G0
      go_upto_region 14 with fail
      go_cut [56]from 51 to 81 (λs56 wx=>s56= .bool cl/\wd=wx)
      case first=>
       cases fb with
       |false=>
        simp only[Bool.false_and]at CC;subst CC;go_wp2_with fail;go_meet
        case rel=>exact⟨rfl,rfl⟩
       |true=>
        simp only[Bool.true_and]at CC;have d1:decide ((0:Int)<(nn:Int))=cl:=by rw[<-CC];congr 1;exact propext zo
        go_wp2_with fail;go_meet
        case rel=>exact⟨by first|rfl|rw[<-d1],rfl⟩
      case rest=>
       obtain⟨rfl,hww⟩:=hcut;subst hww
       go_upto_if 56 with fail
       go_cut [7,8]from 57 to 81 (λs7 s8 wx=>∃(xL:Nat) (UE:List Pl.Pr) (P':List (List Pl.Pr)) (K':List Pl.Key) (wB':World),s8= .int .i64 (xL:Nat)/\Hid (3<=xL/\xL<=size)/\
        Hid ((P'++(Pl.lv all (ps.drop (j+1)) (UE++ [p]) (xL+m)).1,K'++(Pl.lv all (ps.drop (j+1)) (UE++ [p]) (xL+m)).2)=Pl.iO ps)/\Hid (P'.length+UE.length<=j/\K'.length=P'.length)/\Hid (Rw 399 2 wx wB'.heap.size s7 UE.length (bu UE))/\Hid (NF wA.heap.size wB' gr P' K')/\Hid (Below wA.heap.size wA wB')/\Hid (Below wB'.heap.size wB' wx)/\Hid (ay wx b5 399 [.string (ar p.key),.string (ar p.val)])/\Hid (s7.ownBlock≠some b5))
       case first=>
        cases cl with
        |false=>
         have Uc:(¬((256<size+m\/(256<all/\all/2<=size))/\now≠ [])):=by rintro⟨h1,h2⟩;have h3:0<nn:=zC wM (ie.2 h2);have:=HFB.out;rw[aQ h1]at this;rw[<-this,aQ h3]at CC;cases CC
         go_wp2_with fail;go_meet
         case rel=>
          have yg:=dM.trans (ib.mono dM.size);refine⟨size,now,P,K,wB,rfl,⟨HSI.1,ai _⟩,?_,HLE,?_,HLA,rK,xC.trans (yg.mono xC.size),BB.aa ib BB.lt,?_⟩
          ·have:=HLV.out;rw[wu.out,aj Uc]at this;exact this
          ·rw[wM];have:=HNW.aa yg;rw[wM]at this;exact this
          ·intro e9;have:=(HNW.lt _ (by rw[wM];exact e9)).2;omega
        |true=>
         have anR:((256<size+m\/(256<all/\all/2<=size))/\now≠ []):=by have h1:=CG;rw[oX]at h1;refine⟨jd (HFB.trans h1.1),λe=>?_⟩;have:=jd h1.2;have:=wM;rw[e]at this;simp at this;omega
         have yg:=dM.trans (ib.mono dM.size);have apr:=HNW.aa yg;obtain⟨A7',atr,e7,hc7,ht7,_⟩:=apr.eo;injection e7 with e71 e72 e73;subst e71 e73;obtain⟨vk,vp,vs,hlp⟩:=((HLA.aa xC).aa yg).told;obtain⟨gl,tN⟩:=ze wd.heap.size;obtain⟨wl,hwl⟩:=ze (wd.alloc (.cells #[.slice A7 nn Cg] 346));obtain⟨gs,ui⟩:=ze wl.heap.size;obtain⟨ws,hws⟩:=ze (wl.alloc (.cells #[.iface 343 (.pointer (some ⟨gl,0,none⟩))] 263));have acH:=zb hwl;have abt:=zb hws;have QI:=acH.trans (abt.mono acH.size);have BL:ay ws gl 346 [.slice A7 now.length Cg]:=by
          rw[wM];have:ay wl gl 346 [.slice A7 nn Cg]:=by rw[<-hwl,<-tN];exact ay.new wd 346 _
          exact this.aa abt this.lt
         have HLF:Hid (fZ ws gl now):=⟨A7,Cg,BL,hc7,ht7.aa QI⟩;have T8:Hid (Src ws (some ⟨gs,0,none⟩) [fR gl]):=by rw[<-hws,<-ui];exact Src.dE (ay.new wl 263 _)
         obtain⟨HLP,HPB⟩:=dz (hlp.aa QI) ((BB.aa ib BB.lt).aa QI (BB.aa ib BB.lt).lt);have HPD:=BB.aa ib BB.lt;have alU:=yg.trans (QI.mono yg.size);have yy:Hid (wA.heap.size<=ws.heap.size/\P.length<=500/\K.length<=500):=⟨by have:=rK.size;have:=xC.size;have:=alU.size;omega,by have:=HLE.out;omega,by have:=HLE.out;omega⟩;obtain⟨c0,c1,_,_⟩:=aO (hlp.aC);obtain⟨e0,e1,_,_⟩:=aO HPD;go_wp2_with (first
          |(at_builtin
            refine du Tryz.Yc rfl (.tmp 58) (.tmp 63) rfl rfl HLP.out.ej (some ⟨gs,0,none⟩) 1 1 [fR gl] rfl rfl T8.out (by intro u hu;rw[dU.1 hu];rfl) (zA yy.out.2) yy.out.1 ?_;intro v5 w5 r5 m5;obtain⟨LP5,afK,anK⟩:=kt (HLP.out.aoY HLF.out m5 r5) (m5.only.cY HLP.out.ej.oM HLP.out.aC zj) (m5.only.cY HLP.out.ej.oM HPB.out zj);obtain⟨A5,lX,rfl,_,_,_⟩:=r5.eo;obtain⟨c0,c1,f0,f1⟩:=aO afK.out;obtain⟨w6,nC⟩:=ze (w5.setCell ⟨gr,1,none⟩ (.slice A5 (P.length+1) lX));rw[nC]at LP5;have alj:Hid (ay w6 b5 399 [.string (ar p.key),.string (ar p.val)]):=by rw[Hid,<-nC];exact anK.out.mK (anK.out.ne afK.out zj) _
            obtain⟨k0,k1,h0,h1⟩:=aO LP5.out.aC;obtain⟨e0,e1,_,_⟩:=aO alj.out;have Kt:Hid (Below wA.heap.size ws w6):=by rw[Hid,<-nC];refine(m5.sV HLP.out.ej yy.out.1).setCell ?_ _;show wA.heap.size<=gr;omega
            obtain⟨gk,hgk⟩:=ze w6.heap.size;obtain⟨w7,MI,yM⟩:=zF w6 (.cells #[.string (ar p.key)] 9);have HSK:Hid (Src w7 (some ⟨gk,0,none⟩) (bo [p.key])):=by rw[<-MI,<-hgk];exact DJ w6 p.key
            obtain⟨LP7,aqh⟩:=dz (LP5.out.aa yM) (alj.out.aa yM alj.out.lt);have HL7:Hid (wA.heap.size<=w7.heap.size):=ao yy.out.1 (ao Kt.out.size yM.size);have HO7:=zi (Kt.out.trans (yM.mono (ao yy.out.1 Kt.out.size)));clear r5 m5)
          |(at_builtin
            refine du Tryz.ji rfl (.tmp 67) (.tmp 70) rfl rfl LP7.out.keys (some ⟨gk,0,none⟩) 1 1 (bo [p.key]) rfl rfl HSK.out (fU _) (zA yy.out.2) HL7.out ?_;intro v8 w8 r8 m8;obtain⟨LP8,anW,amt⟩:=kt (LP7.out.key m8 r8) (m8.only.cY LP7.out.keys.oM LP7.out.aC zj) (m8.only.cY LP7.out.keys.oM aqh.out zj);obtain⟨A8,afI,rfl,_,_,_⟩:=r8.eo;obtain⟨c0,c1,f0,f1⟩:=aO anW.out;obtain⟨w9,En⟩:=ze (w8.setCell ⟨gr,0,none⟩ (.slice A8 (K.length+1) afI));rw[En]at LP8;have ara:Hid (ay w9 b5 399 [.string (ar p.key),.string (ar p.val)]):=by rw[Hid,<-En];exact amt.out.mK (amt.out.ne anW.out zj) _
            have HO9:Hid (Below wA.heap.size ws w9):=by rw[Hid,<-En];refine(HO7.out.trans (m8.sV LP7.out.keys HL7.out)).setCell ?_ _;show wA.heap.size<=gr;omega
            clear r8 m8)
          |fail)
         go_meet
         case rel=>
          refine⟨3,[],P++ [now],K++ [p.key],w9,rfl,⟨ai _,HSI.1⟩,?_,?_,Rw.nil _ _,LP8.dm,?_,ak _ _,ara,λe9=>by cases e9⟩
          ·have:=HLV.out;rw[wu.out,ah anR]at this;rw[Hid,<-this];simp
          ·have:=HLE.out;have:=ie.2 anR.2;refine⟨?_,?_⟩
           ·simp;omega
           ·simp;omega
          ·refine rK.trans ?_;refine(xC.mono rK.size).trans ?_;refine(alU.mono (ao rK.size xC.size)).trans HO9
       case rest=>
        obtain⟨xL,UE,P',K',wB',rfl,akW,ati,ajz,asq,aqi,aqr,anH,ajW,ash⟩:=hcut;obtain⟨e0,e1,_,_⟩:=aO ajW;obtain⟨gp,hgp⟩:=ze wc.heap.size;obtain⟨wp,YQ,FK⟩:=zF wc (.cells #[.string (ar p.key),.string (ar p.val)] 399);have HSP:Hid (Src wp (some ⟨gp,0,none⟩) (gQ p)):=by rw[<-YQ,<-hgp];exact pB wc p
        obtain⟨HNP,agJ,Xx⟩:=kt (asq.aa FK) (anH.trans (FK.mono anH.size)) (ajW.aa FK ajW.lt);have HLB:(b5<wB'.heap.size\/wB'.heap.size<=b5):=eJ _ _;go_wp2_with (first
         |(at_builtin
           refine du Tryz.gn rfl (.tmp 73) (.tmp 75) rfl rfl HNP.out (some ⟨gp,0,none⟩) 1 1 (gQ p) rfl rfl HSP.out (by intro u hu;simp only[gQ,cV,je,iU]at hu;rcases hu with rfl|rfl<;>rfl) (zA ajz.out) agJ.out.size ?_;intro v10 pZ r10 m10;obtain⟨asc,aqc,anw⟩:=kt r10 m10 (m10.only.aC Xx.out ash.out);obtain⟨e0,e1,_,_⟩:=aO anw.out;clear r10 m10)
         |fail)
        refine(HP _).mono ?_;rintro e Et ⟨rfl,oJ⟩;have hsm:xL+m<=1000:=zA akW.2;go_wp2_with fail;refine⟨⟨j+1,xL+m,UE++ [p],P',K',wB',zo,by go_num,by go_num,⟨by have:=akW.1;omega,?_⟩,ati,⟨?_,ajz.2⟩,?_,aqi,aqr,?_⟩,by simp[intOf];omega⟩
        ·have:=HPW.out;have:=HSI.2;have:=akW.2;have:=hm;omega
        ·have:=ajz.1;simp;omega
        ·have:=asc.aa oJ;rw[Hid,cZ,ax,dy];have e9:bu [p]=gQ p:=by simp[bu]
         rw[e9];exact this
        ·have h1:=aqc.sV HNP agJ.size;exact(agJ.trans h1).trans (oJ.mono (ao agJ.size h1.size))
    ·obtain rfl:j=k:=zo;obtain⟨A7,Cg,rfl,hc7,ht7,_⟩:=HNW.eo;obtain⟨nn,wM⟩:=ze now.length;rw[wM];obtain⟨vk,vp,vs,hlp⟩:=(HLA.aa xC).told;obtain⟨gl,tN⟩:=ze wr.heap.size;obtain⟨wl,hwl⟩:=ze (wr.alloc (.cells #[.slice A7 nn Cg] 346));obtain⟨gs,ui⟩:=ze wl.heap.size;obtain⟨ws,hws⟩:=ze (wl.alloc (.cells #[.iface 343 (.pointer (some ⟨gl,0,none⟩))] 263));have acH:=zb hwl;have abt:=zb hws;have QI:=acH.trans (abt.mono acH.size);have BL:ay ws gl 346 [.slice A7 now.length Cg]:=by
      rw[wM];have:ay wl gl 346 [.slice A7 nn Cg]:=by rw[<-hwl,<-tN];exact ay.new wr 346 _
      exact this.aa abt this.lt
     have HLF:Hid (fZ ws gl now):=⟨A7,Cg,BL,hc7,ht7.aa QI⟩;have T8:Hid (Src ws (some ⟨gs,0,none⟩) [fR gl]):=by rw[<-hws,<-ui];exact Src.dE (ay.new wl 263 _)
     have HLP:=zi (hlp.aa QI);have fj:=(rK.trans (xC.mono rK.size)).trans (QI.mono (ao rK.size xC.size));have U9:=zi fj;have yy:Hid (wA.heap.size<=ws.heap.size/\P.length<=500):=⟨fj.size,by have:=HLE.out;omega⟩;obtain⟨c0,c1,_,_⟩:=aO (hlp.aC);obtain⟨x0,x1,_,_⟩:=aO (HX2.aa (rK.trans (xC.mono rK.size)) HX2.lt);have HXS:=zi (HX2.aa fj HX2.lt);have akr:Hid (Pl.iO ps=(P++ [now],K)):=by have:=HLV.out;rw[ub (by rw[HN.out];exact ai _),Pl.lv]at this;rw[Hid,<-this,dH]
     clear fj;go_wp2_with (first
      |(at_builtin
        refine du Tryz.Yc rfl (.tmp 83) (.tmp 88) rfl rfl HLP.out.ej (some ⟨gs,0,none⟩) 1 1 [fR gl] rfl rfl T8.out (by intro u hu;rw[dU.1 hu];rfl) (zA yy.out.2) yy.out.1 ?_;intro v5 w5 r5 m5;obtain⟨LP5,afK,HX5⟩:=kt (HLP.out.aoY HLF.out m5 r5) (m5.only.cY HLP.out.ej.oM HLP.out.aC zj) (m5.only.cY HLP.out.ej.oM HXS.out zj);obtain⟨A5,lX,rfl,_,_,_⟩:=r5.eo;obtain⟨c0,c1,f0,f1⟩:=aO afK.out;obtain⟨w6,nC⟩:=ze (w5.setCell ⟨gr,1,none⟩ (.slice A5 (P.length+1) lX));rw[nC]at LP5;have HX6:Hid (ay w6 gx 421 [.slice none 0 0,.slice none 0 0]):=by rw[Hid,<-nC];refine HX5.out.mK ?_ _;show gx≠gr;have:=anY.out;omega
        obtain⟨Ak,amv,ek,_,_,_⟩:=LP5.out.keys.eo;subst ek;obtain⟨k0,k1,h0,h1⟩:=aO LP5.out.aC;obtain⟨y0,y1,z0,z1⟩:=aO HX6.out;have Kt:Hid (Below wA.heap.size ws w6):=by rw[Hid,<-nC];refine(m5.sV HLP.out.ej yy.out.1).setCell ?_ _;show wA.heap.size<=gr;omega
        clear r5 m5)
      |fail)
     have Ui:=HX6.out;have ho:ag (·=gx) w6 ((w6.setCell ⟨gx,0,none⟩ (Value.slice Ak K.length amv)).setCell ⟨gx,1,none⟩ (Value.slice A5 (P.length+1) lX)):=
      ((ag.refl (·=gx) w6).zs 0).zs 1
     refine bH (v:= .agg #[Value.slice Ak K.length amv,Value.slice A5 (P.length+1) lX]) (jj rfl rfl ((Ui.bw 0 _).bw 1 _)) rfl ⟨_,rfl,?_,?_⟩
     ·show iQ _ G 0 _ (Pl.iO ps);rw[akr.out];exact(LP5.row G).only ho (aD Ui) zj zj
     ·have h1:=(Am.trans (U9.mono Am.size)).trans (Kt.mono Am.size);have h2:=ho.cW (B:=w.heap.size) h1.size (λk hk e=>by have:=Rk;omega)
      first
       |exact h1.trans h2
       |(rw[<-Rk]at h2|-;exact h1.trans h2)
       |(rw[Rk]at h1 h2;exact h1.trans h2)
theorem dn.Jk(h:dn w A cs t)(hne:cs≠ []):∃b off,A=some ⟨b,off,none⟩:=by
 rcases h.1 with h1|⟨b,off,e,_⟩
 ·grind
 grind
theorem dn.nil(w:World)(t:TypeId):dn w none [] t:=⟨.inl rfl,zu⟩
theorem Src.anF{b off:Nat}(h:Src w (some ⟨b,off,none⟩) cs)(k:Nat):Src w (some ⟨b,off+k,none⟩) (cs.drop k):=by
 rcases h with h|⟨b',Lb,e,h⟩
 ·exact .inl (by rw[h];exact List.drop_nil)
 ·injection e with e;injection e with e1 e2;subst e1 e2;exact .inr ⟨b,off+k,rfl,λj u hu=>by
   rw[lO]at hu;have:=h _ u hu;rw[ew];exact this⟩
theorem dn.take{w:World}{A:Option Addr}{cs:List Value}{t:TypeId}(h:dn w A cs t)(n:Nat):dn w A (cs.take n) t:=⟨h.1.take n,h.2⟩
theorem dn.drop{b off:Nat}(h:dn w (some ⟨b,off,none⟩) cs t)(k:Nat):dn w (some ⟨b,off+k,none⟩) (cs.drop k) t:=⟨h.1.anF k,λp hp=>by injection hp with hp;subst hp;exact h.2 ⟨b,off,none⟩ rfl⟩
theorem EW{w2 w3 w4:World}(h:dP w w2)(k:dP w2 w3)(hg:w.heap.size=gx)(ho:ag (·=gx) w3 w4):dP w w4/\Below gx w w4:=by
 have h1:=h.trans (k.mono h.size);have h2:=h1.trans (ho.cW h1.size (λk hk e=>by omega))
 grind
theorem adm{all half dm:Nat}(hx:ks[k]?=some x):
 Pl.cut all (ks.drop k) k half dm=if all/2<=half+(5+x.length)then(if 0<k then k else dm)else Pl.cut all (ks.drop (k+1)) (k+1) (half+(5+x.length)) (if 0<k then k else dm):=by
 obtain⟨hlt,rfl⟩:=cR.1 hx;rw[fT hlt,Pl.cut]
theorem Zd(hx:ks[k]?=some x):Pl.kT ks (k+1)=Pl.kT ks k+(5+x.length):=by unfold Pl.kT;rw[eK,hx,gH,List.sum_append];simp
theorem ahb(ks:List Pl.Key)(k:Nat):Pl.kT ks k+6<=Pl.lD ks:=by have:=FX ks k;have e:Pl.lD (ks.take k)=6+Pl.kT ks k:=rfl;omega
theorem JO(A A':Option Addr)(aB cap':Nat)(ks:List Pl.Key)(rs:List Nat)(h:Nat)(cs:List (Pl.Tr h))(w:World)(G:Gh)(hk:dn w A (bo ks) 9)(hr:dn w A' (aS rs) 160)(hc:ks.length<=aB)(hc':rs.length<=cap')
 (hl:rs.length=cs.length) (Sa:cs.length=ks.length+1) (hG:∀(i r:Nat) (c:Pl.Tr h),rs[i]?=some r->cs[i]?=some c->G r=some ⟨h,c⟩) (hsz:Pl.lD ks<=420) (tE:∀k∈ks,k.length<=40):
 bG 335 #[.slice A ks.length aB,.slice A' rs.length cap'] w λe w'=>∃rv,e= .returned rv/\iQ w' G (h+1) rv (Pl.fD ks cs)/\dP w w':=by
 obtain⟨n,hn⟩:=ze ks.length;have bU:=jr ks;have afF:n<=500:=zo;have s9:rs.length=n+1:=zo;obtain⟨w1,dj,aI⟩:=zF w (.cells #[.slice none 0 0,.slice none 0 0] 421);have B1:ay w1 w.heap.size 421 [.slice none 0 0,.slice none 0 0]:=by rw[<-dj];exact ay.new w 421 _
 obtain⟨gx,hgx⟩:=ze w.heap.size;rw[hgx]at B1;obtain⟨gi,hgi⟩:=ze w1.heap.size;obtain⟨w2,iA,bz⟩:=zF w1 (.cells #[.slice A n aB,.slice A' (n+1) cap'] 383);have B2:ay w2 gi 383 [.slice A ks.length aB,.slice A' rs.length cap']:=by rw[hn,s9,<-iA,<-hgi];exact ay.new w1 383 _
 have eC:=aI.trans (bz.mono aI.size);have hi2:dZ w2 gi ks rs:=⟨A,aB,A',cap',B2,hc,hc',hk.aa eC,hr.aa eC⟩;obtain⟨GX,HX,Rk,HK,HR,HIS⟩:=zh6 (Ll gi ks rs w2 hi2 zo) (B1.aa bz B1.lt) hgx (hk.aa eC) (hr.aa eC) hsz;have CG:Hid (cs.length=n+1/\n<=aB/\n+1<=cap'):=⟨zo,zo,zo⟩;have hlt:Hid (gx<gi):=by have:=B1.lt;rw[Hid];omega
 rw[hn,s9];obtain⟨sz,hsz'⟩:=ze (Pl.lD ks);rw[hsz']at GX hsz;clear hk hr aI bz B1 B2 bU hc hc' hl Sa;by_cases hs:sz<=256
 ·have q1:(sz:Int)<=256:=zo;have HS:=zi hs;obtain⟨gs,ui⟩:=ze w2.heap.size;obtain⟨w3,fX,bg⟩:=zF w2 (.cells #[.iface 377 (.pointer (some ⟨gi,0,none⟩))] 263);have Je:Hid (dn w3 (some ⟨gs,0,none⟩) [eG gi] 263):=⟨by rw[<-fX,<-ui];exact Src.dE (ay.new w2 263 _),λp hp=>by injection hp with hp;subst hp;rw[<-fX,<-ui];exact(ay.new w2 263 _).dV⟩;have HX3:=zi (HX.aa bg HX.lt);obtain⟨c0,c1,f0,f1⟩:=aO HX3;go_enter Tryz.func335,Tryz.ntmps335;go_wp2_with fail;refine GX.mono ?_;rintro e w4 ⟨rfl,rfl⟩;go_wp2_with fail;have ho:ag (·=gx) w3 ((w3.setCell ⟨gx,0,none⟩ (Value.slice none 0 0)).setCell ⟨gx,1,none⟩ (Value.slice (some ⟨gs,0,none⟩) 1 1)):=
   ((ag.refl (·=gx) w3).zs 0).zs 1
  have Gx:=aD HX3;have jN:=EW eC bg Rk ho;refine bH (v:= .agg #[Value.slice none 0 0,Value.slice (some ⟨gs,0,none⟩) 1 1]) (jj rfl rfl ((HX3.bw 0 _).bw 1 _)) rfl ⟨_,rfl,?_,by first|exact jN.1|exact jN.2⟩;have hir:Pl.fD ks cs=(([((ks,cs):List Pl.Key×List (Pl.Tr h))],[]):Pl.Row (h+1)):=by unfold Pl.fD Pl.ml;rw[ah (by rw[hsz'];exact HS.out)];rfl
  rw[hir];have yl:fN w3 G (eG gi) (h+1) ((ks,cs):List Pl.Key×List (Pl.Tr h)) none:=⟨rs,⟨gi,rfl,hi2.aa bg⟩,by have:=s9;have:=CG.1;show rs.length=cs.length;omega,hG,λs hs=>by cases hs⟩;refine⟨none,0,some ⟨gs,0,none⟩,1,[eG gi],rfl,ai _,ai _,dn.nil _ _,Je.only ho Gx zj,rfl,λi v t hv ht=>?_⟩;cases i with
  |zero=>
   obtain rfl:eG gi=v:=by simpa using hv
   have Ek:some ((ks,cs):List Pl.Key×List (Pl.Tr h))=some t:=ht;injection Ek with Ek;subst Ek;exact yl.only ho Gx zj
  |succ i=>simp at hv
 ·have q1:¬(sz:Int)<=256:=zo;obtain⟨s1,s2,s3,s4⟩:=Pl.AD tE (by rw[hsz'];omega) (by rw[hsz'];omega);obtain⟨c,hc⟩:=ze (Pl.cutAt ks);rw[hc,hn]at s2;rw[hc]at s1;have HIR:Hid (Pl.fD ks cs=(([(ks.take c,cs.take (c+1)),(ks.drop (c+1),cs.drop (c+1))],(ks.drop c).take 1):Pl.Row (h+1))):=by rw[Hid];unfold Pl.fD Pl.ml;rw[aj (by rw[hsz'];omega),hc];rfl
  have HC0:Hid (Pl.cut sz ks.dropLast 0 0 1=c):=by rw[Hid,<-hsz',<-hc];rfl
  have HDL:Hid (ks.dropLast.length=n-1):=by rw[Hid,List.length_dropLast,hn]
  have uc:((n:Int)-1)=((n-1:Nat):Int):=zo;have atn:((n-1:Nat):Int)<=(aB:Int):=zA CG.2.1;clear hc s3 s4;obtain⟨b0,o0,hA⟩:=HK.Jk (by
   intro e;have:(bo ks).length=n:=by unfold bo;rw[eT,hn]
   rw[e]at this;simp at this;omega)
  subst hA;go_enter Tryz.func335,Tryz.ntmps335;go_wp2_with fail;refine GX.mono ?_;rintro e w4 ⟨rfl,rfl⟩
  go_upto_block 0 with fail
  go_cut [7]from 6 (λs7 wx=>s7= .int .i64 (c:Nat)/\w2=wx)
  case first=>
   go_wp2_with fail
   go_loop [6,7,29] (λhv av i=>∃k half dm:Nat,k<=n-1/\i= .int .i64 (k:Int)/\hv= .int .i64 (half:Nat)/\av= .int .i64 (dm:Nat)/\Hid (half=Pl.kT ks k)/\Hid (Pl.cut sz (ks.dropLast.drop k) k half dm=c)) (λ_ _ i=>n-1-(intOf i).toNat)
   case atStart=>exact⟨0,0,1,aM _,rfl,rfl,rfl,(Pl.uj ks).symm,HC0⟩
   case round=>
    obtain⟨k,half,dm,hk,rfl,rfl,rfl,HH,HCU⟩:=hrel;by_cases pX:k<n-1
    ·have q2:(k:Int)<((n-1:Nat):Int):=zo;obtain⟨x,hx⟩:∃x,ks[k]?=some x:=⟨_,aF (by rw[hn];omega)⟩;have hx':ks.dropLast[k]?=some x:=by rw[List.getElem?_dropLast,hn,ah pX,hx]
     have g0:=HK.1.cell _ _ (vJ hx);have PL:Hid _:=adm (all:=sz) (half:=half) (dm:=dm) hx';have HCS:Hid _:=Zd hx;have hle:=ahb ks (k+1);have asu:=tE x (bO hx);obtain⟨sx,Gn⟩:=ze (ar x);have hxs:sx.size=x.length:=by rw[<-Gn];exact bK x
     rw[Gn]at g0;obtain⟨xl,ZA⟩:=ze x.length;rw[ZA]at hxs PL HCS asu;have qA:half+(5+xl)<=1000:=zD HCS.out HH.out HIS.out;have t1:(sz:Int).tdiv 2=((sz/2:Nat):Int):=(Int.ofNat_tdiv sz 2).symm;obtain⟨a2,ha2⟩:=ze (sz/2);have atD:a2<=1000:=zo;rw[ha2]at t1 PL;clear hx hx' hle Gn ZA ha2;by_cases h0:0<k
     ·have q3:(0:Int)<(k:Int):=zo;rw[ah h0]at PL;by_cases hh:a2<=half+(5+xl)
      ·have q4:(a2:Int)<=(half:Int)+(5+(xl:Int)):=zo;have HE:Hid (k=c):=by have:=PL.out;rw[ah hh,HCU.out]at this;exact this.symm
       clear PL;go_wp2_with fail;refine(GX).mono ?_;rintro e w4 ⟨rfl,rfl⟩;go_wp2_with fail;go_meet
       case rel=>exact⟨by rw[<-HE.out],rfl⟩
      ·have q4:¬(a2:Int)<=(half:Int)+(5+(xl:Int)):=zo;have HE:Hid (Pl.cut sz (ks.dropLast.drop (k+1)) (k+1) (half+(5+xl)) k=c):=by have:=PL.out;rw[aj hh,HCU.out]at this;exact this.symm
       clear PL;go_wp2_with fail;refine(GX).mono ?_;rintro e w4 ⟨rfl,rfl⟩;go_wp2_with fail
       go_round
       case rel=>exact⟨k+1,half+(5+xl),k,zo,zu,zu,rfl,by rw[Hid,HCS.out,<-HH.out],HE⟩
       case measure=>simp[intOf];omega
     ·have q3:¬(0:Int)<(k:Int):=zo;rw[aj h0]at PL;by_cases hh:a2<=half+(5+xl)
      ·have q4:(a2:Int)<=(half:Int)+(5+(xl:Int)):=zo;have HE:Hid (dm=c):=by have:=PL.out;rw[ah hh,HCU.out]at this;exact this.symm
       clear PL;go_wp2_with fail;refine(GX).mono ?_;rintro e w4 ⟨rfl,rfl⟩;go_wp2_with fail;go_meet
       case rel=>exact⟨by rw[<-HE.out],rfl⟩
      ·have q4:¬(a2:Int)<=(half:Int)+(5+(xl:Int)):=zo;have HE:Hid (Pl.cut sz (ks.dropLast.drop (k+1)) (k+1) (half+(5+xl)) dm=c):=by have:=PL.out;rw[aj hh,HCU.out]at this;exact this.symm
       clear PL;go_wp2_with fail;refine(GX).mono ?_;rintro e w4 ⟨rfl,rfl⟩;go_wp2_with fail
       go_round
       case rel=>exact⟨k+1,half+(5+xl),dm,zo,zu,zu,rfl,by rw[Hid,HCS.out,<-HH.out],HE⟩
       case measure=>simp[intOf];omega
    ·obtain rfl:k=n-1:=zo;have HE:Hid (dm=c):=by have:=HCU.out;rw[ub (by rw[HDL.out];exact ai _),Pl.cut]at this;exact this
     go_wp2_with fail;go_meet
     case rel=>exact⟨by rw[<-HE.out],rfl⟩
  case rest=>
   obtain⟨rfl,hww⟩:=hcut;subst hww;have k1:(c:Int)<=(n:Int):=zo;have k2:(c:Int)<=(aB:Int):=zA CG.2.1;have k3:(c:Int)+1<=(cap':Int):=zA CG.2.2;have k4:(c:Int)+1<=(n:Int):=zo;have k5:(c:Int)+1<=((n+1:Nat):Int):=zo;obtain⟨b1,o1,hA'⟩:=HR.Jk (by
    intro e;have:(aS rs).length=n+1:=by unfold aS;rw[eT,s9]
    rw[e]at this;simp at this)
   subst hA';go_wp2_with fail
   go_region
   obtain⟨ga,hga⟩:=ze w2.heap.size;obtain⟨wa,EH⟩:=ze ((w2.alloc (.cells #[.slice (some ⟨b0,o0,none⟩) c c,.slice (some ⟨b1,o1,none⟩) (c+1) (c+1)] 383)).drew);have yH:Below w2.heap.size w2 wa:=by rw[<-EH];exact(za _ _).drew
   have BA:ay wa ga 383 [.slice (some ⟨b0,o0,none⟩) c c,.slice (some ⟨b1,o1,none⟩) (c+1) (c+1)]:=by rw[<-EH,<-hga];exact(ay.new w2 383 _).drew
   rw[EH,hga];have k6:(c:Int)+1<=(n:Int)+1:=zo;have k7:¬aB=c+1:=zA CG.2.1;have k8:¬cap'=c+1:=zA CG.2.2;have k9:(n:Int)<=(aB:Int):=zA CG.2.1;have k11:(n:Int)+1<=(cap':Int):=zA CG.2.2;go_wp2_with fail
   go_region
   obtain⟨gb,pO⟩:=ze wa.heap.size;obtain⟨wb,p9⟩:=ze ((wa.alloc (.cells #[.slice (some ⟨b0,o0+(c+1),none⟩) (n-(c+1)) (aB-(c+1)),.slice (some ⟨b1,o1+(c+1),none⟩) (n-c) (cap'-(c+1))] 383)).drew);have dM:Below wa.heap.size wa wb:=by rw[<-p9];exact(za _ _).drew
   have BB:ay wb gb 383 [.slice (some ⟨b0,o0+(c+1),none⟩) (n-(c+1)) (aB-(c+1)),.slice (some ⟨b1,o1+(c+1),none⟩) (n-c) (cap'-(c+1))]:=by rw[<-p9,<-pO];exact(ay.new wa 383 _).drew
   have UZ:=yH.trans (dM.mono yH.size);have aqa:ks.length=n:=hn;have IA:dZ wb ga (ks.take c) (rs.take (c+1)):=by
    refine⟨some ⟨b0,o0,none⟩,c,some ⟨b1,o1,none⟩,c+1,?_,?_,?_,?_,?_⟩
    ·rw[aP,aP,dt zo,dt (zA s9)];exact BA.aa dM BA.lt
    ·rw[aP];omega
    ·rw[aP];omega
    ·have:=(HK.aa UZ).take c;unfold bo at this|-
     rw[qR];exact this
    ·have:=(HR.aa UZ).take (c+1);unfold aS at this|-
     rw[qR];exact this
   have IB:dZ wb gb (ks.drop (c+1)) (rs.drop (c+1)):=by
    refine⟨some ⟨b0,o0+(c+1),none⟩,aB-(c+1),some ⟨b1,o1+(c+1),none⟩,cap'-(c+1),?_,?_,?_,?_,?_⟩
    ·rw[bT,bT,hn,s9,show n+1-(c+1)=n-c by omega];exact BB
    ·rw[bT,hn];have:=CG.2.1;omega
    ·rw[bT,s9];have:=CG.2.2;omega
    ·have:=(HK.aa UZ).drop (c+1);unfold bo at this|-
     rw[vw];exact this
    ·have:=(HR.aa UZ).drop (c+1);unfold aS at this|-
     rw[vw];exact this
   have HPA:Hid (fN wb G (eG ga) (h+1) ((ks.take c,cs.take (c+1)):List Pl.Key×List (Pl.Tr h)) none):=by
    refine⟨rs.take (c+1),⟨ga,rfl,IA⟩,?_,λi r t hr ht=>?_,λs hs=>by cases hs⟩
    ·show(rs.take (c+1)).length=(cs.take (c+1)).length;rw[aP,aP,s9,CG.1]
    ·have Ek:(cs.take (c+1))[i]?=some t:=ht;rcases eJ i (c+1)with hi|hi
     ·rw[AE hi]at hr Ek;exact hG i r t hr Ek
     ·rw[oK (by rw[aP];omega)]at hr;cases hr
   have HPB:Hid (fN wb G (eG gb) (h+1) ((ks.drop (c+1),cs.drop (c+1)):List Pl.Key×List (Pl.Tr h)) none):=by
    refine⟨rs.drop (c+1),⟨gb,rfl,IB⟩,?_,λi r t hr ht=>?_,λs hs=>by cases hs⟩
    ·show(rs.drop (c+1)).length=(cs.drop (c+1)).length;rw[bT,bT,s9,CG.1]
    ·have Ek:(cs.drop (c+1))[i]?=some t:=ht;rw[lO]at hr Ek;exact hG _ r t hr Ek
   obtain⟨x,hx⟩:∃x,ks[c]?=some x:=⟨_,aF zo⟩;have g0:=(HK.aa UZ).1.cell _ _ (vJ hx);rw[p9,pO];clear IA IB BB dM aqa;obtain⟨g1,nY⟩:=ze wb.heap.size;obtain⟨wk,hwk⟩:=ze (wb.alloc (.cells #[.string (ar x)] 9));obtain⟨g2,rQ⟩:=ze wk.heap.size;obtain⟨wp,YQ⟩:=ze (wk.alloc (.cells #[.iface 377 (.pointer (some ⟨ga,0,none⟩)),.iface 377 (.pointer (some ⟨gb,0,none⟩))] 263));have jM:=zb hwk;have FK:=zb YQ;obtain⟨HBP,amX⟩:=dz (UZ.trans ((jM.trans (FK.mono jM.size)).mono UZ.size)) (jM.trans (FK.mono jM.size));have PA:Hid (dn wp (some ⟨g1,0,none⟩) (bo [x]) 9):=by have:dn wk (some ⟨g1,0,none⟩) (bo [x]) 9:=⟨by rw[<-hwk,<-nY];exact DJ wb x,λp hp=>by injection hp with hp;subst hp;rw[<-hwk,<-nY];exact(ay.new wb 9 _).dV⟩;exact this.aa FK
   have HTP:Hid (dn wp (some ⟨g2,0,none⟩) [eG ga,eG gb] 263):=⟨by rw[<-YQ,<-rQ];exact Src.dE (ay.new wk 263 _),λp hp=>by injection hp with hp;subst hp;rw[<-YQ,<-rQ];exact(ay.new wk 263 _).dV⟩;have HX3:=zi (HX.aa HBP HX.lt);obtain⟨c0,c1,f0,f1⟩:=aO HX3;clear jM FK;go_wp2_with fail;have ho:ag (·=gx) wp ((wp.setCell ⟨gx,0,none⟩ (Value.slice (some ⟨g1,0,none⟩) 1 1)).setCell ⟨gx,1,none⟩ (Value.slice (some ⟨g2,0,none⟩) 2 2)):=
    ((ag.refl (·=gx) wp).zs 0).zs 1
   have Gx:=aD HX3;have jN:=EW eC HBP Rk ho;refine bH (v:= .agg #[Value.slice (some ⟨g1,0,none⟩) 1 1,Value.slice (some ⟨g2,0,none⟩) 2 2]) (jj rfl rfl ((HX3.bw 0 _).bw 1 _)) rfl ⟨_,rfl,?_,by first|exact jN.1|exact jN.2⟩;have vL:(ks.drop c).take 1=[x]:=by obtain⟨hlt,e⟩:=cR.1 hx;rw[fT hlt,e];rfl
   rw[HIR.out,vL];refine⟨some ⟨g1,0,none⟩,1,some ⟨g2,0,none⟩,2,[eG ga,eG gb],rfl,ai _,ai _,PA.only ho Gx zj,HTP.only ho Gx zj,rfl,λi v t hv ht=>?_⟩
   match i,hv,ht with
   |0,hv,ht=>
    obtain rfl:eG ga=v:=by simpa using hv
    have Ek:some ((ks.take c,cs.take (c+1)):List Pl.Key×List (Pl.Tr h))=some t:=ht;injection Ek with Ek;subst Ek;exact(HPA.only (ag.ae amX (λ_=>False)) (gG _) zu).only ho Gx zj
   |1,hv,ht=>
    obtain rfl:eG gb=v:=by simpa using hv
    have Ek:some ((ks.drop (c+1),cs.drop (c+1)):List Pl.Key×List (Pl.Tr h))=some t:=ht;injection Ek with Ek;subst Ek;exact(HPB.only (ag.ae amX (λ_=>False)) (gG _) zu).only ho Gx zj
   |i+2,hv,_=>simp at hv
theorem Inv.refs{w1:World}{D:Nat->Option (List UInt8)}{S:List Nat}(hi:Inv w G D n S)(hb:dP w w1){rs:List Nat}{ts:List (Pl.Tr h)}
 (s9:rs.length=ts.length) (PD:vs.length=ts.length) (hup:rs.Pairwise (·<·)) (fu:∀r∈rs,w.heap.size<=r) (hR:∀(i r:Nat) (v:Value),rs[i]?=some r->vs[i]?=some v->cX w1 r 0 v)
 (hP:∀(i:Nat) (v:Value) (t:Pl.Tr h),vs[i]?=some v->ts[i]?=some t->fN w G v h t none):
 Inv w1 (G.kids w.heap.size h rs ts) D n S/\Ext G (G.kids w.heap.size h rs ts)/\∀(i r:Nat) (c:Pl.Tr h),rs[i]?=some r->ts[i]?=some c->G.kids w.heap.size h rs ts r=some ⟨h,c⟩:=by
 have hx:Ext G (G.kids w.heap.size h rs ts):=λk x hk=>by unfold Gh.kids;rw[ah (hi.lt hk)];exact hk
 refine⟨λk h' t' hk=>?_,hx,λi r c hr hc=>?_⟩
 ·unfold Gh.kids at hk;by_cases hl:k<w.heap.size
  ·rw[ah hl]at hk;exact(hi k h' t' hk).aa hb hx
  ·rw[aj hl]at hk;split at hk
   ·next p hp=>
    injection hk with hk;injection hk with e1 e2;subst e1;obtain rfl:=qQ e2;obtain⟨_,i,h2,h3⟩:=Ho hp;obtain⟨hlt,_⟩:=cR.1 h3;obtain⟨v,hv⟩:∃v,vs[i]?=some v:=zS;exact .inl ⟨v,zw,(hP i v _ hv h3).Ir (.ae hb) hx⟩
   grind
 ·unfold Gh.kids;rw[aj (zA (fu r zw)),Iw hup hr hc]
theorem fN.aa{t:Pl.Tr h}(hp:fN w G v h t none)(hb:dP w w'):fN w' G v h t none:=hp.Ir (.ae hb) (Ext.refl G)
theorem aba(rs:List Nat)(r:Nat):aS (rs++ [r])=aS rs++aS [r]:=by unfold aS;simp
def Made(w0 w:World)(vs:List Value)(k:Nat)(rs:List Nat):Prop:=
 rs.length=k/\rs.Pairwise (·<·)/\(∀r∈rs,w0.heap.size<=r/\r<w.heap.size)/\∀(i r:Nat) (v:Value),rs[i]?=some r->vs[i]?=some v->cX w r 0 v
theorem QM(B:Option Addr)(cb h:Nat)(vs:List Value)(ts:List (Pl.Tr h))(w:World)(G:Gh)(hs:dn w B vs 263)(PD:vs.length=ts.length)(hn:ts.length<=1000)
 (hP:∀(i:Nat) (v:Value) (t:Pl.Tr h),vs[i]?=some v->ts[i]?=some t->fN w G v h t none):
 bG 325 #[.slice B ts.length cb] w λe w'=>∃v rs,e= .returned v/\Rw 160 1 w' w.heap.size v rs.length (aS rs)/\Made w w' vs ts.length rs/\dP w w':=by
 obtain⟨n,GH⟩:=ze ts.length;rw[GH]at PD hn|-
 go_enter Tryz.func325,Tryz.ntmps325;go_wp2_with fail
 go_loopw [3,8] (λov i wr=>∃(k:Nat) (rs:List Nat),k<=n/\i= .int .i64 (k:Int)/\Hid (Rw 160 1 wr w.heap.size ov k (aS rs))/\Hid (Made w wr vs k rs)/\Hid (Below w.heap.size w wr)) (λ_ i _=>n-(intOf i).toNat)
 case atStart=>exact⟨0,[],aM _,rfl,Rw.nil _ _,⟨rfl,List.Pairwise.nil,(λr hr=>by cases hr),λi r v hr _=>by simp at hr⟩,ak _ _⟩
 case round=>
  obtain⟨k,rs,hk,rfl,HR,HM,HB⟩:=hrel;by_cases pX:k<n
  ·have q1:(k:Int)<(n:Int):=zo;obtain⟨v,hv⟩:∃v,vs[k]?=some v:=⟨_,aF (by rw[PD];exact pX)⟩;obtain⟨t,ht⟩:∃t,ts[k]?=some t:=⟨_,aF (by rw[GH];exact pX)⟩;obtain⟨T,b,rfl⟩:=(hP k v t hv ht).form h t none;obtain⟨b2,off,rfl,g0⟩:=(hs.aa HB).1.dm _ _ hv;have HV:=zi hv;obtain⟨gr,YA⟩:=ze wr.heap.size;obtain⟨w1,dj⟩:=ze (wr.alloc (.cells #[.int .i64 0,.iface T (.pointer (some ⟨b,0,none⟩))] 265));obtain⟨gs,ui⟩:=ze w1.heap.size;obtain⟨w2,iA⟩:=ze (w1.alloc (.cells #[.pointer (some ⟨gr,0,none⟩)] 160));have aI:=zb dj;have bz:=zb iA;have eC:=aI.trans (bz.mono aI.size);have BR:cX w2 gr 0 (.iface T (.pointer (some ⟨b,0,none⟩))):=by
    have:cX w1 gr 0 (.iface T (.pointer (some ⟨b,0,none⟩))):=by rw[<-dj,<-YA];exact ay.new wr 265 _
    exact this.aa bz this.lt
   have sZ:Hid (Src w2 (some ⟨gs,0,none⟩) (aS [gr])):=by rw[<-iA,<-ui];exact Pc w1 gr
   obtain⟨CQ,eY⟩:=dz (HR.aa eC) (HB.trans (eC.mono HB.size));have GX:Hid (gr<w2.heap.size/\wr.heap.size=gr):=⟨BR.lt,YA⟩;have HL:Hid (w.heap.size<=w2.heap.size):=eY.size;have HM2:Hid (∀r∈rs,w.heap.size<=r/\r<gr):=λr hr=>by have:=HM.2.2.1 r hr;omega
   have HM3:Hid (∀(i r:Nat) (v:Value),rs[i]?=some r->vs[i]?=some v->cX w2 r 0 v):=λi r v h1 h2=>by have:=HM.2.2.2 i r v h1 h2;exact this.aa eC this.lt
   have xC:Hid (w.heap.size<=gr):=by rw[Hid,<-YA];exact HB.size
   clear hv ht aI bz eC;go_wp2_with (first
    |(at_builtin
      refine du Tryz.ou rfl (.tmp 12) (.tmp 16) rfl rfl CQ.out (some ⟨gs,0,none⟩) 1 1 (aS [gr]) rfl rfl sZ.out (eM _) zo HL.out ?_;intro v3 w3 r3 m3;obtain⟨Wu,HM4⟩:=dz r3 m3;clear r3 m3)
    |fail)
   have ho:=HM4.only;have yX:=CQ.oM;have bQ:∀(r:Nat) (v:Value),cX w2 r 0 v->cX w3 r 0 v:=λr v hr=>ho.cY yX hr zj;refine⟨⟨k+1,rs++ [gr],zo,by go_num,by rw[Hid,aba];exact Wu,⟨?_,?_,?_,?_⟩,eY.trans (HM4.sV CQ HL)⟩,by simp[intOf];omega⟩
   ·rw[ax,HM.1];rfl
   ·exact fS.2 ⟨HM.2.1,List.pairwise_singleton _ _,λx hx y hy=>by rw[dU.1 hy];exact(HM2 x hx).2⟩
   ·intro r hr;have:=ho.size;have:=GX.out;rcases eQ.1 hr with hr|hr
    ·have:=HM2.out r hr;omega
    ·rw[dU.1 hr];have:=xC.out;omega
   ·intro i r v hr hv;rcases eJ i k with hi|hi
    ·rw[kc (by rw[HM.1];exact hi)]at hr;exact bQ _ _ (HM3 i r v hr hv)
    ·rw[iI (by rw[HM.1];exact hi),HM.1]at hr;have yW:i=k:=by
      rcases eJ (i-k) 1 with h4|h4
      ·omega
      ·rw[oK (by simpa using h4)]at hr;cases hr
     subst yW;rw[jT]at hr;obtain rfl:gr=r:=by simpa using hr
     rw[HV.out]at hv;injection hv with hv;rw[<-hv];exact bQ _ _ BR
  ·obtain rfl:k=n:=zo;go_wp2_with fail;go_ret;exact⟨_,rs,rfl,by rw[HM.1];exact HR,HM,HB⟩
theorem WI(a b:List Pl.Pr):Pl.j5 (a++b)+3=Pl.j5 a+Pl.j5 b:=by simp[Pl.j5];omega
theorem dn.drew{w:World}{A:Option Addr}{cs:List Value}{t:TypeId}(h:dn w A cs t):dn w.drew A cs t:=h.aa ((ak _ _).drew)
theorem mo{u0 u1 x y:Value}(hX:ay w gx 421 [x,y])(hr:iQ w G h (.agg #[u0,u1]) r):iQ ((w.setCell ⟨gx,0,none⟩ u0).setCell ⟨gx,1,none⟩ u1) G h (.agg #[u0,u1]) r:=
 hr.only (((ag.refl (·=gx) w).setCell (p:=⟨gx,0,none⟩) zu _).setCell (p:=⟨gx,1,none⟩) zu _) (aD hX) zj zj
theorem Lx{w4:World}(h:dP w w4)(hg:w.heap.size=gx)(u0 u1:Value):dP w ((w4.setCell ⟨gx,0,none⟩ u0).setCell ⟨gx,1,none⟩ u1)/\Below gx w ((w4.setCell ⟨gx,0,none⟩ u0).setCell ⟨gx,1,none⟩ u1):=
 EW h (ak _ _) hg (((ag.refl (·=gx) w4).setCell (p:=⟨gx,0,none⟩) zu _).setCell (p:=⟨gx,1,none⟩) zu _)
theorem Kl(a b:List Pl.Pr)(key:Pl.Key)(va vb:Value)(w:World)(G:Gh)(ha:fN w G va 0 a none)(hb:fN w G vb 0 b none)(hsz:Pl.j5 a+Pl.j5 b<=400):
 bG 334 #[va,.string (ar key),vb] w λe w'=>∃rv,e= .returned rv/\iQ w' G 0 rv (Pl.ft 0 a key b)/\dP w w':=by
 obtain⟨pa,rfl,Aa,ca,ba,GJ,hta⟩:=ha;obtain⟨pb,rfl,Ab,cb,bb,zV,kI⟩:=hb;have X9:=WI a b;have hla:=iP a;have XM:=iP b;obtain⟨w1,dj,aI⟩:=zF w (.cells #[.slice none 0 0,.slice none 0 0] 421);have B1:ay w1 w.heap.size 421 [.slice none 0 0,.slice none 0 0]:=by rw[<-dj];exact ay.new w 421 _
 obtain⟨gx,hgx⟩:=ze w.heap.size;rw[hgx]at B1;have Rk:=hgx;have BA:=ba.aa aI ba.lt;have BB:=bb.aa aI bb.lt;have TA:=hta.aa aI;have TB:=kI.aa aI;obtain⟨c0,_⟩:=bP BA;obtain⟨d0,_⟩:=bP BB;obtain⟨n,hn⟩:=ze a.length;obtain⟨m,hm⟩:=ze b.length;rw[hn]at c0 hla;rw[hm]at d0 XM;have S0:=And.intro c0 d0;have pj:n+m<=400:=zo;have GX:(Pl.j5 (a++b)<=1000):=zo;have m1:∀(W:World),(Instr.typeAssert (.iface 343 (.pointer (some ⟨pa,0,none⟩))) 263 343 true).run Tryz.prog W= .ok (.tuple #[.pointer (some ⟨pa,0,none⟩),.bool true]) W:=λW=>by kernel_rfl
 have m2:∀(W:World),(Instr.typeAssert (.iface 343 (.pointer (some ⟨pb,0,none⟩))) 263 343 false).run Tryz.prog W= .ok (.pointer (some ⟨pb,0,none⟩)) W:=λW=>by kernel_rfl
 unfold fR;go_enter Tryz.func334,Tryz.ntmps334;go_wp2_with fail
 go_region_held3 (λW:World=>W.cell? ⟨pa,0,none⟩=some (.slice Aa n ca)/\W.cell? ⟨pb,0,none⟩=some (.slice Ab m cb)) (first|exact S0|exact S1|exact S2|exact S3|exact S4 _ _) (first
  |(refine fi Tryz.gn rfl (.const (.slice none 0 0)) (.tmp 21) rfl rfl (Rw.nil w1.drew w.heap.size) Aa n ca (bu a) rfl (by rw[dL,hn]) TA.drew.1 (dp a) zo aI.size ?_
    intro v2 w2 r2 CB;rw[bZ,aX]at r2;have M2:(Mv w1 w2 (.slice none 0 0) v2):=Mv.u9 (aq:=0) (n:=0) (cs:=[]) ((ak w1.heap.size w1).drew) CB;have R2:=r2;have ja:Below w1.heap.size w1 w2:=M2.only.cW (ai _) (λk _ hk=>by cases hk);have eY:=ja;have BA2:=BA.aa ja BA.lt;have BB2:=BB.aa ja BB.lt;have S1:=show w2.cell? ⟨pa,0,none⟩=some (.slice Aa n ca)/\w2.cell? ⟨pb,0,none⟩=some (.slice Ab m cb)from⟨by have:=(bP BA2).1;rw[hn]at this;exact this,by have:=(bP BB2).1;rw[hm]at this;exact this⟩;clear r2 CB ja)
  |(refine fi Tryz.gn rfl (.tmp 22) (.tmp 26) rfl rfl R2 Ab m cb (bu b) rfl (by rw[dL,hm]) (by exact(TB.aa eY).1) (dp b) zo (ao aI.size eY.size) ?_
    intro v3 w3 r3 m3;have R3:=r3;have CH:Below w1.heap.size w1 w3:=eY.trans (m3.only.cW eY.size (λk hk e=>by
     rcases M2.2 k hk (by simp[Value.ownBlock]) e))
    have eI:=CH;have BA3:=BA.aa CH BA.lt;have BB3:=BB.aa CH BB.lt;have S2:=show w3.cell? ⟨pa,0,none⟩=some (.slice Aa n ca)/\w3.cell? ⟨pb,0,none⟩=some (.slice Ab m cb)from⟨by have:=(bP BA3).1;rw[hn]at this;exact this,by have:=(bP BB3).1;rw[hm]at this;exact this⟩;have HX3:=B1.aa CH B1.lt;have HLV:(∃A3 mL,v3= .slice A3 (a++b).length mL/\bG 329 #[.slice A3 (a++b).length mL] w3 λe w'=>∃rv,e= .returned rv/\iQ w' G 0 rv (Pl.mA (a++b))/\Below w3.heap.size w3 w'):=by
     obtain⟨A3,mL,e3,_,h3,_⟩:=R3.eo;have e4:n+m=(a++b).length:=by rw[ax,hn,hm]
     rw[e4]at e3;rw[<-cZ]at h3;exact⟨A3,mL,e3,Hx A3 mL (a++b) w3 h3 GX G⟩
    clear r3 m3 CH)
  |(go_at_call 329
    obtain⟨A3,mL,rfl,HCC⟩:=id HLV;refine HCC.mono ?_;rintro e w4 ⟨rv,rfl,nT,cj⟩;have HRW:=nT;obtain⟨Ak,ck,Ap,cp,vs,rfl,_⟩:=nT;have ib:=eI.trans (cj.mono eI.size);have VE:=HX3.aa cj HX3.lt;have BA4:=BA3.aa cj BA3.lt;have BB4:=BB3.aa cj BB3.lt;have S3:=show w4.cell? ⟨pa,0,none⟩=some (.slice Aa n ca)/\w4.cell? ⟨pb,0,none⟩=some (.slice Ab m cb)from⟨by have:=(bP BA4).1;rw[hn]at this;exact this,by have:=(bP BB4).1;rw[hm]at this;exact this⟩
    have S4:=(λ(u0 u1:Value)=>(show((w4.setCell ⟨gx,0,none⟩ u0).setCell ⟨gx,1,none⟩ u1).cell? ⟨pa,0,none⟩=some (.slice Aa n ca)/\((w4.setCell ⟨gx,0,none⟩ u0).setCell ⟨gx,1,none⟩ u1).cell? ⟨pb,0,none⟩=some (.slice Ab m cb)from
     ⟨by have:=(bP ((BA4.mK (p:=⟨gx,0,none⟩) (BA4.ne VE zj) u0).mK (p:=⟨gx,1,none⟩) (BA4.ne VE zj) u1)).1;rw[hn]at this;exact this,
      by have:=(bP ((BB4.mK (p:=⟨gx,0,none⟩) (BB4.ne VE zj) u0).mK (p:=⟨gx,1,none⟩) (BB4.ne VE zj) u1)).1;rw[hm]at this;exact this⟩))
    obtain⟨x0,x1,y0,y1⟩:=aO VE;clear cj)
  |fail)
 go_wp2_with fail;have jN:=Lx (aI.trans (ib.mono aI.size)) Rk (Value.slice Ak (Pl.mA (a++b)).snd.length ck) (Value.slice Ap (Pl.mA (a++b)).fst.length cp);exact bH (v:= .agg #[_,_]) (jj rfl rfl ((VE.bw 0 _).bw 1 _)) rfl ⟨_,rfl,mo VE HRW,by first|exact jN.1|exact jN.2⟩
theorem jJ(a b:List Pl.Key):bo (a++b)=bo a++bo b:=by unfold bo;simp
theorem jH(a b:List Nat):aS (a++b)=aS a++aS b:=by unfold aS;simp
theorem jo(a:List Pl.Key):(bo a).length=a.length*1:=by unfold bo;simp
theorem fL(a:List Nat):(aS a).length=a.length*1:=by unfold aS;simp
theorem wT{ra rb:List Nat}{ca cb:List (Pl.Tr h)}(hl:ra.length=ca.length)(ha:∀(i r:Nat) (c:Pl.Tr h),ra[i]?=some r->ca[i]?=some c->G r=some ⟨h,c⟩)(hb:∀(i r:Nat) (c:Pl.Tr h),rb[i]?=some r->cb[i]?=some c->G r=some ⟨h,c⟩):
 ∀(i r:Nat) (c:Pl.Tr h),(ra++rb)[i]?=some r->(ca++cb)[i]?=some c->G r=some ⟨h,c⟩:=by
 grind
theorem Mv.fresh(h:Mv a b (.slice none 0 0) v):dP a b:=h.only.cW zo (λ_ _ hk=>by cases hk)
theorem Mv.since{w0:World}{u:Value}{e:TypeId}{s:Nat}(hb:dP w0 a)(hr:Rw e s a w0.heap.size u n cs)(h:Mv a b u v):dP w0 b:=hb.trans (h.sV hr hb.size)
theorem Src.WG(h:Mv a b (.slice none 0 0) v)(hs:Src a A cs):Src b A cs:=hs.aa h.fresh
theorem H0(h:Nat)(a b:Pl.Tr (h+1))(key:Pl.Key)(va vb:Value)(w:World)(G:Gh)(ha:fN w G va (h+1) a none)(hb:fN w G vb (h+1) b none)(hsz:Pl.lD a.1+Pl.lD b.1<=256+85)(hk:Pl.ey key)
 (hka:∀k∈a.1,k.length<=40) (Kc:∀k∈b.1,k.length<=40) (hla:a.2.length=a.1.length+1) (XM:b.2.length=b.1.length+1):
 bG 334 #[va,.string (ar key),vb] w λe w'=>∃rv,e= .returned rv/\iQ w' G (h+1) rv (Pl.ft (h+1) a key b)/\dP w w':=by
 obtain⟨ra,⟨pa,rfl,Aa,ca,Ra,da,ba,GJ,hda,hta,hua⟩,Zs,hga,_⟩:=ha;obtain⟨rb,⟨pb,rfl,Ab,cb,Rb,db,bb,zV,hdb,kI,hub⟩,Ex,pO,_⟩:=hb;have X9:Pl.lD (a.1++key::b.1)<=420:=by have h1:=Pl.gC a.1 (key::b.1);rw[Pl.rp]at h1;have:=hk.2;omega
 have hna:=jr a.1;have Kz:=jr b.1;obtain⟨w1,dj,aI⟩:=zF w (.cells #[.slice none 0 0,.slice none 0 0] 421);have B1:ay w1 w.heap.size 421 [.slice none 0 0,.slice none 0 0]:=by rw[<-dj];exact ay.new w 421 _
 obtain⟨gx,hgx⟩:=ze w.heap.size;rw[hgx]at B1;have Rk:=hgx;have BA:=ba.aa aI ba.lt;have BB:=bb.aa aI bb.lt;have TA:=hta.aa aI;have TB:=kI.aa aI;have UA:=hua.aa aI;have UB:=hub.aa aI;obtain⟨n,hn⟩:=ze a.1.length;obtain⟨m,hm⟩:=ze b.1.length;have IJ:ra.length=n+1:=zo;have Lw:rb.length=m+1:=zo;have HN:=hn;have HM:=hm;have HRN:=IJ;have HRM:=Lw;have cells:=λ(W:World) (hW:Below w1.heap.size w1 W)=>(show W.cell? ⟨pa,0,none⟩=some (.slice Aa n ca)/\W.cell? ⟨pb,0,none⟩=some (.slice Ab m cb)/\W.cell? ⟨pa,1,none⟩=some (.slice Ra (n+1) da)/\W.cell? ⟨pb,1,none⟩=some (.slice Rb (m+1) db)from by
  obtain⟨c0,c1,_,_⟩:=aO (BA.aa hW BA.lt);obtain⟨d0,d1,_,_⟩:=aO (BB.aa hW BB.lt);rw[hn]at c0;rw[IJ]at c1;rw[hm]at d0;rw[Lw]at d1;exact⟨c0,d0,c1,d1⟩)
 obtain⟨c0,d0,c1,d1⟩:=cells w1 (ak _ _);have pj:n+m<=400:=zo
 have Lr:(∀(A1 A2:Option Addr) (k1 k2:Nat) (W:World),dn W A1 (bo (a.1++key::b.1)) 9->dn W A2 (aS (ra++rb)) 160->n+1+m<=k1->n+1+(m+1)<=k2->
  bG 335 #[.slice A1 (n+1+m) k1,.slice A2 (n+1+(m+1)) k2] W λe w'=>∃rv,e= .returned rv/\iQ w' G (h+1) rv (Pl.ft (h+1) a key b)/\Below W.heap.size W w'):=by
  intro A1 A2 k1 k2 W h1 h2 h3 h4;have e1:n+1+m=(a.1++key::b.1).length:=by rw[ax,bE,hn,hm];omega
  have e2:n+1+(m+1)=(ra++rb).length:=by rw[ax,IJ,Lw]
  have:=JO A1 A2 k1 k2 (a.1++key::b.1) (ra++rb) h (a.2++b.2) W G h1 h2 zo zo (by rw[ax,ax,Zs,Ex]) (by rw[ax,ax,bE];omega) (wT Zs hga pO) X9 (λk uk=>by
   rcases eQ.1 uk with h'|h'
   ·exact hka k h'
   ·rcases cV.1 h' with rfl|h'
    ·exact hk.2
    ·exact Kc k h')
  rw[e1,e2];exact this
 have HKC:(bo (a.1++key::b.1)=bo a.1++bo [key]++bo b.1):=by rw[<-jJ,<-jJ];simp
 have m1:∀(W:World),(Instr.typeAssert (.iface 377 (.pointer (some ⟨pa,0,none⟩))) 263 343 true).run Tryz.prog W= .ok (.tuple #[.pointer none,.bool false]) W:=λW=>by kernel_rfl
 have m2:∀(W:World),(Instr.typeAssert (.iface 377 (.pointer (some ⟨pa,0,none⟩))) 263 377 true).run Tryz.prog W= .ok (.tuple #[.pointer (some ⟨pa,0,none⟩),.bool true]) W:=λW=>by kernel_rfl
 have m3:∀(W:World),(Instr.typeAssert (.iface 377 (.pointer (some ⟨pb,0,none⟩))) 263 377 false).run Tryz.prog W= .ok (.pointer (some ⟨pb,0,none⟩)) W:=λW=>by kernel_rfl
 have jM:Below w1.heap.size w1 (w1.alloc (.cells #[.string (ar key)] 9)).drew:=(za _ _).drew;have HSK:(Src (w1.alloc (.cells #[.string (ar key)] 9)).drew (some ⟨w1.heap.size,0,none⟩) (bo [key])):=DJ w1 key;have S0:=show w1.cell? ⟨pa,0,none⟩=some (.slice Aa n ca)/\w1.cell? ⟨pb,0,none⟩=some (.slice Ab m cb)from⟨c0,d0⟩;have S1:=show(w1.alloc (.cells #[.string (ar key)] 9)).drew.cell? ⟨pa,0,none⟩=some (.slice Aa n ca)/\(w1.alloc (.cells #[.string (ar key)] 9)).drew.cell? ⟨pb,0,none⟩=some (.slice Ab m cb)from⟨(cells _ jM).1,(cells _ jM).2.1⟩;have HL1:(w1.heap.size<=(w1.alloc (.cells #[.string (ar key)] 9)).drew.heap.size):=jM.size;have RN:(Rw 9 1 (w1.alloc (.cells #[.string (ar key)] 9)).drew w1.heap.size (.slice none 0 0) 0 []):=Rw.nil _ _;have RN0:(Rw 9 1 w1.drew w1.heap.size (.slice none 0 0) 0 []):=Rw.nil _ _;unfold eG;go_enter Tryz.func334,Tryz.ntmps334
 go_upto_region 9 with fail
 go_cut [11]from 34 to 59 (λs11 wx=>Hid (Rw 9 1 wx w1.heap.size s11 (n+1+m) (bo (a.1++key::b.1)))/\Hid (Below w1.heap.size w1 wx))
 case first=>
  go_wp2_with fail
  go_region_held3 (λW:World=>W.cell? ⟨pa,0,none⟩=some (.slice Aa n ca)/\W.cell? ⟨pb,0,none⟩=some (.slice Ab m cb)) (first|exact S0|exact S1|exact S2|exact S2a|exact S3|exact S4) (first
   |(refine fi Tryz.ji rfl (.const (.slice none 0 0)) (.tmp 37) rfl rfl RN Aa n ca (bo a.1) rfl (by rw[jo,HN]) (by exact(TA.aa jM).1) (fU _) zo HL1 ?_
     intro v2 w2 r2 CB;rw[bZ,aX]at r2;have R2a:=r2;have Wk:=Mv.since jM RN CB;have apP:(Src w2 (some ⟨w1.heap.size,0,none⟩) (bo [key])):=Src.WG CB HSK;have ain:=apP;have S2a:=And.intro (cells _ Wk).1 (cells _ Wk).2.1;have S2:=S2a;clear r2 CB)
   |(refine fi Tryz.ji rfl (.const (.slice none 0 0)) (.tmp 37) rfl rfl RN0 Aa n ca (bo a.1) rfl (by rw[jo,HN]) (by exact TA.1) (fU _) zo (by exact ai _) ?_
     intro v2 w2 r2 CB;rw[bZ,aX]at r2;have R2:=r2;have M2:(Mv w1 w2 (.slice none 0 0) v2):=Mv.u9 (aq:=0) (n:=0) (cs:=[]) ((ak w1.heap.size w1).drew) CB;have eY:=Mv.fresh M2;have Wk:=eY.trans (((ak w2.heap.size w2).alloc (ai _) (.cells #[.string (ar key)] 9)).mono eY.size);have ain:(Src (w2.alloc (.cells #[.string (ar key)] 9)) (some ⟨w2.heap.size,0,none⟩) (bo [key])):=DJ w2 key;have R2a:=R2.alloc (.cells #[.string (ar key)] 9);have S2:=And.intro (cells _ eY).1 (cells _ eY).2.1;have S2a:=And.intro (cells _ Wk).1 (cells _ Wk).2.1;clear r2 CB)
   |(refine fi Tryz.ji rfl (.tmp 38) (.tmp 40) rfl rfl R2a _ 1 1 (bo [key]) rfl rfl ain (fU _) zo Wk.size ?_
     intro v3 w3 r3 m3';have R3:=r3;have eI:=Mv.since Wk R2a m3';have S3:=And.intro (cells _ eI).1 (cells _ eI).2.1;clear r3 m3')
   |(refine fi Tryz.ji rfl (.tmp 41) (.tmp 45) rfl rfl R3 Ab m cb (bo b.1) rfl (by rw[jo,HM]) (by exact(TB.aa eI).1) (fU _) zo eI.size ?_
     intro v4 w4 r4 m4';rw[<-HKC]at r4;have R4:=r4;have ib:=Mv.since eI R3 m4';have S4:=And.intro (cells _ ib).1 (cells _ ib).2.1;clear r4 m4')
   |fail)
  all_goals
   go_wp2_with fail;go_meet
   case rel=>exact⟨R4,ib⟩
 case rest=>
  obtain⟨apS,HBC⟩:=hcut;obtain⟨wd,hwd,HR,xG⟩:∃x,x=wc/\Hid (Rw 9 1 x w1.heap.size u11 (n+1+m) (bo (a.1++key::b.1)))/\Hid (Below w1.heap.size w1 x):=⟨wc,rfl,apS,HBC⟩;subst hwd;obtain⟨A1,k1,e1,rP,TN,_⟩:=HR.eo;subst e1;have CL:=(λ(W:World) (hW:Below wd.heap.size wd W)=>cells W (xG.trans (hW.mono xG.size)));obtain⟨c0,d0,c1,d1⟩:=CL wd (ak _ _);have T0:=show wd.cell? ⟨pa,1,none⟩=some (.slice Ra (n+1) da)/\wd.cell? ⟨pb,1,none⟩=some (.slice Rb (m+1) db)from⟨c1,d1⟩;have UA2:=UA.aa xG;have UB2:=UB.aa xG;have HXD:=B1.aa xG B1.lt;have BAD:=BA.aa xG BA.lt;have BBD:=BB.aa xG BB.lt;have RQ:(Rw 160 1 wd.drew wd.heap.size (.slice none 0 0) 0 []):=Rw.nil _ _;go_wp2_with fail
  go_region_held3 (λW:World=>W.cell? ⟨pa,1,none⟩=some (.slice Ra (n+1) da)/\W.cell? ⟨pb,1,none⟩=some (.slice Rb (m+1) db)) (first|exact T0|exact T1|exact T2|exact T3|exact T4 _ _) (first
   |(refine fi Tryz.ou rfl (.const (.slice none 0 0)) (.tmp 51) rfl rfl RQ Ra (n+1) da (aS ra) rfl (by rw[fL,HRN]) (by exact UA2.1) (eM _) zo (by exact ai _) ?_
     intro v2 w2 r2 CB;rw[bZ,aX]at r2;have R2:=r2;have M2:(Mv wd w2 (.slice none 0 0) v2):=Mv.u9 (aq:=0) (n:=0) (cs:=[]) ((ak wd.heap.size wd).drew) CB;have eY:=Mv.fresh M2;have T1:=And.intro (CL _ eY).2.2.1 (CL _ eY).2.2.2;clear r2 CB)
   |(refine fi Tryz.ou rfl (.tmp 52) (.tmp 56) rfl rfl R2 Rb (m+1) db (aS rb) rfl (by rw[fL,HRM]) (by exact(UB2.aa eY).1) (eM _) zo eY.size ?_
     intro v3 w3 r3 m3';have eI:=Mv.since eY R2 m3';have T2:=And.intro (CL _ eI).2.2.1 (CL _ eI).2.2.2;rw[<-jH]at r3;have HIV:(∃A2 k2,v3= .slice A2 (n+1+(m+1)) k2/\bG 335 #[.slice A1 (n+1+m) k1,.slice A2 (n+1+(m+1)) k2] w3 λe w'=>∃rv,e= .returned rv/\iQ w' G (h+1) rv (Pl.ft (h+1) a key b)/\Below w3.heap.size w3 w'):=by obtain⟨A2,k2,e2,pK,h3,_⟩:=r3.eo;exact⟨A2,k2,e2,Lr A1 A2 k1 k2 w3 (TN.aa eI) h3 rP pK⟩
     clear r3 m3')
   |(go_at_call 335
     obtain⟨A2,k2,rfl,HCC⟩:=id HIV;refine HCC.mono ?_;rintro e w4 ⟨rv,rfl,nT,cj⟩;have HRW:=nT;obtain⟨Ak,ck,Ap,cp,vs,rfl,_⟩:=nT;have ib:=eI.trans (cj.mono eI.size);have VE:=HXD.aa ib HXD.lt;have T3:=And.intro (CL _ ib).2.2.1 (CL _ ib).2.2.2;have BA4:=BAD.aa ib BAD.lt;have BB4:=BBD.aa ib BBD.lt
     have T4:=(λ(u0 u1:Value)=>(show((w4.setCell ⟨gx,0,none⟩ u0).setCell ⟨gx,1,none⟩ u1).cell? ⟨pa,1,none⟩=some (.slice Ra (n+1) da)/\((w4.setCell ⟨gx,0,none⟩ u0).setCell ⟨gx,1,none⟩ u1).cell? ⟨pb,1,none⟩=some (.slice Rb (m+1) db)from
      ⟨by have:=(aO ((BA4.mK (p:=⟨gx,0,none⟩) (BA4.ne VE zj) u0).mK (p:=⟨gx,1,none⟩) (BA4.ne VE zj) u1)).2.1;rw[HRN]at this;exact this,
       by have:=(aO ((BB4.mK (p:=⟨gx,0,none⟩) (BB4.ne VE zj) u0).mK (p:=⟨gx,1,none⟩) (BB4.ne VE zj) u1)).2.1;rw[HRM]at this;exact this⟩))
     obtain⟨x0,x1,y0,y1⟩:=aO VE;clear cj)
   |fail)
  go_wp2_with fail;have jN:=Lx (aI.trans ((xG.trans (ib.mono xG.size)).mono aI.size)) Rk (Value.slice Ak (Pl.ft (h+1) a key b).snd.length ck) (Value.slice Ap (Pl.ft (h+1) a key b).fst.length cp);exact bH (v:= .agg #[_,_]) (jj rfl rfl ((VE.bw 0 _).bw 1 _)) rfl ⟨_,rfl,mo VE HRW,by first|exact jN.1|exact jN.2⟩
end Go.Proofs.YtbhpofdafhahgaaGreatDoor
