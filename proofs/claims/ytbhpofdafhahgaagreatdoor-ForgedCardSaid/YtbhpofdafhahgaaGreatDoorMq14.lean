/- Part 14: PgS PgT PgU PgV. -/
import Derived.Test.YtbhpofdafhahgaaGreatDoorMq13
set_option linter.all false
set_option maxHeartbeats 8000000
set_option maxRecDepth 100000
namespace Go.Proofs.YtbhpofdafhahgaaGreatDoor
open Go.RowKit
variable [Inhabited eH]
variable {F:Nat->Prop} {w w':World} {a b h k i:Nat} {r r':Pl.Row h} {v:Value} {ts:List TypeId} {vs:List Value} {rs:List Nat} {cs:List (Pl.Tr h)} {ks:List Pl.Key}
variable (E:fe) (rd:Int) (G:Gh) (K:FuncId) (cg:Array Value) (key:Pl.Key) (f:List Pl.Pr->List Pl.Pr) (none_:List Pl.Pr->Prop)
theorem iu.since{a b:World}(h:iu w a)(k:ag F a b)(hF:∀x,x<w.heap.size->¬F x):iu w b:=by have hb:Below w.heap.size a b:=k.cW h.size hF;obtain⟨F',h1,h2⟩:=h.only;refine⟨⟨F',⟨hb.os.trans h1.os,hb.tape.trans h1.tape,hb.output.trans h1.output,ao h1.size hb.size,λi hi hn=>(hb.block i hi).trans (h1.block i hi hn)⟩,h2⟩,λr x v hr=>?_,λp s hs hc=>(hb.cell (dC _ _ hc)).trans (h.ev p s hs hc),⟨hb.os.trans h.low.os,hb.tape.trans h.low.tape,hb.output.trans h.low.output,ao h.low.size hb.size,λi hi hn=>(hb.block i hi).trans (h.low.block i hi hn)⟩⟩;obtain⟨v',h3,h4⟩:=h.refs r x v hr;exact⟨v',h3.aa hb hr.lt,h4⟩
theorem ZY(h:Nat)(t:Pl.Tr h)(v:Value)(w:World)(G:Gh)(hp:fN w G v h t none)(hsz:Pl.rI h t<=1000):
 bG 333 #[v] w λe w'=>e= .returned (.bool (decide (Pl.rI h t<85)))/\dP w w':=by
 cases h with
 |zero=>obtain⟨b,rfl,h1⟩:=hp;exact UQ b t w h1 hsz
 |succ h=>obtain⟨rs,⟨b,rfl,h1⟩,_⟩:=hp;exact(SI b t.1 rs w h1 hsz).mono λe w' ⟨h1,h2⟩=>⟨h1,h2▸ak _ _⟩
theorem Pl.nF.size{h:Nat}{r:Pl.Row h}(hr:Pl.nF h r):∀t∈r.1,Pl.rI h t<=256:=by
 intro t ht;rcases hr with⟨_,_,h3⟩|⟨_,t',h2,h3⟩
 ·exact Pl.Fit.size h t zw
 ·rw[h2]at ht;rw[dU.1 ht];exact iG (mH (Pl.AV.small h t' h3) zo)
theorem adD{t:Pl.Tr h}(hr:r.1=[t]):Pl.lone r=if Pl.rI h t<85 then some t else none:=by unfold Pl.lone;rw[hr]
theorem ZU(hr:r.1.length≠1):Pl.lone r=none:=by
 unfold Pl.lone
 grind
theorem C3(h:Nat)(a b:Pl.Tr h)(key:Pl.Key)(va vb:Value)(w:World)(G:Gh)(ha:fN w G va h a none)(hb:fN w G vb h b none)(fa:Pl.DU h a)(fb:Pl.DU h b)(hk:Pl.ey key)(hs:Pl.rI h a+Pl.rI h b<=256+85):
 bG 334 #[va,.string (ar key),vb] w λe w'=>∃rv,e= .returned rv/\iQ w' G h rv (Pl.ft h a key b)/\dP w w':=by
 cases h with
 |zero=>exact Kl a b key va vb w G ha hb (by have:Pl.j5 a+Pl.j5 b<=256+85:=hs;omega)
 |succ h=>obtain⟨a1,a2,a3,a4⟩:=fa.inner;obtain⟨b1,b2,b3,b4⟩:=fb.inner;exact H0 h a b key va vb w G ha hb hs hk (λk hk=>(a3 k hk).2) (λk hk=>(b3 k hk).2) a1 b1
theorem aJ.iC{g:Nat}{d:Pl.Dk}{rd:Int}(h:aJ w g v d rd)(ho:ag F w w')(hF:bR F w ts)(h1:108∉ts)(h2:190∉ts):aJ w' g v d rd:=h.only ho λk hk hf=>by
 obtain⟨t,k1,k2⟩:=h.kinds k hk;obtain⟨t',k3,k4⟩:=hF k hf;obtain rfl:=k2.dv k4
 grind
theorem TW.only{F:Nat->Prop}{E:fe}{w w':World}{rd:Int}{G:Gh}{ts:List TypeId}(h:TW E w rd G)(ho:ag F w w')(hF:bR F w ts)(h1:242∉ts)(h2:265∉ts)(h3:∀t∈er,t∉ts)(h4:108∉ts)(h5:190∉ts):TW E w' rd G:=
 ⟨ho.cY hF h.tree h1,h.gq.iC ho hF h4 h5,h.inv.only ho hF h2 h3,h.aA,h.low,ao h.aq ho.size⟩
theorem Made.only{w0:World}(h:Made w0 w vs k rs)(ho:ag F w w')(hF:bR F w ts)(ht:265∉ts):Made w0 w' vs k rs:=
 ⟨h.1,h.2.1,λr hr=>⟨(h.2.2.1 r hr).1,aK (h.2.2.1 r hr).2 ho.size⟩,λi r v h1 h2=>ho.cY hF (h.2.2.2 i r v h1 h2) ht⟩
theorem Made.low{w0 w1:World}(h:Made w1 w vs k rs)(hl:w0.heap.size<=w1.heap.size):Made w0 w vs k rs:=
 ⟨h.1,h.2.1,λr hr=>⟨ao hl (h.2.2.1 r hr).1,(h.2.2.1 r hr).2⟩,h.2.2.2⟩
theorem Rw.low{e:TypeId}{s:Nat}{b0 aq:Nat}{n:Nat}{cs:List Value}(h:Rw e s w aq v n cs)(hb:b0<=aq):Rw e s w b0 v n cs:=yn h hb
theorem xA{h:Nat}{ks:List Pl.Key}{cs:List (Pl.Tr h)}{i a b:Nat}{r r':Pl.Row h}(hl:cs.length=ks.length+1)(hi:i<=ks.length)(h:(a,b,r')=Pl.spliced ks cs i r):a+1<=b/\b<=ks.length+1:=by
 unfold Pl.spliced at h
 grind
theorem Rp(hs:(a,b,r')=Pl.spliced ks cs i r):
 Pl.fE ks cs i r=if ks.take a++r'.2++ks.drop (b-1)=[]then([(([]:List Pl.Key),cs.take a++r'.1++cs.drop b)],[])else Pl.fD (ks.take a++r'.2++ks.drop (b-1)) (cs.take a++r'.1++cs.drop b):=by
 unfold Pl.fE;rw[<-hs];rfl
theorem Qh(hn:Pl.Fit (h+1) ((ks,cs):List Pl.Key×List (Pl.Tr h)))(hi:i<=ks.length)(hb:Pl.nF h r)(hc:r.2.length<=3)(hs:(a,b,r')=Pl.spliced ks cs i r):
 (∀k∈ks.take a++r'.2++ks.drop (b-1),Pl.ey k)/\Pl.lD (ks.take a++r'.2++ks.drop (b-1))<=420/\r'.1.length=r'.2.length+1/\r'.2.length<=3:=by
 have hl:cs.length=ks.length+1:=hn.1;have key:Pl.tj h r'/\r'.2.length<=3:=by
  unfold Pl.spliced at hs;split at hs
  ·next h0=>
   injection hs with h1 h2;injection h2 with h2 h3;subst h3;exact⟨Pl.Ml hb h0,hc⟩
  ·next pg h0=>
   obtain⟨hh,h85⟩:=Pl.Bg hb h0;split at hs
   ·next yW=>
    split at hs
    ·next left key hx hk=>
     injection hs with h1 h2;injection h2 with h2 h3;subst h3;have hfl:=hn.2.2.2.2 left zw;have hsz:Pl.rI h left+Pl.rI h pg<=256+85:=zA (Pl.Fit.size h left hfl);exact⟨Pl.lY h left key pg (.inl hfl) hh zw (hn.2.2.2.1 key zw) hsz,Pl.lP h left key pg (.inl hfl) hh hsz⟩
    grind
   ·next yW=>
    split at hs
    ·next nx key hx hk=>
     injection hs with h1 h2;injection h2 with h2 h3;subst h3;have hfl:=hn.2.2.2.2 nx zw;have hsz:Pl.rI h pg+Pl.rI h nx<=256+85:=zA (Pl.Fit.size h nx hfl);exact⟨Pl.lY h pg key nx hh (.inl hfl) zw (hn.2.2.2.1 key zw) hsz,Pl.lP h pg key nx hh (.inl hfl) hsz⟩
    ·next hno=>
     have h0:0<ks.length:=ie.2 hn.2.1
     grind
 obtain⟨b1,b2⟩:=xA hl hi hs;obtain⟨k1,k2⟩:=Pl.ya hn key.1 key.2 b1;exact⟨k1,k2,key.1.1,key.2⟩
theorem ng(w:World)(g:Nat)(u0 u1:Value):ag (·=g) w ((w.setCell ⟨g,0,none⟩ u0).setCell ⟨g,1,none⟩ u1):=((ag.refl (·=g) w).setCell (p:=⟨g,0,none⟩) zu _).setCell (p:=⟨g,1,none⟩) zu _
def Spl(w:World)(h i gs gr gx:Nat)(sp:List Value)(t:Pl.Tr (h+1))(r:Pl.Row h)(wx:World)(a b2:Nat)(r':Pl.Row h)(G':Gh)(cO:Int)(u0 u1:Value):Prop:=
 (a,b2,r')=Pl.spliced t.1 t.2 i r/\TW E wx cO G'/\Ext G G'/\iu w wx/\tF 1 rd cO/\ay wx gs 368 sp/\ay wx gr 421 [u0,u1]/\iQ wx G' h (.agg #[u0,u1]) r'/\ay wx gx 421 [.slice none 0 0,.slice none 0 0]
theorem On(h b i jt:Nat)(t:Pl.Tr (h+1))(lo:Pl.Key)(hi:Option Pl.Key)(r:Pl.Row h)(rv:Value)(w:World)(hw:TW E w rd G)(hp:fN w G (eG b) (h+1) t none)
 (hf:Pl.Fit (h+1) t) (hs:Pl.yA (h+1) lo hi t) (Pk:i<=t.1.length) (hr:iQ w G h rv r) (TP:Pl.nF h r) (Uq:r.2.length<=3) (hd:jt+1<=64) (hn:E.m.n<=4096):
 bG 330 #[.pointer (some ⟨E.gT,0,none⟩),.pointer (some ⟨b,0,none⟩),iR lo hi,.int .i64 (jt:Nat),.int .i64 (i:Nat),rv] w (Yh E 1 rd G (λw' G' v=>iQ w' G' (h+1) v (Pl.fE t.1 t.2 i r)) w):=by
 obtain⟨rs,⟨b',eb,yl⟩,s9,hgk,_⟩:=hp;obtain rfl:b=b':=by unfold eG at eb;injection eb with _ eb;injection eb with eb;injection eb with eb;injection eb
 obtain⟨f1,f2,f3,f4,f5⟩:=hf;have TR:=jr t.1;obtain⟨A,ca,A',vR,dM,GJ,ahA,hta,adA⟩:=yl;have TX:=hr;obtain⟨Ak,ck,Ap,cp,vs,rfl,yt,XH,Ca,htp,PD,hve⟩:=TX;obtain⟨sl,yZ⟩:=ze (ar lo);obtain⟨sh,CD⟩:=ze (ar (hi.getD []));obtain⟨bn,J9⟩:=ze hi.isNone;have E6:=zi (λ(j:Nat) (W:World) (hb:dZ W b t.1 rs) (hj:j<=t.1.length)=>GD lo hi b t.1 rs j W hb hj zo);unfold iR at E6|-
 rw[yZ,CD,J9]at E6|-
 obtain⟨w1,dj⟩:=ze (w.alloc (.cells #[.string sl,.string sh,.bool bn] 368));obtain⟨w2,iA⟩:=ze (w1.alloc (.cells #[.slice Ak r.2.length ck,.slice Ap r.1.length cp] 421));obtain⟨w3,fX⟩:=ze (w2.alloc (.cells #[.slice none 0 0,.slice none 0 0] 421));obtain⟨gs,ui⟩:=ze w.heap.size;obtain⟨gr,YA⟩:=ze w1.heap.size;obtain⟨gx,hgx⟩:=ze w2.heap.size;have aI:=zb dj;have bz:=zb iA;have bg:=zb fX;have B1:=zB dj ui;have B2:=zB iA YA;have B3:=zB fX hgx;have CH:=bz.trans (bg.mono bz.size);have jv:=aI.trans (CH.mono aI.size);obtain⟨BS,BR⟩:=dz (B1.aa CH B1.lt) (B2.aa bg B2.lt);have KO:Hid (w.heap.size<=gs/\w.heap.size<=gr/\w.heap.size<=gx/\gr≠gx):=⟨zo,by have:=aI.size;omega,by have:=aI.size;have:=bz.size;omega,by have:=B2.lt;omega⟩;have HW:=zi (hw.aa jv);have Lr:Hid (dZ w3 b t.1 rs):=dZ.aa ⟨A,ca,A',vR,dM,GJ,ahA,hta,adA⟩ jv;have HRW:Hid (iQ w3 G h (.agg #[.slice Ak r.2.length ck,.slice Ap r.1.length cp]) r):=hr.aa jv;have HSP:=zi hs;have Xm:Hid (Pl.Fit (h+1) t):=⟨f1,f2,f3,f4,f5⟩;have ID:Hid (t.1.length<=ca/\rs.length<=vR):=⟨GJ,ahA⟩;obtain⟨n,kG⟩:=ze t.1.length;have IJ:rs.length=n+1:=zo;have arn:n<=60:=zo;have Ue:0<n:=zA (ie.2 f2);rw[kG]at Pk;have HIW:Hid (∀W,iu w3 W->W.cell? ⟨b,0,none⟩=some (.slice A n ca)/\W.cell? ⟨b,1,none⟩=some (.slice A' (n+1) vR)/\dZ W b t.1 rs/\dn W A (bo t.1) 9/\dn W A' (aS rs) 160):=by intro W hW;have h1:=hW.aC (dM.aa jv dM.lt) zj zj;obtain⟨c0,c1,_,_⟩:=aO h1;rw[kG]at c0;rw[IJ]at c1;exact⟨c0,c1,⟨A,ca,A',vR,h1,GJ,ahA,hW.eo (hta.aa jv) zj zj,hW.eo (adA.aa jv) zj zj⟩,hW.eo (hta.aa jv) zj zj,hW.eo (adA.aa jv) zj zj⟩
 have arT:Hid (∀W,iu w W->W.cell? ⟨b,0,none⟩=some (.slice A n ca)/\W.cell? ⟨b,1,none⟩=some (.slice A' (n+1) vR)/\dn W A (bo t.1) 9/\dn W A' (aS rs) 160):=by intro W hW;have h1:=hW.aC dM zj zj;obtain⟨c0,c1,_,_⟩:=aO h1;rw[kG]at c0;rw[IJ]at c1;exact⟨c0,c1,hW.eo hta zj zj,hW.eo adA zj zj⟩
 obtain⟨k,yX⟩:=ze r.1.length;have HVE:Hid (∀(i:Nat) (v:Value) (t:Pl.Tr h),vs[i]?=some v->r.1[i]?=some t->fN w3 G v h t none):=λi v t h1 h2=>(hve i v t h1 h2).aa jv;have HTP:=zi (htp.aa jv);rw[yX];rw[yX]at iA;obtain⟨j2,hj2⟩:=ze r.2.length;rw[hj2]at iA|-
 have BR':Hid (ay w3 gr 421 [.slice Ak j2 ck,.slice Ap k cp]):=by have:=BR.out;rw[hj2,yX]at this;exact this
 obtain⟨r0,r1,z0,z1⟩:=aO BR';clear hw hs hr dM GJ ahA hta adA aI bz bg CH B1 B2 yt XH Ca htp hve f1 f2 f3 f4 f5 TR yZ CD J9 eb BR;have ase:i<=60:=zo;obtain⟨L,hL⟩:=ze ((Pl.lone r).isSome);go_enter Tryz.func330,Tryz.ntmps330
 go_upto_region 2 with fail
 go_cut [32]from 22 to 146 (λs32 wx=>s32= .bool L/\Hid (Below w3.heap.size w3 wx))
 case first=>
  by_cases rP:k=1
  ·obtain⟨x,hx⟩:∃x,r.1=[x]:=qy.1 (yX.trans rP);obtain⟨v,hv⟩:∃v,vs[0]?=some v:=⟨_,aF (zC (id PD) (id yX))⟩;have hpx:=HVE.out 0 v x hv (by rw[hx];rfl);obtain⟨b2,off,rfl,g0⟩:=HTP.1.dm _ _ hv;rw[cI]at g0;have HSM:=zi (ZY h x v w3 G hpx (by have:=TP.size x (by rw[hx];simp);omega));have HLX:Hid (L=decide (Pl.rI h x<85)):=by
    rw[Hid,<-hL,adD hx];by_cases h85:Pl.rI h x<85
    ·rw[ah h85,aQ h85];rfl
    ·rw[aj h85,aH h85];rfl
   obtain⟨T,bb,rfl⟩:=hpx.form h x none;have q1:((k:Int)==1)=true:=by subst rP;rfl
   have q2:(0:Int)<(k:Int):=zo;rw[<-HLX.out]at HSM;clear hv hpx rP;go_wp2_with fail;refine HSM.mono ?_;rintro e w4 ⟨rfl,cj⟩;cases L
   all_goals
    go_wp2_with fail;go_meet
    case rel=>exact⟨rfl,cj⟩
  ·have q1:((k:Int)==1)=false:=b9.2 zo;have HLX:Hid (L=false):=by rw[Hid,<-hL,ZU (by rw[yX];exact rP)];rfl
   go_wp2_with fail;go_meet
   case rel=>exact⟨by rw[HLX.out],ak _ _⟩
 case rest=>
  obtain⟨rfl,alu⟩:=hcut;obtain⟨wd,hwd,xG⟩:∃x,x=wc/\Hid (Below w3.heap.size w3 x):=⟨wc,rfl,alu⟩;clear alu;subst hwd
  have HPG:Hid (∀(j rk:Nat) (c:Pl.Tr h) (W:World) (cO:Int) (G':Gh),TW E W cO G'->Ext G G'->rs[j]?=some rk->t.2[j]?=some c->
   bG 274 #[.pointer (some ⟨E.gT,0,none⟩),.pointer (some ⟨rk,0,none⟩),iR (Pl.DW lo t.1 j) (Pl.wW hi t.1 j),.int .i64 ((jt:Int)+1)] W (Yh E 1 cO G' (λw' G'' v=>fN w' G'' v h c none/\∃a,cX w' rk a v) W)):=by
   intro j rk c W cO G' hW hG hr hc;have h1:=Xm.2.2.2.2 c (bO hc);have:=xU E rk h (jt+1) c (Pl.DW lo t.1 j) (Pl.wW hi t.1 j) W cO G' hW (hG _ _ (hgk j rk c hr hc)) (by rw[aH zo];exact h1) (Pl.ff.dm j c HSP hc) hd hn;exact this
  obtain⟨HCD,HWD,BSD,BRD,BXD⟩:=OW (HIW wd (iu.ae xG)) (HW.aa xG) (BS.aa xG BS.lt) (BR'.aa xG BR'.lt) (B3.aa xG B3.lt);have aeE:Hid (iu w wd):=(iu.ae jv).aa xG
  go_upto_if 32 with fail
  go_cut [13,14,15,16]from 33 to 96 (λs13 s14 s15 s16 wx=>∃(a b2:Nat) (r':Pl.Row h) (G':Gh) (cO:Int) (u0 u1:Value),s13= .int .i64 (a:Nat)/\s14= .int .i64 (b2:Nat)/\Hid (Spl E rd G w h i gs gr gx [.string sl,.string sh,.bool bn] t r wx a b2 r' G' cO u0 u1))
  case first=>
   cases L with
   |false=>
    have Pn:Hid (Pl.lone r=none):=by
     have:=hL;rw[Hid];cases h9:Pl.lone r with
     |none=>rfl
     |some y=>rw[h9]at this;cases this
    go_wp2_with fail;go_meet
    case rel=>
     refine⟨i,i+1,r,G,rd,_,_,rfl,by go_num,?_,HWD,Ext.refl G,aeE,tF.refl 1 rd,BSD,BRD,?_,BXD⟩
     ·unfold Pl.spliced;rw[Pn.out]
     ·have:=HRW.aa xG;rw[hj2,yX]at this;exact this
   |true=>
    obtain⟨x,hx⟩:∃x,Pl.lone r=some x:=by
     have:=hL;cases h9:Pl.lone r with
     |none=>rw[h9]at this;cases this
     |some y=>exact⟨y,rfl⟩
    have HX:=zi hx;obtain⟨hxh,aoD⟩:=Pl.Bg TP hx;have LR:=Pl.uf hx;have rP:k=1:=by rw[<-yX,LR];rfl
    obtain⟨v0,hv0⟩:∃v,vs[0]?=some v:=⟨_,aF (zC (id PD) (id yX))⟩;have hpx:=HVE.out 0 v0 x hv0 (by rw[LR];rfl);obtain⟨b0,o0,rfl,_⟩:=HTP.1.dm _ _ hv0;obtain⟨Tx,bx,rfl⟩:=hpx.form h x none;have q2:(0:Int)<(k:Int):=zo;have q2n:0<k:=zo;have hwr:IntKind.i64.wrap ((jt:Int)+1)=(jt:Int)+1:=aY _ (zA hd);clear hx LR rP;by_cases yW:0<i
    ·have q3:(0:Int)<(i:Int):=zo;have q5:((i:Int)-1)=((i-1:Nat):Int):=zo;have q6:((i-1:Nat):Int)<(n:Int)+1:=zo;have q7:((i-1:Nat):Int)<(n:Int):=zo;obtain⟨rk,JY⟩:∃r,rs[i-1]?=some r:=⟨_,aF (by rw[IJ];omega)⟩;obtain⟨c,hc⟩:∃c,t.2[i-1]?=some c:=⟨_,aF (zC (id s9) (id IJ))⟩;obtain⟨key,tZ⟩:∃c,t.1[i-1]?=some c:=⟨_,aF (by rw[kG];omega)⟩;obtain⟨c0,c1,inn,tk,tr⟩:=HCD.out;obtain⟨bk,ok,rfl,g0⟩:=tr.1.dm _ _ (iX JY);unfold dJ at g0;have KD:=zi (E6 (i-1) wd.drew (inn.aa ((ak _ _).drew)) (by rw[kG];omega));obtain⟨e0,e1,e2,_,_,_⟩:=iY BSD;have C0:=zi (TV c1 g0 e0 e1 e2);clear c0 inn tk tr;go_wp2_with fail;refine aN 15 (λW=>W.cell? ⟨b,1,none⟩=some (.slice (some ⟨bk,ok,none⟩) (n+1) vR)/\W.cell? ⟨bk,ok+(i-1),none⟩=some (.pointer (some ⟨rk,0,none⟩))/\W.cell? ⟨gs,0,none⟩=some (.string sl)/\W.cell? ⟨gs,1,none⟩=some (.string sh)/\W.cell? ⟨gs,2,none⟩=some (.bool bn)) (λ_=>True) zp C0 trivial (λaz=>?_);refine zt 0 (h:=zt 1 (h:=zt 2 (h:=zt 3 (h:=zl 4 (h:=zt 5 (h:=zt 6 (h:=zl 7 (h:=zl 8 (h:=zt 9 (h:=zt 10 (h:=zt 12 (h:=zt 13 (h:=?_)))))))))))));refine zr 11 λK hK=>?_;go_simp;refine(KD.mono ?_);rintro e w4 ⟨rfl,Kp⟩;have cj:Below wd.heap.size wd w4:=im Kp;obtain⟨HW4,HC4,BS4⟩:=kt (HWD.aa cj) (HIW w4 ((iu.ae xG).aa cj)) (BSD.aa cj BSD.lt);have HP4:=zi (HPG (i-1) rk c w4 rd G HW4 (Ext.refl G) JY hc);have C4:Hid (w4.cell? ⟨b,1,none⟩=some (.slice (some ⟨bk,ok,none⟩) (n+1) vR)/\w4.cell? ⟨bk,ok+(i-1),none⟩=some (.pointer (some ⟨rk,0,none⟩))/\w4.cell? ⟨gs,0,none⟩=some (.string sl)/\w4.cell? ⟨gs,1,none⟩=some (.string sh)/\w4.cell? ⟨gs,2,none⟩=some (.bool bn)):=
      ⟨HC4.2.1,HC4.2.2.2.2.1.cell _ _ (iX JY),BS4.cell 0,BS4.cell 1,BS4.cell 2⟩
     clear Kp KD;go_wp2_with fail;refine hK.out _ _ ⟨λ_=>C4,trivial⟩ (λaz=>?_);clear hK K;refine zr 14 λK hK=>?_;go_simp;refine HP4.mono ?_;rintro e w5 h5;rcases h5 with⟨v5,G5,J7,rfl,hW5,hE5,mm,hR5,hP5,a5,hA5⟩|⟨fK,rfl,⟨J7,Kf⟩,mm⟩;rotate_left
     ·unfold gU;go_wp2_with fail;exact⟨rfl,.inr ⟨fK,rfl,⟨J7,Kf⟩,(aeE.aa cj).trans mm⟩⟩
     obtain⟨T5,b5,rfl⟩:=hP5.form h c none;have Oh:Hid (iu w w5):=(aeE.aa cj).trans mm;obtain⟨HC5,BS5,BR5,Yi,ajd,adf⟩:=zh6 (HIW w5 (((iu.ae xG).aa cj).trans mm)) (mm.aC BS4 zj zj) (mm.aC (BRD.aa cj BRD.lt) zj zj) (mm.aC (BXD.aa cj BXD.lt) zj zj) (((hpx.aa xG).aa cj).Ir mm hE5) (mm.eo ((HTP.aa xG).aa cj) zj zj);have C5:Hid (w5.cell? ⟨b,1,none⟩=some (.slice (some ⟨bk,ok,none⟩) (n+1) vR)/\w5.cell? ⟨bk,ok+(i-1),none⟩=some (.pointer (some ⟨rk,0,none⟩))/\w5.cell? ⟨gs,0,none⟩=some (.string sl)/\w5.cell? ⟨gs,1,none⟩=some (.string sh)/\w5.cell? ⟨gs,2,none⟩=some (.bool bn)):=
      ⟨HC5.2.1,HC5.2.2.2.2.1.cell _ _ (iX JY),BS5.cell 0,BS5.cell 1,BS5.cell 2⟩
     clear hA5;go_wp2_with fail;refine hK.out _ _ ⟨λ_=>C5,trivial⟩ (λaz=>?_);clear hK K;refine zr 15 λK hK=>?_;go_simp;refine hK.out _ _ ⟨zk zp,trivial⟩ (λaz=>?_);clear hK K;(try simp only[Act.put,zq1,zq2,zP,zq4,zq5,RR]);refine bh zp ?_ _;clear az;obtain⟨ba,oa,hAk,gk⟩:=HC5.2.2.2.1.1.dm _ _ (vJ tZ);subst hAk;have gv:=adf.1.cell _ _ hv0;rw[cI]at gv;obtain⟨D0,KT⟩:=dz (sS HC5.1 gk (BR5.cell 1) gv) (C3 h c x key _ _ w5.drew G5 (hP5.aa ((ak _ _).drew)) (ajd.aa ((ak _ _).drew)) (.inl (Xm.2.2.2.2 c (bO hc))) hxh (Xm.2.2.2.1 key (bO tZ)) (zC (Pl.Fit.size h c (Xm.2.2.2.2 c (bO hc))) aoD));clear gk gv;go_wp2_with fail;refine aN 13 (λW=>W.cell? ⟨b,0,none⟩=some (.slice (some ⟨ba,oa,none⟩) n ca)/\W.cell? ⟨ba,oa+(i-1),none⟩=some (.string (ar key))/\W.cell? ⟨gr,1,none⟩=some (.slice (some ⟨b0,o0,none⟩) k cp)/\W.cell? ⟨b0,o0,none⟩=some (.iface Tx (.pointer (some ⟨bx,0,none⟩)))) (λ_=>True) zp D0 trivial (λaz=>?_);refine zt 0 (h:=zt 1 (h:=zt 2 (h:=zt 3 (h:=zl 4 (h:=zt 5 (h:=zt 6 (h:=zl 7 (h:=zt 8 (h:=zl 9 (h:=zt 10 (h:=zl 11 (h:=?_))))))))))));refine zr 12 λK hK=>?_;go_simp;refine KT.mono ?_;rintro e w6 ⟨rv6,rfl,nT,abq⟩;have nW:Below w5.heap.size w5 w6:=im abq;have ajl:=zi nT;obtain⟨Ak6,ck6,Ap6,cp6,vs6,rfl,_⟩:=nT;obtain⟨BR6,BX6,BS6,HW6,HT6,HC6⟩:=zh6 (BR5.aa nW BR5.lt) (Yi.aa nW Yi.lt) (BS5.aa nW BS5.lt) (hW5.aa nW) (Oh.aa nW) (HIW w6 (((iu.ae xG).aa cj).trans (mm.aa nW)));have D6:Hid (w6.cell? ⟨b,0,none⟩=some (.slice (some ⟨ba,oa,none⟩) n ca)/\w6.cell? ⟨ba,oa+(i-1),none⟩=some (.string (ar key))/\w6.cell? ⟨gr,1,none⟩=some (.slice (some ⟨b0,o0,none⟩) k cp)/\w6.cell? ⟨b0,o0,none⟩=some (.iface Tx (.pointer (some ⟨bx,0,none⟩)))):=by have gv:=(adf.aa nW).1.cell _ _ hv0;rw[cI]at gv;exact⟨HC6.1,HC6.2.2.2.1.1.cell _ _ (vJ tZ),BR6.cell 1,gv⟩
     obtain⟨x0,x1,y0,y1⟩:=aO BR6;clear nW abq KT;go_wp2_with fail;refine hK.out _ _ ⟨λ_=>D6,trivial⟩ (λaz=>?_);clear hK K;refine zr 13 λK hK=>?_;go_simp;refine hK.out _ _ ⟨zk zp,trivial⟩ (λaz=>?_);clear hK K;(try simp only[Act.put,zq1,zq2,zP,zq4,zq5,RR]);refine bh zp ?_ _;clear az;go_wp2_with fail;go_meet
     case rel=>have ho:=ng w6 gr (.slice Ak6 (Pl.ft h c key x).2.length ck6) (.slice Ap6 (Pl.ft h c key x).1.length cp6);have hk:=aD BR6;refine⟨i-1,i+1,Pl.ft h c key x,G5,J7,_,_,rfl,by go_num,?_,HW6.only ho hk zj zj zj zj zj,hE5,HT6.since ho (λx hx e=>by have:=KO.out;omega),hR5,ho.cY hk BS6.out zj,(BR6.bw 0 _).bw 1 _,mo BR6.out ajl.out,ho.aC BX6.out (λe=>KO.2.2.2 e.symm)⟩;unfold Pl.spliced;rw[HX.out];simp only;rw[ah yW,hc,tZ]
    ·have q3:¬(0:Int)<(i:Int):=zo;have q6:(i:Int)+1<(n:Int)+1:=zo;have q7:(i:Int)<(n:Int):=zo;have akg:IntKind.i64.wrap ((i:Int)+1)=(i:Int)+1:=aY _ zo;obtain⟨rk,JY⟩:∃r,rs[i+1]?=some r:=⟨_,aF (by rw[IJ];omega)⟩;obtain⟨c,hc⟩:∃c,t.2[i+1]?=some c:=⟨_,aF (zC (id s9) (id IJ))⟩;obtain⟨key,tZ⟩:∃c,t.1[i]?=some c:=⟨_,aF (by rw[kG];omega)⟩;obtain⟨c0,c1,inn,tk,tr⟩:=HCD.out;obtain⟨bk,ok,rfl,g0⟩:=tr.1.dm _ _ (iX JY);unfold dJ at g0;have KD:=zi (E6 (i+1) wd.drew (inn.aa ((ak _ _).drew)) (by rw[kG];omega));obtain⟨e0,e1,e2,_,_,_⟩:=iY BSD;have C0:=zi (TV c1 g0 e0 e1 e2);clear c0 inn tk tr;go_wp2_with fail;refine aN 17 (λW=>W.cell? ⟨b,1,none⟩=some (.slice (some ⟨bk,ok,none⟩) (n+1) vR)/\W.cell? ⟨bk,ok+(i+1),none⟩=some (.pointer (some ⟨rk,0,none⟩))/\W.cell? ⟨gs,0,none⟩=some (.string sl)/\W.cell? ⟨gs,1,none⟩=some (.string sh)/\W.cell? ⟨gs,2,none⟩=some (.bool bn)) (λ_=>True) zp C0 trivial (λaz=>?_);refine zt 0 (h:=zt 1 (h:=zt 2 (h:=zt 3 (h:=zl 4 (h:=zt 5 (h:=zt 6 (h:=zt 7 (h:=zl 8 (h:=zl 9 (h:=zt 10 (h:=zt 11 (h:=zt 12 (h:=zt 14 (h:=zt 15 (h:=?_)))))))))))))));refine zr 13 λK hK=>?_;go_simp;refine(KD.mono ?_);rintro e w4 ⟨rfl,Kp⟩;have cj:Below wd.heap.size wd w4:=im Kp;obtain⟨HW4,HC4,BS4⟩:=kt (HWD.aa cj) (HIW w4 ((iu.ae xG).aa cj)) (BSD.aa cj BSD.lt);have HP4:=zi (HPG (i+1) rk c w4 rd G HW4 (Ext.refl G) JY hc);have C4:Hid (w4.cell? ⟨b,1,none⟩=some (.slice (some ⟨bk,ok,none⟩) (n+1) vR)/\w4.cell? ⟨bk,ok+(i+1),none⟩=some (.pointer (some ⟨rk,0,none⟩))/\w4.cell? ⟨gs,0,none⟩=some (.string sl)/\w4.cell? ⟨gs,1,none⟩=some (.string sh)/\w4.cell? ⟨gs,2,none⟩=some (.bool bn)):=
      ⟨HC4.2.1,HC4.2.2.2.2.1.cell _ _ (iX JY),BS4.cell 0,BS4.cell 1,BS4.cell 2⟩
     clear Kp KD;go_wp2_with fail;refine hK.out _ _ ⟨λ_=>C4,trivial⟩ (λaz=>?_);clear hK K;refine zr 16 λK hK=>?_;go_simp;refine HP4.mono ?_;rintro e w5 h5;rcases h5 with⟨v5,G5,J7,rfl,hW5,hE5,mm,hR5,hP5,a5,hA5⟩|⟨fK,rfl,⟨J7,Kf⟩,mm⟩;rotate_left
     ·unfold gU;go_wp2_with fail;exact⟨rfl,.inr ⟨fK,rfl,⟨J7,Kf⟩,(aeE.aa cj).trans mm⟩⟩
     obtain⟨T5,b5,rfl⟩:=hP5.form h c none;have Oh:Hid (iu w w5):=(aeE.aa cj).trans mm;obtain⟨HC5,BS5,BR5,Yi,ajd,adf⟩:=zh6 (HIW w5 (((iu.ae xG).aa cj).trans mm)) (mm.aC BS4 zj zj) (mm.aC (BRD.aa cj BRD.lt) zj zj) (mm.aC (BXD.aa cj BXD.lt) zj zj) (((hpx.aa xG).aa cj).Ir mm hE5) (mm.eo ((HTP.aa xG).aa cj) zj zj);have C5:Hid (w5.cell? ⟨b,1,none⟩=some (.slice (some ⟨bk,ok,none⟩) (n+1) vR)/\w5.cell? ⟨bk,ok+(i+1),none⟩=some (.pointer (some ⟨rk,0,none⟩))/\w5.cell? ⟨gs,0,none⟩=some (.string sl)/\w5.cell? ⟨gs,1,none⟩=some (.string sh)/\w5.cell? ⟨gs,2,none⟩=some (.bool bn)):=
      ⟨HC5.2.1,HC5.2.2.2.2.1.cell _ _ (iX JY),BS5.cell 0,BS5.cell 1,BS5.cell 2⟩
     clear hA5;go_wp2_with fail;refine hK.out _ _ ⟨λ_=>C5,trivial⟩ (λaz=>?_);clear hK K;refine zr 17 λK hK=>?_;go_simp;refine hK.out _ _ ⟨zk zp,trivial⟩ (λaz=>?_);clear hK K;(try simp only[Act.put,zq1,zq2,zP,zq4,zq5,RR]);refine bh zp ?_ _;clear az;obtain⟨ba,oa,hAk,gk⟩:=HC5.2.2.2.1.1.dm _ _ (vJ tZ);subst hAk;have gv:=adf.1.cell _ _ hv0;rw[cI]at gv;obtain⟨D0,KT⟩:=dz (sS HC5.1 gk (BR5.cell 1) gv) (C3 h x c key _ _ w5.drew G5 (ajd.aa ((ak _ _).drew)) (hP5.aa ((ak _ _).drew)) hxh (.inl (Xm.2.2.2.2 c (bO hc))) (Xm.2.2.2.1 key (bO tZ)) (zC (Pl.Fit.size h c (Xm.2.2.2.2 c (bO hc))) aoD));clear gk gv;go_wp2_with fail;refine aN 13 (λW=>W.cell? ⟨b,0,none⟩=some (.slice (some ⟨ba,oa,none⟩) n ca)/\W.cell? ⟨ba,oa+i,none⟩=some (.string (ar key))/\W.cell? ⟨gr,1,none⟩=some (.slice (some ⟨b0,o0,none⟩) k cp)/\W.cell? ⟨b0,o0,none⟩=some (.iface Tx (.pointer (some ⟨bx,0,none⟩)))) (λ_=>True) zp D0 trivial (λaz=>?_);refine zt 0 (h:=zl 1 (h:=zt 2 (h:=zl 3 (h:=zt 4 (h:=zt 5 (h:=zt 6 (h:=zl 7 (h:=zt 8 (h:=zt 9 (h:=zl 10 (h:=zt 11 (h:=?_))))))))))));refine zr 12 λK hK=>?_;go_simp;refine KT.mono ?_;rintro e w6 ⟨rv6,rfl,nT,abq⟩;have nW:Below w5.heap.size w5 w6:=im abq;have ajl:=zi nT;obtain⟨Ak6,ck6,Ap6,cp6,vs6,rfl,_⟩:=nT;obtain⟨BR6,BX6,BS6,HW6,HT6,HC6⟩:=zh6 (BR5.aa nW BR5.lt) (Yi.aa nW Yi.lt) (BS5.aa nW BS5.lt) (hW5.aa nW) (Oh.aa nW) (HIW w6 (((iu.ae xG).aa cj).trans (mm.aa nW)));have D6:Hid (w6.cell? ⟨b,0,none⟩=some (.slice (some ⟨ba,oa,none⟩) n ca)/\w6.cell? ⟨ba,oa+i,none⟩=some (.string (ar key))/\w6.cell? ⟨gr,1,none⟩=some (.slice (some ⟨b0,o0,none⟩) k cp)/\w6.cell? ⟨b0,o0,none⟩=some (.iface Tx (.pointer (some ⟨bx,0,none⟩)))):=by have gv:=(adf.aa nW).1.cell _ _ hv0;rw[cI]at gv;exact⟨HC6.1,HC6.2.2.2.1.1.cell _ _ (vJ tZ),BR6.cell 1,gv⟩
     obtain⟨x0,x1,y0,y1⟩:=aO BR6;clear nW abq KT;go_wp2_with fail;refine hK.out _ _ ⟨λ_=>D6,trivial⟩ (λaz=>?_);clear hK K;refine zr 13 λK hK=>?_;go_simp;refine hK.out _ _ ⟨zk zp,trivial⟩ (λaz=>?_);clear hK K;(try simp only[Act.put,zq1,zq2,zP,zq4,zq5,RR]);refine bh zp ?_ _;clear az;go_wp2_with fail;go_meet
     case rel=>have ho:=ng w6 gr (.slice Ak6 (Pl.ft h x key c).2.length ck6) (.slice Ap6 (Pl.ft h x key c).1.length cp6);have hk:=aD BR6;refine⟨i,i+2,Pl.ft h x key c,G5,J7,_,_,rfl,by go_num,?_,HW6.only ho hk zj zj zj zj zj,hE5,HT6.since ho (λx hx e=>by have:=KO.out;omega),hR5,ho.cY hk BS6.out zj,(BR6.bw 0 _).bw 1 _,mo BR6.out ajl.out,ho.aC BX6.out (λe=>KO.2.2.2 e.symm)⟩;unfold Pl.spliced;rw[HX.out];simp only;rw[aj yW,hc,tZ]
  case rest=>
   obtain⟨a,b2,r',G',cO,u0,u1,rfl,rfl,asW⟩:=hcut;obtain⟨hsp,hW,hE,hT,hR,hBS,hBR,hRW,hBX⟩:=asW.out;obtain⟨we,hwe,hEE⟩:∃x,x=wc/\True:=⟨wc,rfl,trivial⟩;subst hwe;have Bu:t.2.length=t.1.length+1:=Xm.1;obtain⟨sb1,sb2⟩:=xA Bu (by rw[kG];exact Pk) hsp;obtain⟨sr1,sr2,sr3,sr4⟩:=Qh Xm (by rw[kG];exact Pk) TP Uq hsp;have ajG:Hid _:=Rp hsp;obtain⟨e,he⟩:=ze (b2-1);have bz:b2=e+1:=zo;rw[he]at sr1 sr2 ajG;rw[kG]at sb2;obtain⟨Kk,hKk⟩:=ze (t.1.take a++r'.2++t.1.drop e);have HKK:=zi hKk;rw[hKk]at sr1 sr2 ajG;obtain⟨aqO,aso,HW',HE',HT',HR'⟩:=zh6 sr1 sr2 hW hE hT hR;have TX:=hRW;obtain⟨Ak',ck',Ap',cp',gj,ev,aoU,amA,api,arx,aje,alK⟩:=TX;injection ev with ev;have ev:=congrArg Array.toList ev;simp only[uM,and_true]at ev;obtain⟨rfl,rfl⟩:=ev;obtain⟨j3,hj3⟩:=ze r'.2.length;obtain⟨k3,Mw⟩:=ze r'.1.length;rw[hj3]at hBR aoU sr3 sr4;rw[Mw]at hBR amA aje sr3;have HIE:=zi (λ(W:World) (hW:Below we.heap.size we W)=>arT W (hT.aa hW));have hen:e<=n:=zo;have han:a<=e:=zo;obtain⟨c0,c1,tk,tr⟩:=HIE we (ak _ _);obtain⟨ba,oa,hA⟩:=tk.Jk (by
    intro e9;have:(bo t.1).length=n:=by unfold bo;rw[eT,kG]
    rw[e9]at this;simp at this;omega)
   subst hA;obtain⟨br,orr,hA'⟩:=tr.Jk (by
    intro e9;have:(aS rs).length=n+1:=by unfold aS;rw[eT,IJ]
    rw[e9]at this;simp at this)
   subst hA';have q1:(a:Int)<=(n:Int):=zo;have q2:(a:Int)<=(ca:Int):=zC ID.1 kG;have q3:((b2:Int)-1)=(e:Int):=zo;have q4:(e:Int)<=(n:Int):=zo;have q5:(n:Int)<=(ca:Int):=zC ID.1 kG;have q6:(a:Int)<=(n:Int)+1:=zo;have q7:(a:Int)<=(vR:Int):=zC ID.2 IJ;have q8:(b2:Int)<=(n:Int)+1:=zo;have q9:(n:Int)+1<=(vR:Int):=zC ID.2 IJ;have Es:Hid (e<=n/\a<=e/\b2=e+1/\n<=60/\j3<=3/\k3=j3+1):=⟨hen,han,bz,arn,sr4,sr3⟩;have HT1:Hid (∀W,Below we.heap.size we W->Src W (some ⟨ba,oa,none⟩) (bo (t.1.take a))):=λW hW=>by have:=((HIE W hW).2.2.1.take a).1;unfold bo at this|-;rw[qR];exact this
   have tl:Hid (∀W,Below we.heap.size we W->Src W (some ⟨ba,oa+e,none⟩) (bo (t.1.drop e))):=λW hW=>by have:=((HIE W hW).2.2.1.drop e).1;unfold bo at this|-;rw[vw];exact this
   have Wo:Hid (∀W,Below we.heap.size we W->Src W (some ⟨br,orr,none⟩) (aS (rs.take a))):=λW hW=>by have:=((HIE W hW).2.2.2.take a).1;unfold aS at this|-;rw[qR];exact this
   have F0:Hid (∀W,Below we.heap.size we W->Src W (some ⟨br,orr+b2,none⟩) (aS (rs.drop b2))):=λW hW=>by have:=((HIE W hW).2.2.2.drop b2).1;unfold aS at this|-;rw[vw];exact this
   obtain⟨y0,y1,_,_⟩:=aO hBR;obtain⟨S0,T8⟩:=dz (show we.cell? ⟨b,0,none⟩=some (.slice (some ⟨ba,oa,none⟩) n ca)/\we.cell? ⟨gr,0,none⟩=some (.slice Ak' j3 ck')from⟨c0,y0⟩) (λ(W:World) (hW:Below we.heap.size we W)=>(show W.cell? ⟨b,0,none⟩=some (.slice (some ⟨ba,oa,none⟩) n ca)/\W.cell? ⟨gr,0,none⟩=some (.slice Ak' j3 ck')from⟨(HIE W hW).1,(aO (hBR.aa hW hBR.lt)).1⟩));have RN:Hid (Rw 9 1 we.drew we.heap.size (.slice none 0 0) 0 []):=Rw.nil _ _;clear tk tr c0 y0 hsp hW hE hT hR hBS hRW Bu sb1 sb2 sr1 sr2 sr3 sr4 he bz hKk aoU amA hEE hen han Ue ase
   go_upto_region 12 with fail
   go_cut [17]from 97 to 146 (λs17 wx=>Hid (Rw 9 1 wx we.heap.size s17 (a+j3+(n-e)) (bo Kk))/\Hid (Below we.heap.size we wx))
   case first=>
    have hwe:IntKind.i64.wrap (e:Int)=(e:Int):=aY _ zo;have q10:(a:Int)<=(e:Int):=zA Es.out;have hdc:decide (ca=e)=true\/decide (ca=e)=false:=by cases decide (ca=e)<;>simp
    rcases hdc with fo|fo
    ·have fo:=jd fo;subst fo;have Pn:Hid (∀(W:World) (A:Option Addr),Src W A (bo (t.1.drop ca))):=λW A=> .inl (by
      have:t.1.length<=ca:=zA ID.1;rw[nd.2 this];rfl)
     go_wp2_with fail
     go_region_held3 (λW:World=>W.cell? ⟨b,0,none⟩=some (.slice (some ⟨ba,oa,none⟩) n ca)/\W.cell? ⟨gr,0,none⟩=some (.slice Ak' j3 ck')) (first|exact S0|exact S1|exact S2|exact S3) (first
      |(refine fi Tryz.ji rfl (.tmp 97) (.tmp 103) rfl rfl RN (some ⟨ba,oa,none⟩) a ca (bo (t.1.take a)) rfl (by rw[jo,aP,kG,dt (zA Es.out)]) (by exact HT1 we (ak _ _)) (fU _) (zA Es.out) (by exact ai _) ?_
        intro v2 w2 r2 CB;rw[bZ,aX]at r2;have R2:=zi r2;have M2:Hid (Mv we w2 (.slice none 0 0) v2):=Mv.u9 (aq:=0) (n:=0) (cs:=[]) ((ak we.heap.size we).drew) CB;have eY:=zi (Mv.fresh M2);have S1:=zi (T8 _ eY);clear r2 CB)
      |(refine fi Tryz.ji rfl (.tmp 104) (.tmp 106) rfl rfl R2 Ak' j3 ck' (bo r'.2) rfl (by rw[jo,hj3]) (by exact(api.aa eY).1) (fU _) (zA Es.out) eY.size ?_
        intro v3 w3' r3 m3';obtain⟨R3,eI⟩:=dz r3 (Mv.since eY R2 m3');have S2:=zi (T8 _ eI);clear r3 m3')
      |(refine fi Tryz.ji rfl (.tmp 107) (.tmp 114) rfl rfl R3 _ (n-ca) _ (bo (t.1.drop ca)) rfl (by rw[jo,bT,kG]) (Pn _ _) (fU _) (zA Es.out) eI.size ?_
        intro v4 w4 r4 m4';have ib:=zi (Mv.since eI R3 m4');have S3:=zi (T8 _ ib);rw[<-jJ,<-jJ,HKK.out]at r4;have R4:=zi r4;clear r4 m4')
      |fail)
     go_wp2_with fail;go_meet
     case rel=>exact⟨R4,ib⟩
    ·have fo:=of_decide_eq_false fo;go_wp2_with fail
     go_region_held3 (λW:World=>W.cell? ⟨b,0,none⟩=some (.slice (some ⟨ba,oa,none⟩) n ca)/\W.cell? ⟨gr,0,none⟩=some (.slice Ak' j3 ck')) (first|exact S0|exact S1|exact S2|exact S3) (first
      |(refine fi Tryz.ji rfl (.tmp 97) (.tmp 103) rfl rfl RN (some ⟨ba,oa,none⟩) a ca (bo (t.1.take a)) rfl (by rw[jo,aP,kG,dt (zA Es.out)]) (by exact HT1 we (ak _ _)) (fU _) (zA Es.out) (by exact ai _) ?_
        intro v2 w2 r2 CB;rw[bZ,aX]at r2;have R2:=zi r2;have M2:Hid (Mv we w2 (.slice none 0 0) v2):=Mv.u9 (aq:=0) (n:=0) (cs:=[]) ((ak we.heap.size we).drew) CB;have eY:=zi (Mv.fresh M2);have S1:=zi (T8 _ eY);clear r2 CB)
      |(refine fi Tryz.ji rfl (.tmp 104) (.tmp 106) rfl rfl R2 Ak' j3 ck' (bo r'.2) rfl (by rw[jo,hj3]) (by exact(api.aa eY).1) (fU _) (zA Es.out) eY.size ?_
        intro v3 w3' r3 m3';obtain⟨R3,eI⟩:=dz r3 (Mv.since eY R2 m3');have S2:=zi (T8 _ eI);clear r3 m3')
      |(refine fi Tryz.ji rfl (.tmp 107) (.tmp 114) rfl rfl R3 _ (n-e) _ (bo (t.1.drop e)) rfl (by rw[jo,bT,kG]) (tl _ eI) (fU _) (zA Es.out) eI.size ?_
        intro v4 w4 r4 m4';have ib:=zi (Mv.since eI R3 m4');have S3:=zi (T8 _ ib);rw[<-jJ,<-jJ,HKK.out]at r4;have R4:=zi r4;clear r4 m4')
      |fail)
     go_wp2_with fail;go_meet
     case rel=>exact⟨R4,ib⟩
   case rest=>
    obtain⟨anm,aoo⟩:=hcut;obtain⟨wf,hwf,HR,Yj⟩:∃x,x=wc/\Hid (Rw 9 1 x we.heap.size u17 (a+j3+(n-e)) (bo Kk))/\Hid (Below we.heap.size we x):=⟨wc,rfl,anm,aoo⟩;clear anm aoo;subst hwf;obtain⟨A1,k1,e1,rP,TN,_⟩:=HR.eo;subst e1;have SW:=zi (λ(W:World) (hW:Below wf.heap.size wf W)=>(show W.cell? ⟨b,1,none⟩=some (.slice (some ⟨br,orr,none⟩) (n+1) vR)/\W.cell? ⟨gr,1,none⟩=some (.slice Ap' k3 cp')from by
     have h9:=Yj.trans (hW.mono Yj.size);exact⟨(HIE W h9).2.1,(aO (hBR.aa h9 hBR.lt)).2.1⟩))
    obtain⟨T0,agV,atb⟩:=kt (SW wf (ak _ _)) (λ(W:World) (hW:Below wf.heap.size wf W)=>Wo W (Yj.trans (hW.mono Yj.size))) (λ(W:World) (hW:Below wf.heap.size wf W)=>F0 W (Yj.trans (hW.mono Yj.size)));have ajN:Hid (∀W,Below wf.heap.size wf W->bG 325 #[.slice Ap' k3 cp'] W λe w'=>∃v rs,e= .returned v/\Rw 160 1 w' W.heap.size v rs.length (aS rs)/\Made W w' gj k3 rs/\Below W.heap.size W w'):=λW hW=>by have h9:=Yj.trans (hW.mono Yj.size);have:=QM Ap' cp' h gj r'.1 W G' (arx.aa h9) (by rw[Mw];exact aje) (by rw[Mw];have:=Es.out;omega) (λi v t h1 h2=>(alK i v t h1 h2).aa h9);rw[Mw]at this;exact this
    have aiE:=zi (ajN wf.drew ((ak _ _).drew));have RN0:Hid (Rw 160 1 wf.drew wf.heap.size (.slice none 0 0) 0 []):=Rw.nil _ _;have p9:IntKind.i64.wrap (b2:Int)=(b2:Int):=aY _ (zA Es.out);clear S0 RN
    go_upto_region 13 with fail
    go_cut [18]from 116 to 146 (λs18 wx=>∃FP,Hid (Rw 160 1 wx wf.heap.size s18 (a+k3+(n+1-b2)) (aS (rs.take a++FP++rs.drop b2)))/\Hid (Below wf.heap.size wf wx)/\Hid (Made wf wx gj k3 FP))
    case first=>
     have q10:(a:Int)<=(b2:Int):=zA Es.out;have hdc:decide (vR=b2)=true\/decide (vR=b2)=false:=by cases decide (vR=b2)<;>simp
     rcases hdc with fo|fo
     ·have fo:=jd fo;have Pn:Hid (∀(W:World) (A:Option Addr),Src W A (aS (rs.drop b2))):=λW A=> .inl (by
       have:rs.length<=b2:=zA ID.2;rw[nd.2 this];rfl)
      subst fo;go_wp2_with fail
      go_region_held3 (λW:World=>W.cell? ⟨b,1,none⟩=some (.slice (some ⟨br,orr,none⟩) (n+1) vR)/\W.cell? ⟨gr,1,none⟩=some (.slice Ap' k3 cp')) (first|exact T0|exact T1|exact T2|exact T3|exact T4) (first
       |(refine fi Tryz.ou rfl (.tmp 116) (.tmp 122) rfl rfl RN0 (some ⟨br,orr,none⟩) a vR (aS (rs.take a)) rfl (by rw[fL,aP,IJ,dt (zA Es.out)]) (by exact agV wf (ak _ _)) (eM _) (zA Es.out) (by exact ai _) ?_
         intro v2 w2 r2 CB;rw[bZ,aX]at r2;have R2:=zi r2;have M2:Hid (Mv wf w2 (.slice none 0 0) v2):=Mv.u9 (aq:=0) (n:=0) (cs:=[]) ((ak wf.heap.size wf).drew) CB;have eY:=zi (Mv.fresh M2);obtain⟨T1,HCF⟩:=dz (SW _ eY) (ajN w2 eY);clear r2 CB)
       |(go_at_call 325
         refine HCF.mono ?_;rintro e3 wj ⟨v3,FP,rfl,r3,lb,bg⟩;have JA:=zi (R2.aa bg);obtain⟨AB,cB,rfl,_,tB,_⟩:=r3.eo;have rN:=lb.1;rw[rN];have JB:=zi tB.1;have JL:Hid (FP.length=k3):=rN;obtain⟨JH,JM⟩:=dz (eY.trans (bg.mono eY.size)) (lb.low eY.size);have T2:=zi (SW _ JH);clear r3 lb bg tB rN)
       |(go_at_call 325
         refine aiE.mono ?_;rintro e3 w2 ⟨v3,FP,rfl,r3,lb,AO⟩;have bg:Below wf.heap.size wf w2:=im AO;obtain⟨AB,cB,rfl,_,tB,_⟩:=r3.eo;have rN:=lb.1;rw[rN];have TB2:=zi tB;have JL:Hid (FP.length=k3):=rN;have Of:=zi bg;have akR:Hid (Made wf w2 gj k3 FP):=lb.low (ai _);have RN2:Hid (Rw 160 1 w2 wf.heap.size (.slice none 0 0) 0 []):=Rw.nil _ _;have T1:=zi (SW _ bg);clear r3 lb bg AO tB rN)
       |(refine fi Tryz.ou rfl (.tmp 116) (.tmp 122) rfl rfl RN2 (some ⟨br,orr,none⟩) a vR (aS (rs.take a)) rfl (by rw[fL,aP,IJ,dt (zA Es.out)]) (by exact agV w2 Of) (eM _) (zA Es.out) Of.size ?_
         intro v2 wj r2 CB;rw[bZ,aX]at r2;have JA:=zi r2;have tu:=Mv.fresh CB;have JB:=zi (TB2.aa tu).1;obtain⟨JH,JM⟩:=dz (Of.trans (tu.mono Of.size)) (akR.only (ag.ae tu (λ_=>False)) (gG _) zu);have T2:=zi (SW _ JH);clear r2 CB tu)
       |(refine fi Tryz.ou rfl (.tmp 123) (.tmp 126) rfl rfl JA AB k3 cB (aS FP) rfl (by rw[fL,JL.out]) (by exact JB) (eM _) (zA Es.out) JH.size ?_
         intro v5 w5 r5 m5;obtain⟨R5,uY,HM5⟩:=kt r5 (Mv.since JH JA m5) (JM.only m5.only JA.oM zj);have T3:=zi (SW _ uY);clear r5 m5)
       |(refine fi Tryz.ou rfl (.tmp 127) (.tmp 133) rfl rfl R5 _ (n+1-vR) _ (aS (rs.drop vR)) rfl (by rw[fL,bT,IJ]) (Pn _ _) (eM _) (zA Es.out) uY.size ?_
         intro v6 w6 r6 m6;obtain⟨zv,HM6⟩:=dz (Mv.since uY R5 m6) (HM5.only m6.only R5.oM zj);have T4:=zi (SW _ zv);rw[<-jH,<-jH]at r6;have R6:=zi r6;clear r6 m6)
       |fail)
      all_goals
       go_wp2_with fail;go_meet
       case rel=>exact⟨FP,R6,zv,HM6⟩
     ·have fo:=of_decide_eq_false fo;go_wp2_with fail
      go_region_held3 (λW:World=>W.cell? ⟨b,1,none⟩=some (.slice (some ⟨br,orr,none⟩) (n+1) vR)/\W.cell? ⟨gr,1,none⟩=some (.slice Ap' k3 cp')) (first|exact T0|exact T1|exact T2|exact T3|exact T4) (first
       |(refine fi Tryz.ou rfl (.tmp 116) (.tmp 122) rfl rfl RN0 (some ⟨br,orr,none⟩) a vR (aS (rs.take a)) rfl (by rw[fL,aP,IJ,dt (zA Es.out)]) (by exact agV wf (ak _ _)) (eM _) (zA Es.out) (by exact ai _) ?_
         intro v2 w2 r2 CB;rw[bZ,aX]at r2;have R2:=zi r2;have M2:Hid (Mv wf w2 (.slice none 0 0) v2):=Mv.u9 (aq:=0) (n:=0) (cs:=[]) ((ak wf.heap.size wf).drew) CB;have eY:=zi (Mv.fresh M2);obtain⟨T1,HCF⟩:=dz (SW _ eY) (ajN w2 eY);clear r2 CB)
       |(go_at_call 325
         refine HCF.mono ?_;rintro e3 wj ⟨v3,FP,rfl,r3,lb,bg⟩;have JA:=zi (R2.aa bg);obtain⟨AB,cB,rfl,_,tB,_⟩:=r3.eo;have rN:=lb.1;rw[rN];have JB:=zi tB.1;have JL:Hid (FP.length=k3):=rN;obtain⟨JH,JM⟩:=dz (eY.trans (bg.mono eY.size)) (lb.low eY.size);have T2:=zi (SW _ JH);clear r3 lb bg tB rN)
       |(go_at_call 325
         refine aiE.mono ?_;rintro e3 w2 ⟨v3,FP,rfl,r3,lb,AO⟩;have bg:Below wf.heap.size wf w2:=im AO;obtain⟨AB,cB,rfl,_,tB,_⟩:=r3.eo;have rN:=lb.1;rw[rN];have TB2:=zi tB;have JL:Hid (FP.length=k3):=rN;have Of:=zi bg;have akR:Hid (Made wf w2 gj k3 FP):=lb.low (ai _);have RN2:Hid (Rw 160 1 w2 wf.heap.size (.slice none 0 0) 0 []):=Rw.nil _ _;have T1:=zi (SW _ bg);clear r3 lb bg AO tB rN)
       |(refine fi Tryz.ou rfl (.tmp 116) (.tmp 122) rfl rfl RN2 (some ⟨br,orr,none⟩) a vR (aS (rs.take a)) rfl (by rw[fL,aP,IJ,dt (zA Es.out)]) (by exact agV w2 Of) (eM _) (zA Es.out) Of.size ?_
         intro v2 wj r2 CB;rw[bZ,aX]at r2;have JA:=zi r2;have tu:=Mv.fresh CB;have JB:=zi (TB2.aa tu).1;obtain⟨JH,JM⟩:=dz (Of.trans (tu.mono Of.size)) (akR.only (ag.ae tu (λ_=>False)) (gG _) zu);have T2:=zi (SW _ JH);clear r2 CB tu)
       |(refine fi Tryz.ou rfl (.tmp 123) (.tmp 126) rfl rfl JA AB k3 cB (aS FP) rfl (by rw[fL,JL.out]) (by exact JB) (eM _) (zA Es.out) JH.size ?_
         intro v5 w5 r5 m5;obtain⟨R5,uY,HM5⟩:=kt r5 (Mv.since JH JA m5) (JM.only m5.only JA.oM zj);have T3:=zi (SW _ uY);clear r5 m5)
       |(refine fi Tryz.ou rfl (.tmp 127) (.tmp 133) rfl rfl R5 _ (n+1-b2) _ (aS (rs.drop b2)) rfl (by rw[fL,bT,IJ]) (atb _ uY) (eM _) (zA Es.out) uY.size ?_
         intro v6 w6 r6 m6;obtain⟨zv,HM6⟩:=dz (Mv.since uY R5 m6) (HM5.only m6.only R5.oM zj);have T4:=zi (SW _ zv);rw[<-jH,<-jH]at r6;have R6:=zi r6;clear r6 m6)
       |fail)
      all_goals
       go_wp2_with fail;go_meet
       case rel=>exact⟨FP,R6,zv,HM6⟩
    case rest=>
     obtain⟨FP,alH,alW,anS⟩:=hcut;obtain⟨wg,hwg,HRR,C9,HMM⟩:∃x,x=wc/\Hid (Rw 160 1 x wf.heap.size u18 (a+k3+(n+1-b2)) (aS (rs.take a++FP++rs.drop b2)))/\Hid (Below wf.heap.size wf x)/\Hid (Made wf x gj k3 FP):=⟨wc,rfl,alH,alW,anS⟩;clear alH alW anS;subst hwg;obtain⟨A2,k2,e2,pK,wC,_⟩:=HRR.eo;subst e2;have Bu:t.2.length=n+1:=zC s9 IJ;have hWf:=HW'.aa Yj;have hml:=HMM.1;obtain⟨i1,i2,i3⟩:=hWf.inv.refs C9 (rs:=FP) (vs:=gj) (ts:=r'.1) (by rw[Mw];exact hml) (by rw[Mw];exact aje) HMM.2.1 (λr hr=>(HMM.2.2.1 r hr).1) HMM.2.2.2 (λi v t h1 h2=>(alK i v t h1 h2).aa Yj);obtain⟨G2,hG2⟩:=ze (G'.kids wf.heap.size h FP r'.1);rw[hG2]at i1 i2 i3;have HTW:Hid (TW E wg cO G2):=⟨hWf.tree.aa C9 hWf.tree.lt,hWf.gq.aa C9,i1,hWf.aA,⟨λk x hk=>by rw[<-hG2]at hk;exact(Gh.JN hk).elim (hWf.low.g k x) (λhl=> .inl (ao hWf.aq hl)),hWf.low.d,hWf.low.t⟩,ao hWf.aq C9.size⟩;obtain⟨CS,hCS⟩:=ze (t.2.take a++r'.1++t.2.drop b2);obtain⟨RS,hRS⟩:=ze (rs.take a++FP++rs.drop b2);have Zv:∀(i r:Nat) (c:Pl.Tr h),RS[i]?=some r->CS[i]?=some c->G2 r=some ⟨h,c⟩:=by
      rw[<-hCS,<-hRS];refine wT (by rw[ax,ax,aP,aP,IJ,Bu,hml,Mw]) (wT (by rw[aP,aP,IJ,Bu]) (λi r c h1 h2=>?_) i3) (λi r c h1 h2=>?_)
      ·rcases eJ i a with hi|hi
       ·rw[AE hi]at h1 h2;exact i2 _ _ (HE' _ _ (hgk i r c h1 h2))
       ·rw[oK (by rw[aP];omega)]at h1;cases h1
      ·rw[lO]at h1 h2;exact i2 _ _ (HE' _ _ (hgk _ r c h1 h2))
     have ais:RS.length=a+k3+(n+1-b2):=by rw[<-hRS,ax,ax,aP,bT,IJ,hml];have:=Es.out;omega
     have art:CS.length=a+k3+(n+1-b2):=by rw[<-hCS,ax,ax,aP,bT,Bu,Mw];have:=Es.out;omega
     have hKl:Kk.length=a+j3+(n-e):=by rw[<-HKK.out,ax,ax,aP,bT,kG,hj3];have:=Es.out;omega
     rw[hRS]at wC;have ahG:Hid (Pl.fE t.1 t.2 i r=if Kk=[]then(([(([],CS):List Pl.Key×List (Pl.Tr h))],[]):Pl.Row (h+1))else Pl.fD Kk CS):=by rw[Hid,ajG.out,hCS];rfl
     have HEX:=zi (HE'.trans i2);have hwe:Below we.heap.size we wg:=Yj.trans (C9.mono Yj.size);have anE:Hid (iu w wg):=HT'.aa hwe;have Pm:=zi (hBX.aa hwe hBX.lt);have Bz:Hid (RS.length=CS.length/\CS.length=Kk.length+1/\RS.length<=k2/\Kk.length<=k1):=⟨zo,by have:=Es.out;omega,zo,by have:=rP;omega⟩;have amD:=zi (TN.aa C9);obtain⟨NK,hNK⟩:=ze (a+j3+(n-e));obtain⟨NR,hNR⟩:=ze (a+k3+(n+1-b2));rw[hNK]at hKl|-
     rw[hNR]at ais|-
     clear Bu hWf hml i1 i2 i3 hG2 hCS hRS art pK hwe hNK hNR HRR HR T0 SW aiE RN0;by_cases CF:NK=0
     ·have HKN:Hid (Kk=[]):=Hw.1 (by rw[hKl];exact CF);have q1':((NK:Int)==0)=true:=by subst CF;rfl
      clear CF;obtain⟨gi,hgi⟩:=ze wg.heap.size;obtain⟨wi,hwi⟩:=ze (wg.alloc (.cells #[.slice none 0 0,.slice A2 NR k2] 383));obtain⟨gp,hgp⟩:=ze wi.heap.size;obtain⟨wp,YQ⟩:=ze (wi.alloc (.cells #[.iface 377 (.pointer (some ⟨gi,0,none⟩))] 263));have Yn:=zb hwi;have FK:=zb YQ;have Ji:=Yn.trans (FK.mono Yn.size);have BI:dZ wp gi [] RS:=by
       have B0:ay wi gi 383 [.slice none 0 0,.slice A2 RS.length k2]:=by rw[ais,<-hwi,<-hgi];exact ay.new wg 383 _
       exact⟨none,0,A2,k2,B0.aa FK B0.lt,ai _,Bz.2.2.1,dn.nil _ _,wC.aa Ji⟩
      have HPI:Hid (fN wp G2 (eG gi) (h+1) (([],CS):List Pl.Key×List (Pl.Tr h)) none):=⟨RS,⟨gi,rfl,BI⟩,Bz.1,Zv,λs hs=>by cases hs⟩;have akQ:Hid (dn wp (some ⟨gp,0,none⟩) [eG gi] 263):=⟨by rw[<-YQ,<-hgp];exact Src.dE (ay.new wi 263 _),λp hp=>by injection hp with hp;subst hp;rw[<-YQ,<-hgp];exact(ay.new wi 263 _).dV⟩;obtain⟨ahB,apM,aqQ⟩:=kt (Pm.aa Ji Pm.lt) (HTW.aa Ji) (anE.aa Ji);obtain⟨x0,x1,z0',z1'⟩:=aO ahB;clear Yn FK Ji BI;go_wp2_with fail;have ho:=ng wp gx (.slice none 0 0) (.slice (some ⟨gp,0,none⟩) 1 1);have hk:=aD ahB;refine bH (v:= .agg #[.slice none 0 0,.slice (some ⟨gp,0,none⟩) 1 1]) (jj rfl rfl ((ahB.bw 0 _).bw 1 _)) rfl (.inl ⟨_,G2,cO,rfl,apM.only ho hk zj zj zj zj zj,HEX,aqQ.since ho (λx hx e=>by have:=KO.out;omega),HR'.out,?_⟩);rw[ahG.out,ah HKN.out];refine mo ahB ⟨none,0,some ⟨gp,0,none⟩,1,[eG gi],rfl,ai _,ai _,dn.nil _ _,akQ,rfl,λi v t hv ht=>?_⟩;cases i with
      |zero=>
       obtain rfl:eG gi=v:=by simpa using hv
       have Ek:some (([],CS):List Pl.Key×List (Pl.Tr h))=some t:=ht;injection Ek with Ek;subst Ek;exact HPI
      |succ i=>simp at hv
     ·have q1':((NK:Int)==0)=false:=b9.2 zo;have HKN:Hid (¬Kk=[]):=λe9=>CF (by rw[<-hKl,e9];rfl);clear CF;have HIV:Hid (bG 335 #[.slice A1 NK k1,.slice A2 NR k2] wg λe w'=>∃rv,e= .returned rv/\iQ w' G2 (h+1) rv (Pl.fD Kk CS)/\Below wg.heap.size wg w'):=by have:=JO A1 A2 k1 k2 Kk RS h CS wg G2 amD wC Bz.2.2.2 Bz.2.2.1 Bz.1 Bz.2.1 Zv aso (λk hk=>(aqO k hk).2);rw[hKl,ais]at this;exact this
      go_wp2_with fail;refine HIV.mono ?_;rintro e w5 ⟨rv5,rfl,nT,nB⟩;have ast:=zi nT;obtain⟨Ak5,ck5,Ap5,cp5,vs5,rfl,_⟩:=nT;obtain⟨F8,apD,aqK⟩:=kt (Pm.aa nB Pm.lt) (HTW.aa nB) (anE.aa nB);obtain⟨x0,x1,z0',z1'⟩:=aO F8;clear nB;go_wp2_with fail;have ho:=ng w5 gx (.slice Ak5 (Pl.fD Kk CS).2.length ck5) (.slice Ap5 (Pl.fD Kk CS).1.length cp5);have hk:=aD F8;refine bH (v:= .agg #[_,_]) (jj rfl rfl ((F8.bw 0 _).bw 1 _)) rfl (.inl ⟨_,G2,cO,rfl,apD.only ho hk zj zj zj zj zj,HEX,aqK.since ho (λx hx e=>by have:=KO.out;omega),HR'.out,?_⟩);rw[ahG.out,aj HKN.out];exact mo F8 ast
def ahQ(k:Nat)(rd:Int)(G:Gh)(Q:World->Gh->Value->Prop)(none_:Prop)(w:World)(e:Ending)(w':World):Prop:=
 Yh E k rd G Q w e w'\/(none_/\e=gU 8/\∃G' cO,TW E w' cO G'/\Ext G G'/\iu w w'/\tF k rd cO)
def FOk(w:World):Prop:=
 ∀(W:World) (b:Nat) (ps:List Pl.Pr),iu w W->fZ W b ps->Pl.sW 0 ps->bG K (#[.pointer (some ⟨b,0,none⟩),.int .i64 (Pl.aR ps key:Nat),.bool (Pl.rD key ps)]++cg) W λe w'=>
  ((∃A aB,e= .returned (.slice A (f ps).length aB)/\dn w' A (bu (f ps)) 399/\¬none_ ps)\/(none_ ps/\e=gU 8))/\Below W.heap.size W w'
theorem FOk.Ir{K:FuncId}{cg:Array Value}{key:Pl.Key}{f:List Pl.Pr->List Pl.Pr}{none_:List Pl.Pr->Prop}(h:FOk K cg key f none_ w)(k:iu w w'):FOk K cg key f none_ w':=λW b ps hW=>h W b ps (k.trans hW)
theorem Ov(key:Pl.Key)(hK:∀(args:Array Value) (W:World),(callFunc K args).run Tryz.prog W= .ok (.enter K args) W)
 (hf:∀ps:List Pl.Pr,Pl.sW 0 ps->(∀p∈f ps,Pl.la p)/\Pl.j5 (f ps)<=400) (hn:E.m.n<=4096) (t:List Pl.Pr) (r jt:Nat) (lo:Pl.Key) (hi:Option Pl.Key) (w:World) (rd:Int) (G:Gh) (hw:TW E w rd G) (hG:G r=some ⟨0,t⟩)
 (CE:Pl.yK (decide (jt=0)) 0 t) (hs:Pl.yA 0 lo hi t) (hd:jt<=64) (hF:FOk K cg key f none_ w):
 bG 324 #[.pointer (some ⟨E.gT,0,none⟩),dJ r,iR lo hi,.int .i64 (jt:Nat),.string (ar key),.func (.func K) #[] cg] w (ahQ E 2 rd G (λw' G' v=>iQ w' G' 0 v (Pl.mA (f t))/\¬none_ t) (none_ t) w):=by
 have VH:=(λ(W:World) (hW:TW E W rd G)=>xU E r 0 jt t lo hi W rd G hW hG CE hs hd hn);obtain⟨sl,yZ⟩:=ze (ar lo);obtain⟨sh,CD⟩:=ze (ar (hi.getD []));obtain⟨bn,J9⟩:=ze hi.isNone;unfold iR dJ at VH|-
 rw[yZ,CD,J9]at VH|-
 obtain⟨w1,dj⟩:=ze (w.alloc (.cells #[.string sl,.string sh,.bool bn] 368));obtain⟨w2,iA⟩:=ze (w1.alloc (.cells #[.slice none 0 0,.slice none 0 0] 421));obtain⟨gs,ui⟩:=ze w.heap.size;obtain⟨gx,hgx⟩:=ze w1.heap.size;have aI:=zb dj;have bz:=zb iA;have B1:=zB dj ui;have B2:=zB iA hgx;have eC:=aI.trans (bz.mono aI.size);have KO:(w.heap.size<=gx):=zA aI.size;have HP2:=VH w2 (hw.aa eC);have aqD:(Pl.qu t):=hs.1;have HRF:=Pl.yK.root CE;have HFP:=hf t HRF;obtain⟨e0,e1,e2,_,_,_⟩:=iY (B1.aa bz B1.lt);have EN:∀(b:Nat) (W:World),(Instr.typeAssert (.iface 343 (.pointer (some ⟨b,0,none⟩))) 263 343 true).run Tryz.prog W= .ok (.tuple #[.pointer (some ⟨b,0,none⟩),.bool true]) W:=λb W=>by kernel_rfl
 go_enter Tryz.func324,Tryz.ntmps324;go_wp2_with fail;refine HP2.mono ?_;rintro e w3 h3;rcases h3 with⟨v3,G3,rd3,rfl,J5,hE3,SE,hR3,hP3,a3,hA3⟩|⟨fK,rfl,⟨J7,Kf⟩,mm⟩;rotate_left
 ·unfold gU;go_wp2_with fail;exact⟨rfl,.inl (.inr ⟨fK,rfl,⟨J7,Kf⟩,(iu.ae eC).trans mm⟩)⟩
 obtain⟨b,rfl,rJ⟩:=hP3;have Wo:(iu w w3):=(iu.ae eC).trans SE;have BX3:=SE.aC B2 zj zj;have GY:=ET b t key w3 rJ aqD (zC (iP t) HRF.1);unfold fR;go_wp2_with fail;refine GY.mono ?_;rintro e w4 ⟨rfl,cj⟩;have HFC:=hF w4 b t (Wo.aa cj) (rJ.aa cj) HRF;have BX4:=BX3.aa cj BX3.lt;go_wp2_with fail;refine HFC.mono ?_;rintro e w5 ⟨h5,nB⟩;rcases h5 with⟨A5,lX,rfl,ht5,hy5⟩|⟨hno,rfl⟩;rotate_left
 ·have uY:=cj.trans (nB.mono cj.size);unfold gU;go_wp2_with fail;exact⟨rfl,.inr ⟨hno,rfl,G3,rd3,J5.aa uY,hE3,Wo.aa uY,hR3.mono zo⟩⟩
 have uY:=cj.trans (nB.mono cj.size);have HLV:=Hx A5 lX (f t) w5 ht5 (zA HFP.2) G3;have Yi:=BX4.aa nB BX4.lt;go_wp2_with fail;refine HLV.mono ?_;rintro e w6 ⟨rv,rfl,nT,nW⟩;have HRW:=nT;obtain⟨Ak,ck,Ap,cp,vs,rfl,_⟩:=nT;have zv:=uY.trans (nW.mono uY.size);have BX6:=Yi.aa nW Yi.lt;obtain⟨x0,x1,y0,y1⟩:=aO BX6;go_wp2_with fail;have ho:=ng w6 gx (.slice Ak (Pl.mA (f t)).2.length ck) (.slice Ap (Pl.mA (f t)).1.length cp);have hk:=aD BX6;exact bH (v:= .agg #[_,_]) (jj rfl rfl ((BX6.bw 0 _).bw 1 _)) rfl (.inl (.inl ⟨_,G3,rd3,rfl,(J5.aa zv).only ho hk zj zj zj zj zj,hE3,(Wo.aa zv).since ho (λx hx e=>by have:=KO;omega),hR3.mono zo,mo BX6 HRW,hy5⟩))
def ajT(key:Pl.Key)(h:Nat):Prop:=
 ∀(t:Pl.Tr h) (r jt:Nat) (lo:Pl.Key) (hi:Option Pl.Key) (w:World) (rd:Int) (G:Gh),TW E w rd G->G r=some ⟨h,t⟩->Pl.yK (decide (jt=0)) h t->Pl.yA h lo hi t->Pl.Hc lo hi key->jt+h<=64->FOk K cg key f none_ w->
  bG 324 #[.pointer (some ⟨E.gT,0,none⟩),dJ r,iR lo hi,.int .i64 (jt:Nat),.string (ar key),.func (.func K) #[] cg] w (ahQ E (2*(h+1)) rd G (λw' G' v=>iQ w' G' h v (Pl.changed f key h t)/\¬none_ (Pl.fP h t key)) (none_ (Pl.fP h t key)) w)
theorem KH(key:Pl.Key)(hf:∀ps:List Pl.Pr,Pl.sW 0 ps->(∀p∈f ps,Pl.la p)/\Pl.j5 (f ps)<=400)(hn:E.m.n<=4096)(h:Nat)(ih:ajT E K cg f none_ key h):ajT E K cg f none_ key (h+1):=by
 intro t r jt lo hi w rd G hw hG CE hs yl hd hF;have jn:Pl.Fit (h+1) t:=Pl.yK.root CE;have TR:=jr t.1;have acu:t.1.length<=60:=zA jn.2.2.1;have P2:=Pl.tQ t.1 key;obtain⟨j,hj⟩:=ze (Pl.gY t.1 key);rw[hj]at P2;obtain⟨c,hc⟩:∃c,t.2[j]?=some c:=⟨_,aF (zA jn.1)⟩;have hch:Pl.changed f key (h+1) t=Pl.fE t.1 t.2 j (Pl.changed f key h c):=by have:=Pl.sG (f:=f) (k:=key) (n:=t) (t:=c) (by rw[hj];exact hc);rw[hj]at this;exact this
 have rJ:Pl.fP (h+1) t key=Pl.fP h c key:=Pl.uU (by rw[hj];exact hc);have Mn:=jn.2.2.2.2 c (bO hc);have hcs:=Pl.ff.dm j c hs hc;have akz:Pl.Hc (Pl.DW lo t.1 j) (Pl.wW hi t.1 j) key:=by have:=Pl.ff.way key hs yl;rw[hj]at this;exact this
 obtain⟨TP,Uq⟩:=Pl.pG key hf h c (Pl.Fit.root h c Mn);have VH:=(λ(W:World) (hW:TW E W rd G)=>xU E r (h+1) jt t lo hi W rd G hW hG CE hs zo hn);have HIH:=(λ(W:World) (cO:Int) (G':Gh) (rk:Nat) (hW:TW E W cO G') (hr:G' rk=some ⟨h,c⟩) (hF':FOk K cg key f none_ W)=>ih c rk (jt+1) (Pl.DW lo t.1 j) (Pl.wW hi t.1 j) W cO G' hW hr (by rw[aH zo];exact Mn) hcs akz zo hF');have HRP:=(λ(W:World) (cO:Int) (G':Gh) (b:Nat) (rv:Value) (hW:TW E W cO G') (hP:fN W G' (eG b) (h+1) t none) (hr:iQ W G' h rv (Pl.changed f key h c))=>On E cO G' h b j jt t lo hi (Pl.changed f key h c) rv W hW hP jn hs P2 hr TP Uq zo hn);have E6:=(λ(W:World) (b:Nat) (rs:List Nat) (hb:dZ W b t.1 rs)=>GD lo hi b t.1 rs j W hb P2 zo);have aoe:=(λ(W:World) (b:Nat) (rs:List Nat) (hb:dZ W b t.1 rs)=>OQ b t.1 rs key W hb (Pl.ff.keys hs).1 zo);rw[hch,rJ];obtain⟨sl,yZ⟩:=ze (ar lo);obtain⟨sh,CD⟩:=ze (ar (hi.getD []));obtain⟨bn,J9⟩:=ze hi.isNone;have es:iR lo hi= .agg #[.string sl,.string sh,.bool bn]:=by unfold iR;rw[yZ,CD,J9]
 rw[es]at VH HRP E6|-
 unfold dJ at VH HIH|-
 rw[hj]at aoe;obtain⟨w1,dj⟩:=ze (w.alloc (.cells #[.string sl,.string sh,.bool bn] 368));obtain⟨w2,iA⟩:=ze (w1.alloc (.cells #[.slice none 0 0,.slice none 0 0] 421));obtain⟨gs,ui⟩:=ze w.heap.size;obtain⟨gx,hgx⟩:=ze w1.heap.size;have aI:=zb dj;have bz:=zb iA;have B1:=zB dj ui;have B2:=zB iA hgx;have eC:=aI.trans (bz.mono aI.size);have BS:=B1.aa bz B1.lt;have KO:(w.heap.size<=gx):=zA aI.size;have HP2:=VH w2 (hw.aa eC);obtain⟨n,kG⟩:=ze t.1.length;rw[kG]at acu P2;obtain⟨e0,e1,e2,_,_,_⟩:=iY BS;have EN:∀(b:Nat) (W:World),(Instr.typeAssert (.iface 377 (.pointer (some ⟨b,0,none⟩))) 263 343 true).run Tryz.prog W= .ok (.tuple #[.pointer none,.bool false]) W:=λb W=>by kernel_rfl
 have YY:∀(b:Nat) (W:World),(Instr.typeAssert (.iface 377 (.pointer (some ⟨b,0,none⟩))) 263 377 true).run Tryz.prog W= .ok (.tuple #[.pointer (some ⟨b,0,none⟩),.bool true]) W:=λb W=>by kernel_rfl
 go_enter Tryz.func324,Tryz.ntmps324;go_wp2_with fail;refine HP2.mono ?_;rintro e w3 h3;rcases h3 with⟨v3,G3,rd3,rfl,J5,hE3,SE,hR3,hP3,a3,hA3⟩|⟨fK,rfl,⟨J7,Kf⟩,mm⟩;rotate_left
 ·unfold gU;go_wp2_with fail;exact⟨rfl,.inl (.inr ⟨fK,rfl,⟨J7,Kf⟩,(iu.ae eC).trans mm⟩)⟩
 have hPP:=hP3;obtain⟨rs,⟨b,rfl,hi3⟩,s9,hgk,_⟩:=hP3;have Wo:(iu w w3):=(iu.ae eC).trans SE;have Dx:(rs.length=n+1):=by rw[s9,jn.1,kG]
 have BX3:=SE.aC B2 zj zj;have BS3:=SE.aC BS zj zj;have HWY:=aoe w3 b rs hi3;obtain⟨rk,JY⟩:∃r,rs[j]?=some r:=⟨_,aF (by rw[Dx];omega)⟩;have TZ:(G3 rk=some ⟨h,c⟩):=hgk j rk c JY hc;unfold eG;go_wp2_with fail;refine HWY.mono ?_;rintro e w4 ⟨rfl,cj⟩;have HW4:=J5.aa cj;have F0:=Wo.aa cj;have BX4:=BX3.aa cj BX3.lt;have BS4:=BS3.aa cj BS3.lt;have hi4:=hi3.aa cj;have HI4:=hi4;obtain⟨A,ca,A',vR,dM,_,_,hsa,PG⟩:=hi4;obtain⟨bk,ok,rfl,g0⟩:=PG.1.dm _ _ (iX JY);unfold dJ at g0;obtain⟨_,c1,_,_⟩:=aO dM;rw[Dx]at c1;obtain⟨e0,e1,e2,_,_,_⟩:=iY BS4;have C0:=TV c1 g0 e0 e1 e2;have KD:=E6 w4.drew b rs (HI4.aa ((ak _ _).drew));have q1:(j:Int)<(n:Int)+1:=zo;have hwr:IntKind.i64.wrap ((jt:Int)+1)=(jt:Int)+1:=aY _ (zA hd);go_wp2_with fail;refine aN 23 (λW=>W.cell? ⟨b,1,none⟩=some (.slice (some ⟨bk,ok,none⟩) (n+1) vR)/\W.cell? ⟨bk,ok+j,none⟩=some (.pointer (some ⟨rk,0,none⟩))/\W.cell? ⟨gs,0,none⟩=some (.string sl)/\W.cell? ⟨gs,1,none⟩=some (.string sh)/\W.cell? ⟨gs,2,none⟩=some (.bool bn)) (λ_=>True) zp C0 trivial (λaz=>?_);refine zt 0 (h:=zt 1 (h:=zl 2 (h:=zt 3 (h:=zt 4 (h:=zt 5 (h:=zt 6 (h:=zt 7 (h:=zt 8 (h:=zl 9 (h:=zt 10 (h:=zt 11 (h:=zl 12 (h:=zl 13 (h:=zt 14 (h:=zt 15 (h:=zt 17 (h:=zt 18 (h:=zt 19 (h:=zt 20 (h:=?_))))))))))))))))))));refine zr 16 λK hK=>?_;go_simp;refine(KD.mono ?_);rintro e w5 ⟨rfl,apI⟩;have nB:Below w4.heap.size w4 w5:=im apI;have apC:=HIH w5 rd3 G3 rk (HW4.aa nB) TZ (hF.Ir (F0.aa nB));have cells:∀W,iu w4 W->(W.cell? ⟨b,1,none⟩=some (.slice (some ⟨bk,ok,none⟩) (n+1) vR)/\W.cell? ⟨bk,ok+j,none⟩=some (.pointer (some ⟨rk,0,none⟩))/\W.cell? ⟨gs,0,none⟩=some (.string sl)/\W.cell? ⟨gs,1,none⟩=some (.string sh)/\W.cell? ⟨gs,2,none⟩=some (.bool bn)):=by intro W hW;have h1:=hW.aC dM zj zj;obtain⟨_,c1,_,_⟩:=aO h1;rw[Dx]at c1;have h2:=hW.aC BS4 zj zj;exact⟨c1,(hW.eo PG zj zj).1.cell _ _ (iX JY),h2.cell 0,h2.cell 1,h2.cell 2⟩
 have C5:=cells w5 (iu.ae nB);go_wp2_with fail;refine hK.out _ _ ⟨λ_=>C5,trivial⟩ (λaz=>?_);refine zr 21 λK hK=>?_;go_simp;refine apC.mono ?_;rintro e w6 h6;rcases h6 with(⟨v6,G6,rd6,rfl,hW6,hE6,GU,Ua,hP6,hY6⟩|⟨fK,rfl,⟨rd6,hd6⟩,GU⟩)|⟨hno,rfl,G6,rd6,hW6,hE6,GU,Ua⟩;rotate_left
 ·unfold gU;go_wp2_with fail;exact⟨rfl,.inl (.inr ⟨fK,rfl,⟨rd6,hd6⟩,(F0.aa nB).trans GU⟩)⟩
 ·unfold gU;go_wp2_with fail;exact⟨rfl,.inr ⟨hno,rfl,G6,rd6,hW6,hE3.trans hE6,(F0.aa nB).trans GU,hR3.trans Ua zo⟩⟩
 obtain⟨Ak,ck,Ap,cp,vs,rfl,_⟩:=id hP6;have aiJ:(iu w4 w6):=(iu.ae nB).trans GU;have C6:=cells w6 aiJ;have arD:=HRP w6 rd6 G6 b _ hW6 (((hPP.aa cj).aa nB).Ir GU hE6) hP6;go_wp2_with fail;refine hK.out _ _ ⟨λ_=>C6,trivial⟩ (λaz=>?_);refine zr 22 λK hK=>?_;go_simp;refine arD.mono ?_;rintro e w7 h7;rcases h7 with⟨v7,G7,rd7,rfl,hW7,hE7,Zj,hR7,hP7⟩|⟨fK,rfl,⟨rd7,hd7⟩,Zj⟩;rotate_left
 ·unfold gU;go_wp2_with fail;exact⟨rfl,.inl (.inr ⟨fK,rfl,⟨rd7,hd7⟩,(F0.trans aiJ).trans Zj⟩)⟩
 obtain⟨Ak7,ck7,Ap7,cp7,vs7,rfl,_⟩:=id hP7;have ajX:(iu w4 w7):=aiJ.trans Zj;have C7:=cells w7 ajX;have BX7:=ajX.aC BX4 zj zj;obtain⟨x0,x1,y0,y1⟩:=aO BX7;go_wp2_with fail;refine hK.out _ _ ⟨λ_=>C7,trivial⟩ (λaz=>?_);refine zr 23 λK hK=>?_;go_simp;refine hK.out _ _ ⟨zk zp,trivial⟩ (λaz=>?_);(try simp only[Act.put,zq1,zq2,zP,zq4,zq5,RR]);refine bh zp ?_ _;go_wp2_with fail;have ho:=ng w7 gx (.slice Ak7 (Pl.fE t.1 t.2 j (Pl.changed f key h c)).2.length ck7) (.slice Ap7 (Pl.fE t.1 t.2 j (Pl.changed f key h c)).1.length cp7);have hk:=aD BX7;exact bH (v:= .agg #[_,_]) (jj rfl rfl ((BX7.bw 0 _).bw 1 _)) rfl (.inl (.inl ⟨_,G7,rd7,rfl,hW7.only ho hk zj zj zj zj zj,(hE3.trans hE6).trans hE7,(F0.trans ajX).since ho (λx hx e=>by have:=KO;omega),(hR3.trans Ua (ai _)).trans hR7 zo,mo BX7 hP7,hY6⟩))
theorem FT(E:fe)(K:FuncId)(cg:Array Value)(f:List Pl.Pr->List Pl.Pr)(none_:List Pl.Pr->Prop)(key:Pl.Key)(hK:∀(args:Array Value) (W:World),(callFunc K args).run Tryz.prog W= .ok (.enter K args) W)
 (hf:∀ps:List Pl.Pr,Pl.sW 0 ps->(∀p∈f ps,Pl.la p)/\Pl.j5 (f ps)<=400) (hn:E.m.n<=4096):∀h,ajT E K cg f none_ key h
 |0=>λt r jt lo hi w rd G hw hG CE hs _ hd hF=>Ov E K cg f none_ key hK hf hn t r jt lo hi w rd G hw hG CE hs hd hF
 |h+1=>KH E K cg f none_ key hf hn h (FT E K cg f none_ key hK hf hn h)
end Go.Proofs.YtbhpofdafhahgaaGreatDoor
