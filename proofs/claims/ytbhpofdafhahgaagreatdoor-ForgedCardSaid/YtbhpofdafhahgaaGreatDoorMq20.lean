/- Part 20: MemB CodecQ RwN RwO RwP RwQ MarkA. -/
import Derived.Test.YtbhpofdafhahgaaGreatDoorMq19
set_option linter.all false
set_option maxHeartbeats 8000000
set_option maxRecDepth 100000
namespace Go.Proofs.YtbhpofdafhahgaaGreatDoor
open Go.RowKit Go.Maps Go.WideMaps
variable [Inhabited eH]
variable (gm aA:Nat)
theorem nU.put{gm aA:Nat}{ps:List Pl.Pr}{key v:Pl.Key}{w w':World}{f:List UInt8->Option Value}{A:Option Addr}{aB:Nat}(h:nU gm aA ps w)(Fz:∀k,Pl.dI k ps=none->f k=none)(FC:∀k l,Pl.dI k ps=some l->∃A aB,f k=some (.slice A l.length aB)/\l.length<=aB/\dn w A (bv l) 5)
 (tE:Pl.ey key) (hv:v.length<=100) (hr:ps.length<aA) (hm:dX w' gm (ps.length+1) (upd f key (some (.slice A v.length aB))) (if(f key).isSome then ps.length else ps.length+1)) (hc:v.length<=aB) (ht:dn w A (bv v) 5) (ho:ag (·=gm) w w'):nU gm aA (Pl.dN key v ps) w':=by
 have hn:∀(B:Option Addr) (l:List UInt8),dn w B (bv l) 5->dn w' B (bv l) 5:=λB l hB=>by obtain⟨f0,h0,_⟩:=h.map;exact hB.jL ho (λp hp e=>h0.kz _ (e▸hB.2 p hp))
 have bU:(if(f key).isSome then ps.length else ps.length+1)=(Pl.dN key v ps).length:=by
  rw[Pl.Rz h.uo];cases hg:Pl.dI key ps with
  |none=>grind
  |some l=>
   grind
 rw[bU]at hm;refine⟨h.lo,Pl.jA h.uo,λp hp=>?_,zw,_,hm.tight,λk hk=>?_,λk l hk=>?_⟩
 ·have hg:=Pl.RJ (Pl.jA h.uo) hp;rw[Pl.fQ h.uo]at hg;by_cases e:p.key=key
  ·rw[ah e]at hg;injection hg with hg;exact⟨e▸tE,hg▸hv⟩
  ·rw[aj e]at hg;exact h.fit p (Pl.Io hg)
 ·rw[Pl.fQ h.uo]at hk;unfold upd
  grind
 ·rw[Pl.fQ h.uo]at hk;unfold upd
  grind
theorem V1(hroom:aA<=100000)(ps:List Pl.Pr)(key v:Pl.Key)(A B:Option Addr)(n m ca cb:Nat)(w:World)(hA:nU gm aA ps w)(tE:Pl.ey key)(hv:v.length<=100)(hn:key.length=n)(hm:v.length=m)(hr:ps.length<aA)(hb:aw w A key)(bz:aw w B v):
 bG 341 #[Ry gm,.slice A n ca,.slice B m cb] w (UI (wK gm aA) (Pl.dN key v ps) w):=by
 obtain⟨g,w1,hg,dj,aI,B1⟩:=zE w 272 [.map (some gm)];have c0:=cA B1;have alp:key.length<=40:=tE.2;have Uk:=hA.aa aI;have hcv:∀W,Below w1.heap.size w1 W->(convert 29 9 (.slice A n ca)).run Tryz.prog W= .ok (.string (ar key)) W:=λW hW=>by rw[<-hn];exact dQ W A key ca ((hb.bQ aI).bQ hW)
 have CG:=(λW (hW:Below w1.heap.size w1 W)=>MJ B v m cb W hm zo ((bz.bQ aI).bQ hW));have HX:=TV tE hv hr hm alp;unfold Ry;go_enter Tryz.func341,Tryz.ntmps341;go_wp2_with fail;refine aN 6 (λW=>W.cell? ⟨g,0,none⟩=some (.map (some gm))/\(convert 29 9 (.slice A n ca)).run Tryz.prog W= .ok (.string (ar key)) W) (λ_=>True) zp ⟨c0,hcv _ (ak _ _).drew⟩ trivial (λaz=>?_);refine zt 0 (h:=zl 1 (h:=zt 2 (h:=zl 3 (h:=zt 4 (h:=?_)))));refine zr 5 λK hK=>?_;go_simp;refine(CG _ (ak _ _).drew).mono ?_;rintro e w2 ⟨bz,A2,c2,rfl,lC,wC,Mg⟩;have b2:Below w1.heap.size w1 w2:=cG bz;have Kd:=Uk.aa b2;obtain⟨f,WZ,Fz,FC⟩:=Kd.map;obtain⟨w3,hrun,hm3,sR⟩:=WZ.store Tryz.underlying270 (by unfold maxLen;have:=HX.2.2.1;omega) key (zA HX.2.2.2.2) (.slice A2 m c2);have D2:=cA (B1.aa b2 B1.lt);have HQ:=ze7 Kd Fz FC hm3 lC wC sR;go_wp2_with fail;refine hK.out _ _ ⟨λ_=>⟨D2,hcv _ b2⟩,trivial⟩ (λaz=>?_);refine zr 6 λK hK=>?_;go_simp;refine hK.out _ _ ⟨zk zp,trivial⟩ (λaz=>?_);(try simp only[Act.put,zq1,zq2,zP,zq4,zq5,RR]);refine bh zp ?_ _;go_wp2_with fail;go_ret;obtain⟨h1,h2,h3,h4,h5,h6,h7⟩:=id HQ;obtain⟨x1,x2,x3,x4,x5⟩:=id HX;subst x4;have fj:Below w.heap.size w w2:=aI.trans (b2.mono aI.size);refine⟨⟨?_,?_,?_⟩,h1.put h2 h3 x1 x2 x3 h4 h5 h6 h7,rfl⟩
 ·exact(lW.ae fj).trans ⟨(·=gm),h7,λk hk=> .inr hk⟩
 ·exact(ag.ae fj _).aE (h7.mono (λk _ hk=> .inl (by rw[hk];exact h1.lo)))
 ·exact(lW.ae fj).trans ⟨(·=gm),h7,λk hk=> .inr hk⟩
theorem Oi(hroom:aA<=100000):eP (wK gm aA) aA where
 aeP:=Tryz.UN _
 adL:=Tryz.Wm _
 ads:=λa w=>by simp[go_sem,wK]
 acS:=λa w=>by simp[go_sem,wK]
 uo:=λh=>h.uo
 fit:=λh=>h.fit
 len:=λh=>h.few
 bsT:=λ{ps w k t} h e=>by obtain⟨f,h0,_⟩:=h.map;exact e▸h0.kz t
 bQ:=λh ho hs _ hu hn=>h.bQ ho hs (hu trivial) (hn _ rfl)
 get:=λps key A n ca w hA _ tE hn hb=>Xf gm aA ps key A n ca w hA tE hn hb
 put:=λps key v A B n m ca cb w hA _ tE hvf hn hm Lw hbA hbB=>V1 gm aA hroom ps key v A B n m ca cb w hA tE hvf hn hm Lw hbA hbB
end Go.Proofs.YtbhpofdafhahgaaGreatDoor
namespace Go.Proofs.YtbhpofdafhahgaaGreatDoor
open Go.RowKit
theorem Qd{o:Pl.jb}(h:Pl.p8 o):(Pl.fp o).length<=5000:=by have:=EL h;omega
theorem Pl.WC(t:Pl.fh):Pl.bj t=((Pl.be 8 t.time++ [UInt8.ofNat t.ops.length])++(t.ops.map Pl.fp).flatten)++Pl.be 4 (Pl.se ((Pl.be 8 t.time++ [UInt8.ofNat t.ops.length])++(t.ops.map Pl.fp).flatten)):=by
 have e:Pl.ky t=(Pl.be 8 t.time++ [UInt8.ofNat t.ops.length])++(t.ops.map Pl.fp).flatten:=by
  unfold Pl.ky
  grind
 unfold Pl.bj;rw[e]
theorem zM(P:Nat->Prop)(c:List Value)(t:Pl.fh)(w:World)(hR:vY w P c t)(hP:∀b,P b->b<w.heap.size)(gP:Pl.nz t):
 bG 223 #[.agg c.toArray] w (NT w (Pl.bj t)):=by
 have hti:=My gP;have hl:=gP.2.1;have ww:=Hz hti;obtain⟨A,aB,cs,rfl,fo,hs,kD,hA⟩:=id hR;obtain⟨n,hn⟩:=ze t.ops.length;have YN:n<=16:=zo;have atv:=wrap_u8 (show n<256 by omega);rw[hn]at fo hl hR|-
 obtain⟨tm,htm⟩:=ze t.time;rw[htm]at ww hti hR|-
 obtain⟨gb,wb,pO,p9,dM,BB⟩:=zE w 147 [.int .i64 (sig tm),.slice A n aB];obtain⟨c0,c1,_,_⟩:=aO BB;obtain⟨rK,HR⟩:=dz BB (zd hR hP gP);clear hR hP gP hs kD hA BB fo hl;go_enter Tryz.func223,Tryz.ntmps223;obtain⟨hd,TM⟩:=ze (Pl.be 8 tm++ [UInt8.ofNat n])
 go_upto_region 1 with fail
 go_cut [3]from 6 (λs3 wx=>Hid (Ob wx wb.heap.size s3 hd)/\Hid (Below wb.heap.size wb wx))
 case first=>
  refine aN 9 (λ_=>True) (λW=>W.cell? ⟨gb,0,none⟩=some (.int .i64 (sig tm))/\W.cell? ⟨gb,1,none⟩=some (.slice A n aB)) zp trivial ⟨c0,c1⟩ (λaz=>?_);refine zt 0 (h:=zt 1 (h:=zt 2 (h:=zt 4 (h:=zt 5 (h:=zt 6 (h:=zt 7 (h:=?_)))))));(try simp only[Act.put,zq1,zq2,zP,zq4,zq5,RR]);refine j6 (rs:=[3,8]) zp zu ?_;refine kX.cons (o:=_) rfl (λK hK=>?_) (kX.cons (o:=_) rfl (λK hK=>?_) kX.nil)
  ·go_simp;refine(sQ (.slice none 0 0) [] tm 8 wb.heap.size wb.drew (Ob.nil _ _) (ai _) hti zj zj zu).mono ?_;rintro e w2 ⟨v2,rfl,o2,m2⟩;rw[aX]at o2;have b2:Below wb.heap.size wb w2:=cG (m2.gV (Ob.nil _ _) (ai _));obtain⟨w3,fX⟩:=ze (World.alloc w2 (.cells #[.int .u8 (n:Int)] 5));have bg:=zb fX;have O3:=zi (o2.aa bg);have S3:Hid (Src w3 (some ⟨w2.heap.size,0,none⟩) (bv [UInt8.ofNat n])):=by rw[Hid,<-fX];exact lH w2 n zo
   have B3:=zi (b2.trans (bg.mono b2.size));have D2:Hid (w2.cell? ⟨gb,0,none⟩=some (.int .i64 (sig tm))/\w2.cell? ⟨gb,1,none⟩=some (.slice A n aB)):=by obtain⟨x,y,_⟩:=aO (rK.aa b2 rK.lt);exact⟨x,y⟩
   have D3:Hid (w3.cell? ⟨gb,0,none⟩=some (.int .i64 (sig tm))/\w3.cell? ⟨gb,1,none⟩=some (.slice A n aB)):=by obtain⟨x,y,_⟩:=aO (rK.aa B3 rK.lt);exact⟨x,y⟩
   clear o2 m2 b2 bg;go_wp2_with fail;refine hK.out _ _ ⟨λ_=>trivial,D2⟩ (λaz=>?_);clear hK K;refine zr 8 λK hK=>?_;go_simp;(try rw[fX]);refine hK.out _ _ ⟨λ_=>trivial,D3⟩ (λaz=>?_);clear hK K;refine zr 9 λK hK=>?_;refine Q2 (.tmp 9) (.tmp 14) rfl rfl O3 (some ⟨w2.heap.size,0,none⟩) 1 1 [UInt8.ofNat n] rfl rfl S3 (by rw[Pl.aG];omega) B3.size ?_;intro v4 w4 o4 m4;have O4:Hid (Ob w4 wb.heap.size v4 hd):=by rw[Hid,<-TM];exact o4
   have B4:=zi (B3.trans (m4.gV O3 B3.size));have D4:Hid (w4.cell? ⟨gb,0,none⟩=some (.int .i64 (sig tm))/\w4.cell? ⟨gb,1,none⟩=some (.slice A n aB)):=by obtain⟨x,y,_⟩:=aO (rK.aa B4 rK.lt);exact⟨x,y⟩
   clear o4 m4;refine hK.out _ _ ⟨λ_=>trivial,D4⟩ (λaz=>?_);clear hK K;refine zt 10 (h:=?_);(try simp only[Act.put,zq1,zq2,zP,zq4,zq5,RR]);refine bh zp ?_ _;clear az;go_wp2_with fail;go_meet;exact⟨O4,B4⟩
  ·obtain⟨w3,fX⟩:=ze (World.alloc wb.drew (.cells #[.int .u8 (n:Int)] 5));have B3:Hid (Below wb.heap.size wb w3):=by rw[Hid,<-fX];exact cG (show Below wb.heap.size wb.drew (wb.drew.alloc _)from ij wb.drew _)
   have S3:Hid (Src w3 (some ⟨wb.drew.heap.size,0,none⟩) (bv [UInt8.ofNat n])):=by rw[Hid,<-fX];exact lH wb.drew n zo
   have D3:Hid (w3.cell? ⟨gb,0,none⟩=some (.int .i64 (sig tm))/\w3.cell? ⟨gb,1,none⟩=some (.slice A n aB)):=by obtain⟨x,y,_⟩:=aO (rK.aa B3 rK.lt);exact⟨x,y⟩
   go_simp;(try rw[fX]);refine hK.out _ _ ⟨λ_=>trivial,D3⟩ (λaz=>?_);clear hK K;refine zr 3 λK hK=>?_;go_simp;refine(sQ (.slice none 0 0) [] tm 8 wb.heap.size w3 (Ob.nil _ _) B3.size hti zj zj zu).mono ?_;rintro e w2 ⟨v2,rfl,o2,m2⟩;rw[aX]at o2;have B2:=zi (B3.trans (m2.gV (Ob.nil _ _) B3.size));have S2:Hid (Src w2 (some ⟨wb.drew.heap.size,0,none⟩) (bv [UInt8.ofNat n])):=m2.only.src S3 (λp hp e=>by cases e);have D2:Hid (w2.cell? ⟨gb,0,none⟩=some (.int .i64 (sig tm))/\w2.cell? ⟨gb,1,none⟩=some (.slice A n aB)):=by obtain⟨x,y,_⟩:=aO (rK.aa B2 rK.lt);exact⟨x,y⟩
   clear m2;go_wp2_with fail;refine hK.out _ _ ⟨λ_=>trivial,D2⟩ (λaz=>?_);clear hK K;refine zr 9 λK hK=>?_;refine Q2 (.tmp 9) (.tmp 14) rfl rfl o2 (some ⟨wb.drew.heap.size,0,none⟩) 1 1 [UInt8.ofNat n] rfl rfl S2 (by rw[Pl.aG];omega) B2.size ?_;intro v4 w4 o4 m4;have O4:Hid (Ob w4 wb.heap.size v4 hd):=by rw[Hid,<-TM];exact o4
   have B4:=zi (B2.trans (m4.gV o2 B2.size));have D4:Hid (w4.cell? ⟨gb,0,none⟩=some (.int .i64 (sig tm))/\w4.cell? ⟨gb,1,none⟩=some (.slice A n aB)):=by obtain⟨x,y,_⟩:=aO (rK.aa B4 rK.lt);exact⟨x,y⟩
   clear o4 m4;refine hK.out _ _ ⟨λ_=>trivial,D4⟩ (λaz=>?_);clear hK K;refine zt 10 (h:=?_);(try simp only[Act.put,zq1,zq2,zP,zq4,zq5,RR]);refine bh zp ?_ _;clear az;go_wp2_with fail;go_meet;exact⟨O4,B4⟩
 case rest=>
  obtain⟨hO,hBw⟩:=hcut;have hBc:=dM.trans (hBw.mono dM.size);have HT:=zi (yF P [.int .i64 (sig tm),.slice A n aB] t wc (HR.1.only (ag.ae hBc (λ_=>False)) (λ_ _ h=>h)) (λb hb=>aK (HR.2.1 b hb) hBc.size) HR.2.2.2.2 (by rw[hn];omega));obtain⟨k0,k1,_,_⟩:=aO (rK.aa hBw rK.lt);clear c0 c1 hBc;go_wp2_with fail;refine HT.mono ?_;rintro e w2 ⟨tv,rfl,wC,bz⟩;obtain⟨xs,hxs⟩:=ze (t.ops.map Pl.fp);have ZA:xs.length=n:=by rw[<-hxs,eT];exact hn
  have HXL:Hid (∀x∈xs,x.length<=5000):=λx hx=>by rw[<-hxs]at hx;obtain⟨o,ho,rfl⟩:=iE.1 hx;exact Qd (HR.2.2.2.2 o ho)
  rw[hxs]at wC;obtain⟨At,ct,cst,rfl,og,hst,hrt,hAt⟩:=wC.src um.fr;rw[ZA]at og|-
  have HHL:Hid (hd.length=9):=by rw[Hid,<-TM,ax,Pl.aG];rfl
  have O2:=zi (hO.aa bz);have SP2:Hid (∀b,wc.heap.size<=b->b<w2.heap.size->u3.ownBlock≠some b):=λb hb _ e=>by have:=(hO.lt b e).2;omega
  have B2:=zi (hBw.trans (bz.mono hBw.size));clear wC bz og k0 k1;go_wp2_with fail
  go_loopw [3,19] (λu i wr=>∃k:Nat,k<=n/\i= .int .i64 (k:Int)/\Hid (Ob wr wb.heap.size u (hd++(xs.take k).flatten))/\Hid (ag (λb=>¬(wc.heap.size<=b/\b<w2.heap.size)) w2 wr)/\Hid (∀b,wc.heap.size<=b->b<w2.heap.size->u.ownBlock≠some b)/\Hid (Below wb.heap.size wb wr)) (λ_ i _=>n-(intOf i).toNat)
  case atStart=>exact⟨0,aM _,rfl,by rw[Hid,re,List.flatten_nil,dH];exact O2,ag.refl _ _,SP2,B2⟩
  case round=>
   obtain⟨k,hk,rfl,HO,HON,HSP,Pv⟩:=hrel;by_cases pX:k<n
   ·have q1:(k:Int)<(n:Int):=zo;obtain⟨x,hx⟩:∃c,xs[k]?=some c:=⟨_,aF (by rw[ZA];exact pX)⟩;have J3:BB wr At xs:=fW.bb (P:=λb=>wc.heap.size<=b/\b<w2.heap.size) (hrt.mono (λ_ _ _ h=>um.fr _ _ _ _ _ _ _ h HON (λb hb hf=>hf hb) (λb hb=>hb))) (HON.src hst (λp hp hf=>hf (hAt p hp)));have yN:∀(A':Option Addr) (cap':Nat),[Value.slice A' x.length cap']=[Value.slice A' x.length cap']->True:=λ_ _ _=>trivial;obtain⟨cx,hRx,hcx,pH⟩:=hrt.dm hx;obtain⟨A',cap',rfl,vL,qG,hx3,hx4⟩:=hRx;have mM:=HON.src hst (λp hp hf=>hf (hAt p hp));obtain⟨b,off,rfl,g0⟩:=mM.dm _ _ (pH 0 zo);rw[cI,Nat.mul_one]at g0;have hxb:=HXL.out x (bO hx);have SX:=zi (HON.bytes hx3 (λp hp hf=>hf (hx4 p hp))).src;have bU:Hid ((hd++(xs.take k).flatten).length<=9+5000*16):=by
     rw[Hid,ax,HHL.out];have h1:∀l:List (List UInt8),(∀x∈l,x.length<=5000)->l.flatten.length<=5000*l.length:=by
      intro l
      induction l with
      |nil=>intro _;simp
      |cons a l ih=>intro h;have h2:=ih (λx hx=>h x (kd _ hx));have h3:=h a zu;rw[List.flatten_cons,ax,bE];omega
     have h2:=h1 (xs.take k) (λx hx=>HXL x (mQ hx));rw[aP]at h2;have:min k xs.length<=16:=zo;omega
    obtain⟨m,hm⟩:=ze x.length;rw[hm]at g0 hxb;clear J3 yN hcx pH vL qG hx3 hx4 mM;go_wp2_with (first
     |(at_builtin
       refine ic (v:=u3) rfl (.tmp 23) (.tmp 24) rfl rfl HO A' m cap' x rfl hm SX (zA bU.out) (zA Pv.size) ?_;intro v5 w5 o5 m5;have O5:Hid (Ob w5 wb.heap.size v5 (hd++(xs.take (k+1)).flatten)):=by rw[Hid,eK,hx,List.flatten_append,<-cJ];simpa using o5
       have N5:=zi (HON.aE (m5.only.mono (λb _ e=>λhb=>HSP b hb.1 hb.2 e)));have S5:Hid (∀b,wc.heap.size<=b->b<w2.heap.size->v5.ownBlock≠some b):=λb h1 h2=>m5.2 b (aK h2 HON.size) (HSP b h1 h2);have B5:=zi (Pv.trans (m5.gV HO Pv.size)))
     |fail)
    exact⟨⟨k+1,zo,by go_num,O5,N5,S5,B5⟩,by simp[intOf];omega⟩
   ·obtain rfl:k=n:=zo;have kJ:Hid (Ob wr wb.heap.size u3 (hd++xs.flatten)):=by have:=HO.out;rw[dx (by rw[ZA];exact ai _)]at this;exact this
    obtain⟨bd,J6⟩:=ze (hd++xs.flatten);rw[J6]at kJ;have GY:Hid (Pl.bj t=bd++Pl.be 4 (Pl.se bd)):=by have h1:=Pl.WC t;rw[htm,hn,TM,hxs,J6]at h1;exact h1
    obtain⟨A5,c5,rfl,La,QH,PB⟩:=bJ kJ;have yg:bd.length<=1000000:=by have h1:=Pl.mg HR.2.2;rw[GY.out,ax]at h1;omega
    obtain⟨ck,yt⟩:=ze (Pl.se bd);have aue:ck<4294967296:=by rw[<-yt];unfold Pl.se;omega
    have HCK:=Mc A5 c5 bd wr QH.bytes zo;rw[show 4294967295-Pl.nM bd=ck from yt]at HCK;have HPT:=sQ (.slice A5 bd.length c5) bd ck 4 wb.heap.size wr kJ Pv.size zo zj zj zo;obtain⟨nb,Kz⟩:=ze bd.length;have O3:=zi kJ.out;rw[Kz]at HCK HPT O3|-
    obtain⟨HCK,HPT⟩:=dz HCK HPT;have q1:¬(k:Int)<(k:Int):=zo;have ww2:IntKind.u64.wrap (ck:Int)=ck:=by rw[lE];omega
    clear HO kJ La QH PB yg Kz J6;go_wp2_with fail;refine HCK.mono ?_;rintro e w6 ⟨rfl,rfl⟩;go_wp2_with fail;refine HPT.mono ?_;rintro e w7 ⟨v7,rfl,o7,m7⟩;have B7:=zi (Pv.trans (m7.gV O3 Pv.size));clear m7;go_wp2_with fail;go_ret;rw[GY.out,yt];exact o7.nt (dM.trans (B7.mono dM.size)) dM.size
end Go.Proofs.YtbhpofdafhahgaaGreatDoor
namespace Go.Proofs.YtbhpofdafhahgaaGreatDoor
open Go.RowKit Go.Maps Go.WideMaps
variable [Inhabited eH]
variable {S:iM} {aA gt gM:Nat} {w w':World} {t:Pl.Tb}
def WU(t:Pl.Tb):Prop:=Pl.iy t.name/\Pl.jx t.aZ/\t.lost<1000000000
def wH(w:World)(gt:Nat)(t:Pl.Tb):Prop:=
 ∃Ac cc,ay w gt 245 [.string (ar t.name),.slice Ac t.aZ.length cc,.int .i64 (t.lost:Nat)]/\t.aZ.length<=cc/\dn w Ac (mq t.aZ) 121
theorem wH.aa{w w':World}{gt:Nat}{t:Pl.Tb}(h:wH w gt t)(hb:dP w w'):wH w' gt t:=by obtain⟨Ac,cc,h1,h2,h3⟩:=h;exact⟨Ac,cc,h1.aa hb h1.lt,h2,h3.bQ hb⟩
theorem wH.sf(hS:eP S aA){ps:List Pl.Pr}(hf:SF S w w')(hA:S.At ps w)(h:wH w gt t):wH w' gt t:=by obtain⟨Ac,cc,h1,h2,h3⟩:=h;exact⟨Ac,cc,SF.aC hS hf hA h1 zj,h2,SF.eo hS hf hA h3 zj⟩
theorem EP{c:Nat}{nm rest:List UInt8}(h1:nm.length<=8)(h2:rest.length<=16):Pl.ey (Pl.keyOf c nm rest):=by
 unfold Pl.ey Pl.keyOf
 grind
theorem abl(h:WU t):(Pl.aur t).length<=100:=by unfold Pl.aur Pl.ku;have h1:=Pl.oV Pl.rO 10 t.aZ (λx hx=>Pl.Hh (h.2.1.2.1 x hx));have h2:=h.2.1.1.2;rw[ax,Pl.aG,bE];omega
theorem jx.b{cs:List Pl.Cl}(h:Pl.jx cs):cs.length<=4/\∀x∈cs,ClB x:=⟨h.1.2,λc hc=>⟨by have:=(h.2.1 c hc).1.1.2;omega,by have:=(h.2.1 c hc).2;omega⟩⟩
theorem abp(hS:eP S aA)(gK gt:Nat)(tm cn:Value)(ps:List Pl.Pr)(t:Pl.Tb)(w:World)(hB:vZ S gK tm cn w)(hT:wH w gt t)(gP:WU t)(hA:S.At ps w)(hc:Ctx w)(hr:ps.length<aA):
 bG 260 #[.pointer (some ⟨gK,0,none⟩),.pointer (some ⟨gt,0,none⟩)] w (UI S (Pl.dN (Pl.kC t.name) (Pl.aur t) ps) w):=by
 obtain⟨Ac,cc,PR,hcc,hTS⟩:=hT;have CC:=jx.b gP.2.1;obtain⟨nc,wJ⟩:=ze t.aZ.length;obtain⟨lo,fu⟩:=ze t.lost;have atZ:lo<1000000000:=by rw[<-fu];exact gP.2.2
 obtain⟨nm,pj⟩:=ze t.name;have PK:nm.length<=8:=by rw[<-pj];exact gP.1.1.2
 rw[wJ,fu,pj]at PR;rw[wJ]at hcc CC;have wl:IntKind.u64.wrap (lo:Int)=lo:=by rw[lE];omega
 have HM:=hS.adL;have HM2:=hS.acS;have asK:(Pl.be 4 lo++Pl.ku t.aZ=Pl.aur t):=by rw[<-fu];rfl
 have Dx:=abl gP;have HKC:(Pl.keyOf 99 nm []=Pl.kC t.name):=by rw[pj];rfl
 have HKF:(Pl.ey (Pl.kC t.name)):=EP (by rw[pj];exact PK) zu;unfold vZ iM.v at hB;have Cp:∀W,Below w.heap.size w W->W.cell? ⟨gK,0,none⟩=some (.iface S.T S.rv)/\W.cell? ⟨gt,0,none⟩=some (.string (ar nm))/\W.cell? ⟨gt,1,none⟩=some (.slice Ac nc cc)/\W.cell? ⟨gt,2,none⟩=some (.int .i64 (lo:Nat)):=λW hW=>by have k1:=(hB.aa hW hB.lt).cell 0;have k2:=PR.aa hW PR.lt;exact⟨k1,k2.cell 0,k2.cell 1,k2.cell 2⟩
 have HK:=λW=>Jt 99 nm [] none 0 0 W zj zo rfl zo (.inl rfl);have HP:=(λ(W:World)=>sQ (.slice none 0 0) [] lo 4 W.heap.size W (Ob.nil _ _) (ai _) zo zj zj zu);have HC:(∀(W:World) (v:Value) (aq:Nat),Below w.heap.size w W->w.heap.size<=aq->aq<=W.heap.size->Ob W aq v (Pl.be 4 lo)->bG 247 #[v,.slice Ac nc cc] W (Wr W aq v (Pl.aur t))):=λW v aq hW aI bz hO=>by have:=FU v (Pl.be 4 lo) Ac cc t.aZ aq W hO bz (by rw[Pl.aG];omega) (hTS.1.aa hW) (λp hp=>⟨aK (jh.lt_ (hTS.2 p hp)) hW.size,λe=>by have h1:=(hO.lt _ e).1;have h2:=jh.lt_ (hTS.2 p hp);omega⟩) CC.2 zo;rw[wJ,asK]at this;exact this
 have HF:(∀(W:World) (A B:Option Addr) (n m ca cb:Nat),Below w.heap.size w W->(Pl.kC t.name).length=n->(Pl.aur t).length=m->aw W A (Pl.kC t.name)->aw W B (Pl.aur t)->bG S.Nf #[S.rc,.slice A n ca,.slice B m cb] W (UI S (Pl.dN (Pl.kC t.name) (Pl.aur t) ps) w)):=λW A B n m ca cb hW h1 h2 h3 h4=>
  (hS.put ps (Pl.kC t.name) (Pl.aur t) A B n m ca cb W (hS.aa hA hW) (hc.aa hW) HKF Dx h1 h2 hr h3 h4).mono (λe w' ⟨q1,q2,q3⟩=>⟨(SF.ae hW).trans q1,q2,q3⟩)
 have Xq:(∀W,SF S w W->W.cell? ⟨gK,0,none⟩=some (.iface S.T S.rv)/\W.cell? ⟨gt,0,none⟩=some (.string (ar nm))/\W.cell? ⟨gt,1,none⟩=some (.slice Ac nc cc)/\W.cell? ⟨gt,2,none⟩=some (.int .i64 (lo:Nat))):=λW hW=>by have k1:=(SF.aC hS hW hA hB zj).cell 0;have k2:=SF.aC hS hW hA PR zj;exact⟨k1,k2.cell 0,k2.cell 1,k2.cell 2⟩
 have HN0:(Below w.heap.size w w):=ak _ _;go_enter Tryz.func260,Tryz.ntmps260;go_wp2_with fail;refine aN 22 (λ_=>True) (λW=>W.cell? ⟨gK,0,none⟩=some (.iface S.T S.rv)/\W.cell? ⟨gt,0,none⟩=some (.string (ar nm))/\W.cell? ⟨gt,1,none⟩=some (.slice Ac nc cc)/\W.cell? ⟨gt,2,none⟩=some (.int .i64 (lo:Nat))) zp trivial (Cp _ (ak _ _).drew) (λaz=>?_);refine zt 0 (h:=zt 1 (h:=zt 2 (h:=zt 3 (h:=zt 4 (h:=zt 5 (h:=zt 6 (h:=zt 7 (h:=zt 9 (h:=zt 10 (h:=zt 11 (h:=zt 12 (h:=zt 13 (h:=zt 15 (h:=zt 16 (h:=zt 17 (h:=zt 18 (h:=zt 20 (h:=zt 21 (h:=?_)))))))))))))))))));refine zr 8 λK hK=>?_;go_simp;refine(HK w.drew).mono ?_;rintro e wk ⟨Ak,nk,ck,rfl,CF,yt,Ca,JY,jM⟩;have Bk:(Below w.heap.size w wk):=((ak w.heap.size w).drew).trans (jM.mono ((ak w.heap.size w).drew).size);have KY:(aw wk Ak (Pl.kC t.name)):=by rw[<-HKC];exact Ca.bytes
 have KN:((Pl.kC t.name).length=nk):=by rw[<-HKC];exact CF
 have KL:(∀p,Ak=some p->p.block<wk.heap.size):=λp hp=>(JY p hp).2;go_wp2_with fail;refine hK.out _ _ ⟨λ_=>trivial,Cp _ Bk⟩ (λaz=>?_);refine zr 14 λK hK=>?_;go_simp;refine(HP (wk)).mono ?_;rintro e wp ⟨vp,rfl,op,mp⟩;rw[aX]at op;have FK:Below (wk).heap.size (wk) wp:=mp.only.cW (ai _) (λk hk e=>by cases e);have Bp:(Below w.heap.size w wp):=(Bk).trans (FK.mono (Bk).size);have OB:(w.heap.size<=(wk).heap.size/\(wk).heap.size<=wp.heap.size):=⟨(Bk).size,FK.size⟩;have KYp:(aw wp Ak (Pl.kC t.name)):=KY.bQ FK;have KS:(∀p,Ak=some p->vp.ownBlock≠some p.block):=λp hp e=>by have h1:=(op.lt _ e).1;have h2:=KL p hp;omega
 go_wp2_with fail;refine hK.out _ _ ⟨λ_=>trivial,Cp _ Bp⟩ (λaz=>?_);refine zr 19 λK hK=>?_;go_simp;refine(HC (wp) _ _ (Bp) OB.1 OB.2 op).mono ?_;rintro e wc ⟨vc,rfl,oc,mc⟩;have Bc:(Below w.heap.size w wc):=(Bp).trans ((mc.gV op OB.2).mono OB.1);have KYc:(aw wc Ak (Pl.kC t.name)):=mc.only.bytes KYp (λp hp e=>KS p hp e);obtain⟨Ar,cr,rfl,Ug,mM,hkr⟩:=bJ oc;have RC:(aw wc Ar (Pl.aur t)):=mM.bytes;go_wp2_with fail;refine hK.out _ _ ⟨λ_=>trivial,Cp _ Bc⟩ (λaz=>?_);refine zr 22 λK hK=>?_;go_simp;refine(HF wc Ak Ar _ _ _ _ Bc KN rfl KYc RC).mono ?_;rintro e wz ⟨hf,ha,rfl⟩;have HQ:=And.intro hf ha;go_wp2_with fail;refine hK.out _ _ ⟨zk zp,Xq _ HQ.1⟩ (λaz=>?_);refine zt 23 (h:=?_);(try simp only[Act.put,zq1,zq2,zP,zq4,zq5,RR]);refine bh zp ?_ _;go_wp2_with fail;go_ret;exact⟨HQ.1,HQ.2,rfl⟩
def aU(g:Nat):Value:= .pointer (some ⟨g,0,none⟩)
def MZ(nm:List UInt8)(v:Value):List UInt8->Option Value:=upd (λ_=>none) nm (some v)
def p5(w:World)(gM gt:Nat):Option Pl.Tb->Prop
 |none=>dX w gM 0 (λ_=>none) 0
 |some t=>dX w gM 1 (MZ t.name (aU gt)) 1/\wH w gt t/\WU t/\Zn gt
theorem p5.map{tb:Option Pl.Tb}(h:p5 w gM gt tb):∃f,dX w gM 1 f (if tb.isSome then 1 else 0):=by
 cases tb with
 |none=>exact⟨_,dX.mono h zo⟩
 |some t=>exact⟨_,h.1⟩
theorem p5.aa{w w':World}{gM gt:Nat}{tb:Option Pl.Tb}(h:p5 w gM gt tb)(hb:dP w w'):p5 w' gM gt tb:=by
 cases tb with
 |none=>exact dX.aa h hb
 |some t=>exact⟨h.1.aa hb,h.2.1.aa hb,h.2.2⟩
theorem dX.sf{n sz:Nat}{f:List UInt8->Option Value}(h:dX w gM n f sz)(hf:SF S w w')(ho:¬S.bs gM):dX w' gM n f sz:=
 h.heap (hf.1.heap h.lt (λt _=>h.kz t) ho)
theorem p5.sf{S:iM}{aA:Nat}(hS:eP S aA){ps:List Pl.Pr}{w w':World}{gM gt:Nat}{tb:Option Pl.Tb}(hf:SF S w w')(hA:S.At ps w)(ho:¬S.bs gM)(h:p5 w gM gt tb):p5 w' gM gt tb:=by
 cases tb with
 |none=>exact dX.sf h hf ho
 |some t=>exact⟨h.1.sf hf ho,h.2.1.sf hS hf hA,h.2.2⟩
structure eX(S:iM)(gK gM gt:Nat)(b:Pl.Bs)(w:World):Prop where
 aC:vZ S gK (.map (some gM)) (.int .i64 (b.count:Nat)) w
 fv:S.At b.ps w
 tq:p5 w gM gt b.tb
 off:¬S.bs gM
 lo:Zn gK/\Zn gM
theorem eX.aa{S:iM}{aA:Nat}(hS:eP S aA){gK gM gt:Nat}{b:Pl.Bs}{w w':World}(h:eX S gK gM gt b w)(hb:dP w w'):eX S gK gM gt b w':=
 ⟨h.aC.aa hb h.aC.lt,hS.aa h.fv hb,h.tq.aa hb,h.off,h.lo⟩
def LD(S:iM)(own:Nat->Prop)(w w':World):Prop:=lW Sb (λk=>S.bs k\/own k) w w'/\Gl w w'/\lW S.ts (λk=>S.bs k\/own k) w w'
section
variable {S:iM} {own atP:Nat->Prop} {a b c w w':World}
theorem SF.o(h:SF S w w'):LD S own w w':=⟨h.1.mono zu zS,h.2.1,h.2.2.mono zu zS⟩
theorem LD.trans(h:LD S own a b)(k:LD S own b c):LD S own a c:=⟨h.1.trans k.1,h.2.1.aE k.2.1,h.2.2.trans k.2.2⟩
theorem LD.ae(h:dP w w'):LD S own w w':=(SF.ae h).o
theorem LD.lJ{F:Nat->Prop}(h:ag F w w')(hF:∀k,F k->own k)(hZ:∀k,F k->Zn k):LD S own w w':=⟨⟨F,h,λk hk=> .inr (.inr (hF k hk))⟩,h.mono (λk _ hk=>hZ k hk),⟨F,h,λk hk=> .inr (.inr (hF k hk))⟩⟩
end
variable {S:iM} {aA:Nat}
variable (gK gM gt:Nat) (b:Pl.Bs) (t:Pl.Tb) (aZ:List Pl.Cl) (row:List Pl.Vl) (n:Nat) (w:World)
def ZV(tb:Option Pl.Tb)(k:Nat):Prop:=k=gK\/k=gM\/(tb.isSome=true/\k=gt)
def vW(S:iM)(gK gM gt:Nat)(b b':Pl.Bs)(w:World)(e:Ending)(w':World):Prop:=
 e= .returned .nilIface/\∃nA,eX S gK gM nA b' w'/\(nA=gt\/w.heap.size<=nA)/\LD S (ZV gK gM gt b.tb) w w'
theorem Ly:∀u∈mq aZ,u.oneCell'=true:=by intro u hu;obtain⟨c,_,hc⟩:=lQ.1 hu;exact XU c u hc
theorem Fu:(mq aZ).length=aZ.length*2:=by
 induction aZ with
 |nil=>rfl
 |cons a l ih=>rw[show mq (a::l)=YL a++mq l from rfl,ax,ih,bE];show 2+_=_;omega
theorem Wi(hS:eP S aA)(gK gM gt:Nat)(b:Pl.Bs)(P:Nat->Prop)(c:List Value)(o:Pl.jb)(w:World)(hB:eX S gK gM gt b w)(kI:b.tb=none)(hc:Ctx w)(hr:b.ps.length<aA)(hR:OP w P c o)(hP:∀k,P k->k<w.heap.size)(gP:Pl.p8 o)(hk:o.kind=1):
 bG 216 #[aU gK,.agg c.toArray] w (vW S gK gM gt b (Pl.aul b o).2 w):=by
 obtain⟨Ac,cc,Ar,cr,rfl,hcc,Ug,IQ,mM,hpc,hpr⟩:=hR;have aiZ:Pl.jx o.aZ:=by
  rcases gP.2 with⟨_,h,_⟩|⟨h,_⟩|⟨h,_⟩
  ·exact h
  ·omega
  ·omega
 have pj:Pl.iy o.table:=gP.1;have hdo:(Pl.aul b o).2={b with ps:=Pl.dN (Pl.kC o.table) (Pl.aur ⟨o.table,o.aZ,0⟩) b.ps,tb:=some ⟨o.table,o.aZ,0⟩}:=by unfold Pl.aul;rw[kI]
 obtain⟨nc,wJ⟩:=ze o.aZ.length;obtain⟨nr,Gc⟩:=ze o.row.length;obtain⟨nm,alc⟩:=ze o.table;have EX:=hB.tq;rw[kI]at EX;rw[show((o.kind:Nat):Int)=1 by rw[hk];rfl,wJ,Gc,alc];rw[wJ]at hcc;rw[alc]at pj;have PK:nm.length<=8:=pj.1.2;obtain⟨g1,w1,nY,dj,aI,B1⟩:=zE w 216 [.int .i64 1,.string (ar nm),.slice Ac nc cc,.slice Ar nr cr];have yU:=hB.aa hS aI;have zV:=jx.b aiZ;have hIN:=AL (ar nm) w1 (by rw[bK];omega);rw[show decide (Pl.iy (ar nm).data.toList)=true from aQ pj]at hIN;have YF:∀W,Below w1.heap.size w1 W->(Instr.lookup 164 (.map (some gM)) (.string (ar nm)) false).run Tryz.prog W= .ok (.pointer none) W:=λW hW=>dX.look (dX.aa (dX.aa EX aI) hW) Tryz.underlying164 (z:= .pointer none) zp nm zo;have HLN:∀W,Below w1.heap.size w1 W->(Builtin.len_ #[164] 3 #[.map (some gM)]).run Tryz.prog W= .ok (.int .i64 ((0:Nat):Int)) W:=λW hW=>dX.len (dX.aa (dX.aa EX aI) hW) Tryz.underlying164 _;have HKC:∀W,Below w1.heap.size w1 W->W.cell? ⟨gK,1,none⟩=some (.map (some gM)):=λW hW=>(yU.aC.aa hW yU.aC.lt).cell 1;have Mj:∀W,Below w1.heap.size w1 W->W.cell? ⟨g1,1,none⟩=some (.string (ar nm))/\W.cell? ⟨g1,2,none⟩=some (.slice Ac nc cc):=λW hW=>by obtain⟨_,x,y,_⟩:=eh (B1.aa hW B1.lt);exact⟨x,y⟩
 have MY:∀W,Below w1.heap.size w1 W->bG 215 #[.slice Ac nc cc] W λe w'=>e= .returned (.bool true)/\Below W.heap.size W w':=λW hW=>by have h1:=rf Ac cc o.aZ W ((IQ.aa aI).aa hW) (λp hp=>aK (hP _ (hpc p hp)) (ao aI.size hW.size)) (λx hx=>⟨by have:=(zV.2 x hx).1;omega,by have:=(zV.2 x hx).2;omega⟩);rw[aQ aiZ,wJ]at h1;exact h1
 have kG:nc<=4:=by rw[<-wJ];exact zV.1
 have PI:=(λW (hW:Below w1.heap.size w1 W)=>(IQ.aa aI).aa hW);have YF:=YF;have HLN:=HLN;have HKC:=HKC;have Mj:=Mj;have MY:=MY;have HX:=And.intro hB (And.intro hc (ze9 aiZ pj hdo wJ alc yU hr nY gP));obtain⟨_,z1,z2,_⟩:=eh B1;have y1:=HKC w1 (ak _ _);unfold aU;go_enter Tryz.func216,Tryz.ntmps216;go_wp2_with fail;refine hIN.mono ?_;rintro e w2 ⟨rfl,bz⟩;have Kb:(∀j,Below w1.heap.size w1 (w2.drewN j)):=λj=>below_drewN bz j;have x1:=HKC w2 bz;obtain⟨x2,x3⟩:=Mj w2 bz;have x4:=λj=>YF (w2.drewN j) (Kb j);go_wp2_with fail;go_quiet (fail);have b3:=Kb nq;obtain⟨w3,fX⟩:=ze (w2.drewN nq);rw[fX]at b3|-
 have v1:=HKC w3 b3;obtain⟨v2,v3⟩:=Mj w3 b3;have v4:=HLN w3 b3;have HA3:=MY w3 b3;go_wp2_with fail;refine HA3.mono ?_;rintro e w4 ⟨rfl,cj⟩;have ib:=b3.trans (cj.mono b3.size);obtain⟨i0,yW,nQ,kK,mY⟩:=bV Tryz.Cx;have HI:=sS yW nQ kK mY;go_wp2_with fail;refine aN 6 (λ_=>True) (λW=>W.cell? ⟨g1,1,none⟩=some (.string (ar nm))/\W.cell? ⟨g1,2,none⟩=some (.slice Ac nc cc)) zp trivial (Mj _ ib.drew) (λaz=>?_);refine zt 0 (h:=zt 1 (h:=zt 2 (h:=zt 3 (h:=?_))));refine zr 4 λK hK=>?_;refine j7 w4.drew (.const (.slice none 0 0)) (.tmp 46) 122 rfl w4.heap.size 121 i0 _ 2 24 Tryz.underlying122 HI.1 HI.2.1 HI.2.2.1 HI.2.2.2 rfl zj (.slice none 0 0) 0 [] rfl (dA _ _ _ _) Ac nc cc (mq o.aZ) rfl (by rw[Fu,HX.2.2.2.2.2.1]) (PI _ ib.drew) (Ly _) (by unfold maxLen;omega) (rE zo) (ai _) ?_;intro v5 w5 kF JC PB;rw[bZ,aX]at kF;have pQ:ag (λk=>(Value.slice none 0 0).ownBlock=some k) w4.drew w5:=⟨JC.os,JC.tape,JC.output,JC.size,λk hk hn=>JC.block k hk (λe=>hn e.symm)⟩;have b5:Below w4.heap.size w4 w5:=cG (pQ.cW (ai _) (λk hk e=>by cases e));have uY:=ib.trans (b5.mono ib.size);obtain⟨A5,c5,rfl,La,QH,asa⟩:=bJ kF;have HS5:=And.intro La (show dn w5 A5 (mq o.aZ) 121 from⟨QH,λp hp=>dc kF (asa p hp)⟩);refine hK.out _ _ ⟨λ_=>trivial,Mj _ uY⟩ (λaz=>?_);refine zt 5 (h:=?_);(try simp only[Act.put,zq1,zq2,zP,zq4,zq5,RR]);obtain⟨w6,nC⟩:=ze (World.alloc w5 (.cells #[.string (ar nm),.slice A5 nc c5,.int .i64 0] 245));obtain⟨g6,Ai⟩:=ze (Array.size (World.heap w5));have b6:=zb nC;have B6:=zB nC Ai;have zv:=uY.trans (b6.mono uY.size);have HT6:(wH w6 g6 ⟨nm,o.aZ,0⟩):=⟨A5,c5,by rw[HX.2.2.2.2.2.1];exact B6,by rw[HX.2.2.2.2.2.1];exact HS5.1,HS5.2.bQ b6⟩;have Ui:(w1.heap.size<=g6):=by rw[<-Ai];exact uY.size
 refine zr 6 λK hK=>?_;go_simp;(try rw[nC]);(try rw[Ai]);refine hK.out _ _ ⟨zk zp,Mj _ zv⟩ (λaz=>?_);refine zt 7 (h:=?_);(try simp only[Act.put,zq1,zq2,zP,zq4,zq5,RR]);refine bh zp ?_ _;go_wp2_with fail;obtain⟨t6,ht6⟩:∃x:Pl.Tb,(⟨nm,o.aZ,0⟩:Pl.Tb)=x:=⟨_,rfl⟩;have HTO:(WU t6):=by rw[<-ht6];exact⟨HX.2.2.2.1,HX.2.2.1,by show(0:Nat)<_;decide⟩
 have HTE:((⟨o.table,o.aZ,0⟩:Pl.Tb)=t6):=by rw[HX.2.2.2.2.2.2.1];exact ht6
 have HTN:(t6.name=nm):=by rw[<-ht6]
 rw[ht6]at HT6;obtain⟨hX1,hX2,_,_,hX5,_,_,hX8,hX9,aub,_⟩:=id HX;have Gb:=hX8.aa hS zv;have amE:Below w.heap.size w w6:=aI.trans (zv.mono aI.size);have HKP:=abp hS gK g6 _ _ b.ps t6 w6 Gb.aC HT6 HTO Gb.fv (hX2.aa amE) hX9;have HLG:(Zn g6):= .inl (ao hX2.lo (ao aI.size Ui));go_wp2_with fail;refine HKP.mono ?_;rintro e w7 ⟨hf7,ha7,rfl⟩;have hB7:=SF.aC hS hf7 Gb.fv Gb.aC zj;have Zj:=HT6.sf hS hf7 Gb.fv;have hM7:=p5.sf hS hf7 Gb.fv Gb.off Gb.tq;rw[kI]at hM7;have asF:dX w7.drew gM 0 (λ_=>none) 0:=dX.heap hM7 rfl;obtain⟨w8,hrun,hm8,Vo⟩:=asF.store Tryz.underlying164 (by unfold maxLen;omega) nm zo (.pointer (some ⟨g6,0,none⟩));have Vo:ag (·=gM) w7 w8:=Vo.im;have hne:gM≠gK:=λe=>dX.kz hM7 _ (e▸hB7.dV);have ard:gM≠g6:=λe=>by obtain⟨_,_,h,_⟩:=Zj;exact dX.kz hM7 _ (e▸h.dV)
 have hB8:=Vo.aC hB7 (λe=>hne e.symm);have hT8:wH w8 g6 t6:=by obtain⟨A7,c7,h1,h2,h3⟩:=Zj;exact⟨A7,c7,Vo.aC h1 (λe=>ard e.symm),h2,h3.jL Vo (λp hp e=>dX.kz hM7 _ (e▸h3.2 p hp))⟩
 have HD7:(w7.cell? ⟨gK,1,none⟩=some (.map (some gM))/\w7.cell? ⟨g6,0,none⟩=some (.string (ar nm))):=by obtain⟨A7,c7,h1,h2,h3⟩:=Zj;rw[HTN]at h1;exact⟨hB7.cell 1,h1.cell 0⟩
 have HD8:(w8.cell? ⟨gK,1,none⟩=some (.map (some gM))/\w8.cell? ⟨g6,0,none⟩=some (.string (ar nm))):=by obtain⟨A8,c8,h1,h2,h3⟩:=hT8;rw[HTN]at h1;exact⟨hB8.cell 1,h1.cell 0⟩
 have hA8:S.At (Pl.dN (Pl.kC t6.name) (Pl.aur t6) b.ps) w8:=hS.bQ (ts:=[]) ha7 Vo (λx t ht hn hx=>dX.kz hM7 t (hx▸ht)) zj (λ_=>by decide) (λk hk e=>Gb.off (e▸hk));have HQ:(vW S gK gM gt b (Pl.aul b o).2 w (.returned .nilIface) w8):=by
  refine⟨rfl,g6,?_,.inr (ao aI.size Ui),?_⟩
  ·rw[HX.2.2.2.2.1,HTE];refine⟨hB8,?_,?_,Gb.off,Gb.lo⟩
   ·rw[<-show t6.name=o.table by rw[<-HTE]];exact hA8
   ·refine⟨?_,hT8,HTO,HLG⟩;rw[HTN];exact hm8
  ·exact(LD.ae amE).trans ((SF.o hf7).trans (LD.lJ Vo (λk hk=> .inr (.inl hk)) (λk hk=>by rw[hk];exact Gb.lo.2)))
 go_wp2_with fail;refine aN 9 (λ_=>True) (λW=>W.cell? ⟨gK,1,none⟩=some (.map (some gM))/\W.cell? ⟨g6,0,none⟩=some (.string (ar nm))) zp trivial HD7 (λaz=>?_);refine zt 0 (h:=zt 1 (h:=zt 2 (h:=zt 3 (h:=zt 4 (h:=zt 5 (h:=zt 6 (h:=zt 7 (h:=zt 8 (h:=?_)))))))));refine zr 9 λK hK=>?_;go_simp;refine hK.out _ _ ⟨zk zp,HD8⟩ (λaz=>?_);(try simp only[Act.put,zq1,zq2,zP,zq4,zq5,RR]);refine bh zp ?_ _;go_wp2_with fail;go_ret;exact HQ
theorem aeR:∀(row:List Pl.Vl) (k:Nat) (v:Pl.Vl),row[k]?=some v->(vcs row)[k*3]?=some (.int .i64 (v.ty:Nat))/\(vcs row)[k*3+1]?=some (.int .i64 (sig v.n))/\(vcs row)[k*3+2]?=some (.string (ar v.s))
 | [],k,v,h=>by simp at h
 |a::r,0,v,h=>by simp at h;subst h;exact⟨rfl,rfl,rfl⟩
 |a::r,k+1,v,h=>by have ih:=aeR r k v (by simpa using h);rw[show(k+1)*3=k*3+1+1+1 by omega];simpa [vcs,vc] using ih
def Ns:Prop:=row.length=aZ.length/\∀(k:Nat) (v:Pl.Vl) (c:Pl.Cl),row[k]?=some v->aZ[k]?=some c->v.ty=c.ty/\Pl.Gq v
theorem WY(v:Pl.Vl)(h:Pl.Gq v)(w:World):bG 245 #[.agg #[.int .i64 (v.ty:Nat),.int .i64 (sig v.n),.string (ar v.s)]] w λe w'=>e= .returned (.bool true)/\dP w w':=by
 have hl:v.s.length<=16:=by rcases h with⟨_,h,_⟩|⟨_,_,h⟩<;>simp_all
 have hb:(if((v.ty:Nat):Int)=1 then(ar v.s).data.toList.isEmpty else if((v.ty:Nat):Int)=2 then(decide (sig v.n=0)&&decide ((ar v.s).size<=16))else false)=true:=by
  rcases h with⟨h1,h2,_⟩|⟨h1,h2,h3⟩
  ·rw[ah (by rw[h1];rfl),h2];rfl
  ·rw[aj zo,ah (by rw[h1];rfl),h2,bK,aQ h3];rfl
 have:=xY (v.ty:Nat) (sig v.n) (ar v.s) w (by rw[bK];omega);rwa [hb]at this
theorem PT(A:Option Addr)(n ca:Nat)(w:World)(hT:wH w gt t)(hs:Src w A (vcs row))(hn:row.length=n)(h4:n<=4)(hf:Ns t.aZ row):
 bG 218 #[aU gt,.slice A n ca] w λe w'=>e= .returned (.bool true)/\dP w w':=by
 obtain⟨Ac,cc,PR,hcc,hTS⟩:=hT;have CC:t.aZ.length=n:=by rw[<-hn];exact hf.1.symm
 rw[CC]at PR hcc;have HTC:Hid (∀W,Below w.heap.size w W->W.cell? ⟨gt,1,none⟩=some (.slice Ac n cc)):=λW hW=>(PR.aa hW PR.lt).cell 1;obtain⟨HSR,PI,HF,HN,CG⟩:=OW (λW (hW:Below w.heap.size w W)=>hs.aa hW) (λW (hW:Below w.heap.size w W)=>hTS.1.aa hW) hf hn CC;have c1:=PR.cell 1;have q0:((n:Int) !=(n:Int))=false:=by simp
 clear PR hTS hs hf hn CC;unfold aU;go_enter Tryz.func218,Tryz.ntmps218;simp only[aL,au]at c1;go_wp2_with fail
 go_loopw [17] (λi wr=>∃k:Nat,k<=n/\i= .int .i64 (k:Int)/\Hid (Below w.heap.size w wr)) (λi _=>n-(intOf i).toNat)
 case atStart=>exact⟨0,aM _,rfl,ak _ _⟩
 case round=>
  obtain⟨k,hk,rfl,HB⟩:=hrel;by_cases pX:k<n
  ·have q1:(k:Int)<(n:Int):=zo;obtain⟨v,hv⟩:∃c,row[k]?=some c:=⟨_,aF (by rw[HN.out];exact pX)⟩;obtain⟨c,hc⟩:∃c,t.aZ[k]?=some c:=⟨_,aF (by rw[CG.out];exact pX)⟩;obtain⟨mr,gP⟩:=HF.out.2 k v c hv hc;obtain⟨a0,a1,a2⟩:=aeR row k v hv;obtain⟨b0,off,rfl,e0⟩:=(HSR.out _ HB.out).dm _ _ a0;have e1:=(HSR.out _ HB.out).cell _ _ a1;have e2:=(HSR.out _ HB.out).cell _ _ a2;rw[<-ew]at e1 e2;obtain⟨a3,a4⟩:=N4 t.aZ k c hc;obtain⟨b1,RE,rfl,_⟩:=(PI.out _ HB.out).dm _ _ a4;obtain⟨ty,aiu⟩:=ze v.ty;obtain⟨vn,Pz⟩:=ze v.n;obtain⟨vs,hvs⟩:=ze v.s;have HIV:=zi (λW=>WY v gP W);rw[aiu,Pz,hvs]at HIV;rw[aiu]at e0 mr;rw[Pz]at e1;rw[hvs]at e2;rw[<-mr]at a4;obtain⟨g1,w1,nY,dj,aI,B1⟩:=zE wr 88 [.int .i64 (ty:Nat),.int .i64 (sig vn),.string (ar vs)];have fJ:=zi (HB.out.trans (aI.mono HB.out.size));have D1:Hid (∀W,Below w1.heap.size w1 W->W.cell? ⟨g1,0,none⟩=some (.int .i64 (ty:Nat))/\W.cell? ⟨g1,1,none⟩=some (.int .i64 (sig vn))/\W.cell? ⟨g1,2,none⟩=some (.string (ar vs))/\W.cell? ⟨gt,1,none⟩=some (.slice (some ⟨b1,RE,none⟩) n cc)/\W.cell? ⟨b1,RE+k*2+1,none⟩=some (.int .i64 (ty:Nat))):=λW hW=>by obtain⟨x,y,z,_⟩:=dD (B1.aa hW B1.lt);exact⟨x,y,z,HTC.out _ (fJ.out.trans (hW.mono fJ.out.size)),by have:=(PI.out _ (fJ.out.trans (hW.mono fJ.out.size))).cell _ _ a4;rwa [<-ew]at this⟩
   obtain⟨y0,y1,y2,z0,z1,z2⟩:=dD B1;clear hv hc mr gP a0 a1 a2 a3 a4 aiu Pz hvs aI B1;go_wp2_with fail;refine aN 13 (λ_=>True) (λW=>W.cell? ⟨g1,0,none⟩=some (.int .i64 (ty:Nat))/\W.cell? ⟨g1,1,none⟩=some (.int .i64 (sig vn))/\W.cell? ⟨g1,2,none⟩=some (.string (ar vs))/\W.cell? ⟨gt,1,none⟩=some (.slice (some ⟨b1,RE,none⟩) n cc)/\W.cell? ⟨b1,RE+k*2+1,none⟩=some (.int .i64 (ty:Nat))) zp trivial (D1.out _ (ak _ _).drew) (λaz=>?_);refine zt 0 (h:=zt 1 (h:=zt 2 (h:=zt 3 (h:=zt 4 (h:=zt 5 (h:=zt 6 (h:=zt 7 (h:=zt 8 (h:=?_)))))))));(try simp only[zq1,Act.put,zq2,zP,zq4,zq5,RR]);refine zt 9 (h:=zt 10 (h:=zt 11 (h:=zt 12 (h:=?_))));(try simp only[zq1,Act.put,zq2,zP,zq4,zq5,RR]);refine zr 13 λK hK=>?_;go_simp;refine(HIV.out _).mono ?_;rintro e w2 ⟨rfl,bz⟩;have eY:Hid (Below w1.heap.size w1 w2):=cG bz;have eI:=zi (fJ.out.trans (eY.out.mono fJ.out.size));clear bz;go_wp2_with fail;refine hK.out _ _ ⟨λ_=>trivial,D1.out _ eY.out⟩ (λaz=>?_);clear hK K;refine zt 14 (h:=zt 15 (h:=?_));(try simp only[zq1,Act.put,zq2,zP,zq4,zq5,RR]);refine bh zp ?_ _;clear az;go_wp2_with fail;exact⟨⟨k+1,zo,zu,eI.out⟩,by simp[intOf];omega⟩
  ·obtain rfl:k=n:=zo;have q1:¬(k:Int)<(k:Int):=zo;go_wp2_with fail;go_ret;exact⟨rfl,HB.out⟩
theorem WT(hT:wH w gt t)(gP:WU t)(hn:n<9223372036854775808):
 bG 220 #[aU gt,.agg #[.int .i64 1,.int .i64 (n:Nat),.string ⟨#[]⟩]] w (NT w (Pl.kR t.name ⟨1,n,[]⟩)):=by
 obtain⟨Ac,cc,PR,hcc,hTS⟩:=hT;obtain⟨nm,pj⟩:=ze t.name;have PK:nm.length<=8:=by rw[<-pj];exact gP.1.1.2
 rw[pj]at PR;have HKR:Hid (Pl.keyOf 114 nm (Pl.be 8 (n+9223372036854775808))=Pl.kR t.name ⟨1,n,[]⟩):=by rw[Hid,pj];rfl
 obtain⟨g1,w1,nY,dj,aI,B1⟩:=zE w 88 [.int .i64 1,.int .i64 (n:Nat),.string ⟨#[]⟩];have D1:Hid (∀W,Below w1.heap.size w1 W->W.cell? ⟨g1,0,none⟩=some (.int .i64 1)/\W.cell? ⟨g1,1,none⟩=some (.int .i64 (n:Nat))/\W.cell? ⟨g1,2,none⟩=some (.string ⟨#[]⟩)/\W.cell? ⟨gt,0,none⟩=some (.string (ar nm))):=λW hW=>by obtain⟨x,y,z,_⟩:=dD (B1.aa hW B1.lt);exact⟨x,y,z,((PR.aa aI PR.lt).aa hW (PR.aa aI PR.lt).lt).cell 0⟩
 obtain⟨HO,fJ⟩:=dz (λW=>PO n W hn) aI;clear PR hTS gP hcc pj aI B1;unfold aU;go_enter Tryz.func220,Tryz.ntmps220;go_wp2_with fail;refine aN 6 (λ_=>True) (λW=>W.cell? ⟨g1,0,none⟩=some (.int .i64 1)/\W.cell? ⟨g1,1,none⟩=some (.int .i64 (n:Nat))/\W.cell? ⟨g1,2,none⟩=some (.string ⟨#[]⟩)/\W.cell? ⟨gt,0,none⟩=some (.string (ar nm))) zp trivial (D1.out _ (ak _ _).drew) (λaz=>?_);refine zt 0 (h:=zt 1 (h:=zt 2 (h:=zt 3 (h:=zt 4 (h:=?_)))));(try simp only[zq1,Act.put,zq2,zP,zq4,zq5,RR]);refine zr 5 λK hK=>?_;go_simp;refine(HO.out _).mono ?_;rintro e w2 ⟨A2,n2,c2,rfl,mV,lC,wC,Mg,bz⟩;have eY:Hid (Below w1.heap.size w1 w2):=cG bz;have HK:=Jt 114 nm (Pl.be 8 (n+9223372036854775808)) A2 n2 c2 w2 zj zo mV (by rw[<-mV,Pl.aG];decide) wC.bytes;rw[HKR.out]at HK;have HK:=zi HK;clear mV lC wC Mg bz;go_wp2_with fail;refine hK.out _ _ ⟨λ_=>trivial,D1.out _ eY.out⟩ (λaz=>?_);clear hK K;refine zr 6 λK hK=>?_;go_simp;refine HK.out.mono ?_;rintro e w3 ⟨A3,n3,c3,rfl,OM,J8,ht3,hr3,bg⟩;have eI:Hid (Below w1.heap.size w1 w3):=eY.out.trans (bg.mono eY.out.size);have HQ:Hid (NT w (Pl.kR t.name ⟨1,n,[]⟩) (.returned (.slice A3 n3 c3)) w3):=⟨A3,n3,c3,rfl,OM,J8,ht3,λp hp=>⟨ao (ao fJ.out.size eY.out.size) (hr3 p hp).1,(hr3 p hp).2⟩,fJ.out.trans (eI.out.mono fJ.out.size)⟩;clear OM J8 ht3 hr3 bg;go_wp2_with fail;refine hK.out _ _ ⟨zk zp,D1.out _ eI.out⟩ (λaz=>?_);clear hK K;refine zt 7 (h:=?_);(try simp only[zq1,Act.put,zq2,zP,zq4,zq5,RR]);refine bh zp ?_ _;clear az;go_wp2_with fail;go_ret;exact HQ.out
theorem WJ(hB:eX S gK gM gt b w)(kI:b.tb=some t):
 bG 197 #[aU gK,.string (ar t.name)] w λe w'=>e= .returned (.tuple #[aU gt,.nilIface])/\w'=w:=by
 have EX:=hB.tq;rw[kI]at EX;obtain⟨nm,pj⟩:=ze t.name;have PK:nm.length<=8:=by rw[<-pj];exact EX.2.2.1.1.1.2
 have mW:=dX.look EX.1 Tryz.underlying164 (z:= .pointer none) zp nm zo;have e:MZ t.name (aU gt) nm=some (aU gt):=by unfold MZ upd;rw[ah pj.symm]
 rw[e,lU]at mW;rw[pj];have c1:=hB.aC.cell 1;simp only[aL,au]at c1;unfold aU at mW|-
 go_enter Tryz.func197,Tryz.ntmps197;go_wp2_with fail;go_ret2;exact⟨rfl,rfl⟩
theorem MU(hS:eP S aA)(gK gM gt:Nat)(b:Pl.Bs)(P:Nat->Prop)(c:List Value)(o:Pl.jb)(w:World)(hB:eX S gK gM gt b w)(kI:b.tb=none)(hc:Ctx w)(hr:b.ps.length<aA)(hR:OP w P c o)(hP:∀k,P k->k<w.heap.size)(gP:Pl.p8 o)(hk:o.kind=1):
 bG 168 #[aU gK,.agg c.toArray] w (vW S gK gM gt b (Pl.aul b o).2 w):=by
 obtain⟨Ac,cc,Ar,cr,rfl,hcc,Ug,IQ,mM,hpc,hpr⟩:=id hR;obtain⟨nc,wJ⟩:=ze o.aZ.length;obtain⟨nr,Gc⟩:=ze o.row.length;obtain⟨nm,pj⟩:=ze o.table;obtain⟨g1,w1,nY,dj,aI,B1⟩:=zE w 216 [.int .i64 1,.string (ar nm),.slice Ac nc cc,.slice Ar nr cr];have hC:=Wi hS gK gM gt b P _ o w1 (hB.aa hS aI) kI (hc.aa aI) hr (hR.only (ag.ae aI (λ_=>False)) (λ_ _ h=>h)) (λk hk=>aK (hP k hk) aI.size) gP hk;rw[show((o.kind:Nat):Int)=1 by rw[hk];rfl,wJ,Gc,pj]at hC|-
 obtain⟨c0,c1,c2,c3,_⟩:=eh B1;unfold aU at*;go_enter Tryz.func168,Tryz.ntmps168;go_wp2_with fail;refine hC.mono ?_;rintro e w2 ⟨rfl,nA,hb,hg,hf⟩;have HQ:(vW S gK gM gt b (Pl.aul b o).2 w (.returned .nilIface) w2):=⟨rfl,nA,hb,hg.imp id (λh=>ao aI.size h),(LD.ae aI).trans hf⟩;go_wp2_with fail;go_ret;exact HQ
theorem Eh{n:Nat}(h:n<9223372036854775808):sig n=n:=by unfold sig;omega
theorem UG{n:Nat}{row:List Pl.Vl}(h:Pl.Sr row):(Pl.auq n row).length<=100:=by unfold Pl.auq Pl.l6;have h1:=Pl.oV Pl.nI 18 row (λx hx=>Pl.AJ (h.2 x hx));have h2:=h.1.2;rw[ax,Pl.aG,bE];omega
theorem QV:(Pl.auA ⟨1,n,[]⟩).length=8:=by unfold Pl.auA;rw[ah rfl,Pl.aG]
theorem ajI{v:Pl.Vl}(hv:Pl.Gq v):VlB v:=by
 have e:(256:Nat)^8=18446744073709551616:=zj;rcases hv with⟨a,b,c⟩|⟨a,b,c⟩
 ·exact⟨zo,zo,by simp[b]⟩
 ·exact⟨zo,zo,zo⟩
theorem NG(hS:eP S aA)(gK gM gt:Nat)(b:Pl.Bs)(t:Pl.Tb)(P:Nat->Prop)(c:List Value)(o:Pl.jb)(n:Nat)(rest:List Pl.Vl)(w:World)(hB:eX S gK gM gt b w)(kI:b.tb=some t)(hc:Ctx w)(hr:b.ps.length<aA)
 (hR:∀W,SF S w W->OP W P c o) (gP:Pl.p8 o) (hk:o.kind=2) (htn:o.table=t.name) (jn:Ns t.aZ o.row) (nT:o.row=⟨1,n,[]⟩::rest) (hn:n<9223372036854775808) (hno:Pl.dI (Pl.aus t o) b.ps=none) (kj:b.count<1000000000):
 bG 168 #[aU gK,.agg c.toArray] w (vW S gK gM gt b (Pl.aul b o).2 w):=by
 have hR0:=hR w (SF.refl w);obtain⟨Ac,cc,Ar,cr,rfl,hcc,Ug,IQ,mM,hpc,hpr⟩:=id hR0;have hro:Pl.Sr o.row:=by
  rcases gP.2 with⟨h,_⟩|⟨_,_,h⟩|⟨h,_⟩
  ·omega
  ·exact h
  ·omega
 have EX:=hB.tq;rw[kI]at EX;have aaw:Pl.aus t o=Pl.kR t.name ⟨1,n,[]⟩:=by unfold Pl.aus;rw[nT];rfl
 have hdo:(Pl.aul b o).2={b with ps:=Pl.dN (Pl.aus t o) (Pl.auq (b.count+1) o.row) b.ps}:=by unfold Pl.aul;rw[kI];dsimp only;rw[hno,ah hk]
 have hSR:∀W,SF S w W->Src W Ar (vcs o.row):=λW hW=>by obtain⟨Ac',cc',Ar',cr',e,_,_,_,h,_⟩:=hR W hW;injection e with _ e;injection e with _ e;injection e with _ e;injection e with e _;injection e with e _ _;subst e;exact h
 have hr4:o.row.length<=4:=hro.1.2;obtain⟨nc,wJ⟩:=ze o.aZ.length;obtain⟨nr,Gc⟩:=ze o.row.length;obtain⟨nm,pj⟩:=ze t.name;obtain⟨cn,Fi⟩:=ze b.count;have hkr:=aaw;rw[show((o.kind:Nat):Int)=2 by rw[hk];rfl,wJ,Gc,htn,pj];rw[Gc]at hr4;have atW:1<=nr:=by rw[<-Gc,nT];simp
 obtain⟨g1,w1,nY,dj,aI,B1⟩:=zE w 216 [.int .i64 2,.string (ar nm),.slice Ac nc cc,.slice Ar nr cr];have yU:=hB.aa hS aI;have hTA:=WJ gK gM gt b t w1 yU kI;have hFT:=PT gt t o.row Ar nr cr w1 (EX.2.1.aa aI) (hSR _ (.ae aI)) Gc hr4 jn;rw[pj]at hTA;obtain⟨fJ,HX⟩:=dz aI (ze9 yU (hc.aa aI) EX hro hdo hr aaw hno Gc);have Qo:Hid (∀W,SF S w W->Src W Ar ([.int .i64 1,.int .i64 (n:Nat),.string ⟨#[]⟩]++vcs rest)):=λW hW=>by
  have h:=hSR W hW;rw[nT]at h;have e:vcs (⟨1,n,[]⟩::rest)=[.int .i64 1,.int .i64 (n:Nat),.string ⟨#[]⟩]++vcs rest:=by show vc ⟨1,n,[]⟩++vcs rest=_;unfold vc;dsimp only;rw[Eh hn];rfl
  rwa [e]at h
 obtain⟨x0,x1,x2,x3,_⟩:=eh B1;have hM1:=hS.aeP;have hM2:=hS.ads;have hM3:=hS.adL;have hM4:=hS.acS;clear hB hc hr hR gP hk htn jn nT hno hR0 hcc Ug IQ mM hpc hpr hro EX aaw hdo hkr aI yU wJ Gc;unfold aU at*;go_enter Tryz.func168,Tryz.ntmps168;go_wp2_with fail;refine hTA.mono ?_;rintro e w2 ⟨rfl,rfl⟩;go_wp2_with fail;refine hFT.mono ?_;rintro e w3 ⟨rfl,bg⟩;obtain⟨x0,x1,x2,x3,_⟩:=eh (B1.aa bg B1.lt);have aop:SF S w w3:= .ae (fJ.trans (bg.mono fJ.size));have TM:=Qo.out w3 aop;obtain⟨b0,off,rfl,e0⟩:=TM.dm 0 _ rfl;have e1:=TM.cell 1 _ rfl;have e2:=TM.cell 2 _ rfl;rw[cI]at e0;have HRK:=WT gt t n w3 ((HX.2.2.1.2.1.aa fJ).aa bg) HX.2.2.1.2.2.1 hn;have HRK:=zi HRK;clear aop TM;go_wp2_with fail;refine HRK.mono ?_;rintro e w4 ⟨A4,n4,c4,rfl,hn4,hc4,ht4,apK,cj⟩;have ib:=zi (bg.trans (cj.mono bg.size));have xD:=HX.1.aa hS ib;have hG:=hS.get b.ps (Pl.kR t.name ⟨1,n,[]⟩) A4 n4 c4 w4 xD.fv (HX.2.1.aa ib) (EP HX.2.2.1.2.2.1.1.1.2 (by rw[QV];decide)) hn4 ht4.bytes;have F0:=zi (And.intro hn4 ht4);obtain⟨x0,x1,x2,x3,_⟩:=eh (B1.aa ib B1.lt);have k0:=xD.aC.cell 0;unfold iM.v at k0;simp only[au]at k0;clear hn4 hc4 ht4 apK cj e0 e1 e2;go_wp2_with fail;refine hG.mono ?_;rintro e w5 ⟨FY,ha5,⟨l,_,_,h1,_⟩|⟨_,rfl⟩⟩
 ·rw[<-HX.2.2.2.2.2.2.1,HX.2.2.2.2.2.2.2.1]at h1;cases h1
 have Rm:SF S w w5:=(SF.ae (fJ.trans (ib.mono fJ.size))).trans FY;have mm:=SF.eo hS FY xD.fv F0.2 zj;have vu:=SF.aC hS FY xD.fv xD.aC zj;have hX5:=SF.aC hS FY xD.fv (B1.aa ib B1.lt) zj;have hC5:=(HX.2.1.aa ib).gl FY.2.1;have adS:=p5.sf hS FY xD.fv xD.off xD.tq;obtain⟨HI1,HS5⟩:=dz (NU 8 8 w5) (ze7 Rm mm vu hX5 hC5 ha5 adS);obtain⟨x0,x1,x2,x3,_⟩:=eh hX5;unfold ajw;clear FY ha5 Rm mm vu hX5 hC5 adS k0;go_wp2_with fail;refine HI1.mono ?_;rintro e w6 ⟨rfl,rfl⟩;go_wp2_with fail;refine HI1.mono ?_;rintro e w7 ⟨rfl,rfl⟩;go_wp2_with fail;obtain⟨m,hm⟩:=ze (cn+1);have atX:IntKind.i64.wrap ((cn:Int)+1)=(m:Int):=by rw[aY _ zo];omega
 have iA:IntKind.u64.wrap (m:Int)=m:=by rw[lE];omega
 obtain⟨Rm,mm,vu,hX5,hC5,ha5,adS⟩:=HS5.out;obtain⟨yU,rX,anI,hro,hdo,hr,aaw,hno,Gc⟩:=HX.out;have Eu:Hid (∀W,Below w5.heap.size w5 W->W.cell? ⟨gK,0,none⟩=some (.iface S.T S.rv)/\W.cell? ⟨gK,2,none⟩=some (.int .i64 (cn:Nat))/\W.cell? ⟨g1,3,none⟩=some (.slice (some ⟨b0,off,none⟩) nr cr)):=λW hW=>by have h1:=vu.aa hW vu.lt;have h2:=hX5.aa hW hX5.lt;have h3:=h1.cell 2;simp only[aL,au]at h3;rw[Fi]at h3;exact⟨h1.cell 0,h3,h2.cell 3⟩
 have Xq:Hid (∀W,SF S w5 W->W.cell? ⟨gK,0,none⟩=some (.iface S.T S.rv)/\W.cell? ⟨gK,2,none⟩=some (.int .i64 (cn:Nat))/\W.cell? ⟨g1,3,none⟩=some (.slice (some ⟨b0,off,none⟩) nr cr)):=λW hW=>by have h1:=SF.aC hS hW ha5 vu zj;have h2:=SF.aC hS hW ha5 hX5 zj;have h3:=h1.cell 2;simp only[aL,au]at h3;rw[Fi]at h3;exact⟨h1.cell 0,h3,h2.cell 3⟩
 have HP:=zi (λ(W:World)=>sQ (.slice none 0 0) [] m 4 W.heap.size W (Ob.nil _ _) (ai _) zo zj zj zu);have HRC:Hid (Pl.be 4 m++Pl.l6 o.row=Pl.auq (b.count+1) o.row):=by rw[Hid,Fi,hm];rfl
 have hlt:∀W,SF S w W->b0<W.heap.size:=λW hW=>by have:=((Qo W hW).cell 0 _ rfl);exact dC _ _ this
 have HC:Hid (∀(W:World) (v:Value) (aq:Nat),Below w5.heap.size w5 W->w5.heap.size<=aq->aq<=W.heap.size->Ob W aq v (Pl.be 4 m)->bG 222 #[v,.slice (some ⟨b0,off,none⟩) nr cr] W (Wr W aq v (Pl.auq (b.count+1) o.row))):=λW v aq hW aI bz hO=>by
  have:=HU v (Pl.be 4 m) (some ⟨b0,off,none⟩) cr o.row aq W hO bz (by rw[Pl.aG];omega) (hSR W (Rm.trans (.ae hW))) (λp hp=>by
   injection hp with hp;subst hp;exact⟨hlt W (Rm.trans (.ae hW)),λe=>by have h1:=(hO.lt _ e).1;have h2:=hlt w5 Rm;dsimp only at h1;omega⟩) (λv hv=>ajI (hro.2 v hv)) zo
  rw[Gc,HRC.out]at this;exact this
 have HF:Hid (∀(W:World) (B:Option Addr) (m cb:Nat),Below w5.heap.size w5 W->(Pl.auq (b.count+1) o.row).length=m->aw W B (Pl.auq (b.count+1) o.row)->bG S.Nf #[S.rc,.slice A4 n4 c4,.slice B m cb] W (UI S (Pl.dN (Pl.kR t.name ⟨1,n,[]⟩) (Pl.auq (b.count+1) o.row) b.ps) w5)):=λW B m cb hW h2 h4=>
  (hS.put b.ps (Pl.kR t.name ⟨1,n,[]⟩) _ A4 B n4 m c4 cb W (hS.aa ha5 hW) (hC5.aa hW) (EP anI.2.2.1.1.1.2 (by rw[QV];decide)) (UG hro) F0.1 h2 hr (mm.bytes.bQ hW) h4).mono (λe w' ⟨q1,q2,q3⟩=>⟨(SF.ae hW).trans q1,q2,q3⟩)
 have akr:Hid (∀W,SF S w5 W->S.At (Pl.dN (Pl.kR t.name ⟨1,n,[]⟩) (Pl.auq (b.count+1) o.row) b.ps) W->vW S gK gM gt b (Pl.aul b o).2 w (.returned .nilIface) W):=λW hW hAt=>by refine⟨rfl,gt,?_,.inl rfl,(Rm.trans hW).o⟩;rw[hdo,aaw];exact⟨SF.aC hS hW ha5 vu zj,hAt,by rw[kI];exact p5.sf hS hW ha5 yU.off (kI▸adS),yU.off,yU.lo⟩
 clear Rm mm vu hX5 hC5 ha5 adS yU rX anI hro hdo hr aaw hno Gc hlt;refine aN 17 (λ_=>True) (λW=>W.cell? ⟨gK,0,none⟩=some (.iface S.T S.rv)/\W.cell? ⟨gK,2,none⟩=some (.int .i64 (cn:Nat))/\W.cell? ⟨g1,3,none⟩=some (.slice (some ⟨b0,off,none⟩) nr cr)) zp trivial (Eu _ (ak _ _).drew) (λaz=>?_);refine zt 0 (h:=zt 1 (h:=zt 2 (h:=zt 3 (h:=zt 4 (h:=zt 5 (h:=zt 6 (h:=zt 7 (h:=zt 8 (h:=zt 9 (h:=zt 10 (h:=zt 12 (h:=zt 13 (h:=zt 15 (h:=zt 16 (h:=?_)))))))))))))));refine zr 11 λK hK=>?_;go_simp;refine(HP _).mono ?_;rintro e w6 ⟨v6,rfl,o6,m6⟩;rw[aX]at o6;have B6:Hid (Below w5.heap.size w5 w6):=cG (m6.only.cW (ai _) (λk hk e=>by cases e));clear m6;go_wp2_with fail;refine hK.out _ _ ⟨λ_=>trivial,Eu _ B6⟩ (λaz=>?_);clear hK K;refine zr 14 λK hK=>?_;go_simp;refine(HC w6 v6 w5.drew.heap.size B6 (ai _) B6.size o6).mono ?_;rintro e w7 ⟨v7,rfl,o7,m7⟩;have B7:Hid (Below w5.heap.size w5 w7):=B6.trans (m7.gV o6 B6.size);obtain⟨A7,c7,rfl,hc7,hs7,hk7⟩:=bJ o7;have HF7:=zi (HF w7 A7 _ c7 B7 rfl hs7.bytes);clear o7 m7 hc7 hs7 hk7;go_wp2_with fail;refine hK.out _ _ ⟨λ_=>trivial,Eu _ B7⟩ (λaz=>?_);clear hK K;refine zr 17 λK hK=>?_;go_simp;refine HF7.mono ?_;rintro e w8 ⟨hf8,ha8,rfl⟩;obtain⟨HQ,HZ⟩:=dz (akr w8 hf8 ha8) (Xq w8 hf8);clear hf8 ha8;go_wp2_with fail;refine hK.out _ _ ⟨zk zp,HZ⟩ (λaz=>?_);clear hK K;refine zt 18 (h:=?_);(try simp only[Act.put,zq1,zq2,zP,zq4,zq5,RR]);refine bh zp ?_ _;clear az;go_wp2_with fail;go_ret;exact HQ
end Go.Proofs.YtbhpofdafhahgaaGreatDoor
namespace Go.Proofs.YtbhpofdafhahgaaGreatDoor
open Go.RowKit
variable {w:World} {fz:Nat×Nat}
theorem SQ(w:World)(a:Addr)(n:Nat):ag (·=a.block) w (w.freeze a n):=by
 unfold World.freeze;split
 ·exact ag.refl _ _
 ·refine⟨rfl,rfl,rfl,zu,λk hk hn=>?_⟩;show(w.heap.modify a.block _)[k]?=w.heap[k]?;rw[Array.getElem?_modify,aj (λe=>hn e.symm)]
theorem Nq{P:Program}{g n:Nat}{t e:TypeId}{cs:Array Value}(hg:w.heap[g]?=some (.cells cs e fz))(ht:P.underlying t=some (.slice e))(he:P.underlying e=some (.int .u8))(hn:n=cs.size):
 ∃w',(convert t t (.slice (some ⟨g,0,none⟩) n n)).run P w= .ok (.slice (some ⟨g,0,none⟩) n n) w'/\(∃fz',w'.heap[g]?=some (.cells cs e fz'))/\ag (·=g) w w':=by
 subst hn;have CD:w.shape? g=some (e,cs.size):=by unfold World.shape?;rw[hg]
 refine⟨w.freeze ⟨g,cs.size,none⟩ 1,by simp[convert,gA ht,gA he,markStringish,CD],?_,show ag (·=g) w (w.freeze ⟨g,cs.size,none⟩ 1)from SQ w ⟨g,cs.size,none⟩ 1⟩;unfold World.freeze
 grind
theorem tJ{g c:Nat}(hc:c<256)(h:w.heap[g]?=some (.cells #[.int .u8 (c:Int)] 5 fz)):aw w (some ⟨g,0,none⟩) [UInt8.ofNat c]:=by
 refine Src.bytes (.inr ⟨_,_,rfl,λj u hu=>?_⟩);rw[bZ,mF _ _ _ _ _ _ h];have e:bv [UInt8.ofNat c]=[.int .u8 (c:Int)]:=by simp[bv];omega
 grind
end Go.Proofs.YtbhpofdafhahgaaGreatDoor
