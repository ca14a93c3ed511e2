/- Part 11: WalT WalP. -/
import Derived.Test.YtbhpofdafhahgaaGreatDoorMq10
set_option linter.all false
set_option maxHeartbeats 8000000
set_option maxRecDepth 100000
namespace Go.Proofs.YtbhpofdafhahgaaGreatDoor
open Go.RowKit
variable {w:World} {B:Nat} {vo:Value} {vs:List Value} {ls:List (List UInt8)}
variable (gl g:Nat) (v:Value)
theorem Xh(bD bF bL first n:Nat)(v:Value)(d:Pl.Dk)(rd:Int)(w:World)(h:dB w gl g v (.slice none 0 0) [] d rd (lg0 first n 0))(hD:ay w bD 35 [.pointer (some ⟨g,0,none⟩)])(hF:ay w bF 3 [.int .i64 (first:Nat)])(hL:ay w bL 139 [.pointer (some ⟨gl,0,none⟩)])
 (jn:first+n<=d.aV.length) (hn:4<=n) (hno:∀k s,k<n-2->d.look (first+2+k)=some s->Pl.jQ (Pl.LV d first 2) s=false):
 bG 155 #[.pointer (some ⟨bD,0,none⟩),.pointer (some ⟨bF,0,none⟩),.pointer (some ⟨bL,0,none⟩)] w (lN gl g v d first n w):=by
 have hm:=h.gq.pU;obtain⟨H,aew,acq,acf,xz⟩:=OW h (sN h hD zj) (sN h hF zj) (sN h hL zj) (tH g v d rd w h.gq);have cD:=hD.cell 0;have cF:=hF.cell 0;have cL:=hL.cell 0;simp only[au]at cD cF cL;clear h;by_cases me:d.aW=0
 ·have hdl:Hid ((d.aW==0)=true):=by rw[Hid,me];rfl
  go_enter Tryz.func155,Tryz.ntmps155;go_wp2_with fail;refine xz.mono ?_;rintro e w' ⟨rfl,rfl⟩;rw[hdl.out];go_wp2_with fail;exact⟨rfl,lN.no (.inl rfl) H (Pl.Oa first n me) (Sep.refl _ _) (ag.refl _ _)⟩
 ·have hdl:Hid ((d.aW==0)=false):=by rw[Hid];simp[me]
  go_enter Tryz.func155,Tryz.ntmps155;go_wp2_with fail;refine xz.mono ?_;rintro e w' ⟨rfl,rfl⟩;rw[hdl.out];go_wp2_with fail
  go_loopw [11] (λi W=>∃(k:Nat) (Hm:Int),k<=2/\i= .int .i64 (k:Int)/\Hid (dB W gl g v (.slice none 0 0) [] d Hm (lg0 first n (Pl.LV d first k)))/\Hid (ag (uq gl g v (.slice none 0 0)) w W)) (λi _=>2-(intOf i).toNat)
  case atStart=>exact⟨0,rd,zo,rfl,H,ag.refl _ _⟩
  case round=>
   obtain⟨k,Hm,hk,rfl,vN,HO⟩:=hrel;have cD2:=(HO.aC hD aew).cell 0;have cF2:=(HO.aC hF acq).cell 0;have cL2:=(HO.aC hL acf).cell 0;simp only[au]at cD2 cF2 cL2;clear cD cF cL;by_cases pK:k<2
   ·obtain⟨p,hp⟩:∃p:Nat,(first:Int)+k=p:=⟨first+k,zo⟩;have HP:Hid (first+k=p):=by rw[Hid];omega
    have yl:p<d.aV.length:=zA HP.out;have heq:Pl.LV d first (k+1)=max (Pl.LV d first k) (Pl.gw (d.look p)):=by rw[<-HP.out];rfl
    cases fu:d.look p with
    |none=>
     have Pw:Hid (Pl.LV d first (k+1)=Pl.LV d first k):=by rw[Hid,heq,fu];exact Nat.max_eq_left (aM _)
     go_wp2_with fail;refine(AA g v d Hm p _ vN.gq yl me _ rfl fu).mono ?_;rintro e w2 ⟨rfl,⟨rR,oZ,_⟩,fw⟩;obtain⟨rT,kJ⟩:=dz (vN.read oZ fw) (HO.aE (fw.mono (λx _ hx=>(.inl (.inl (.inl hx)):uq gl g v (.slice none 0 0) x))));clear oZ fw;go_wp2_with fail;refine⟨⟨k+1,rR,zo,by go_num,?_,kJ⟩,by simp[intOf];omega⟩;rw[Pw.out];exact rT
    |some s=>
     have JW:=uP vN.gq fu;have hz:=bK s;obtain⟨c,hc⟩:=ze (s.headD 0);have hd:∀(h':0<(ar s).size),(ar s)[0]=c:=by
      intro h'
      match s,JW with
      |x::r,_=>exact hc
     go_wp2_with fail;refine(Cf g v d Hm p _ vN.gq yl me s _ rfl fu).mono ?_;rintro e w2 ⟨rfl,⟨rR,oZ,_⟩,fw⟩;obtain⟨rT,kJ⟩:=dz (vN.read oZ fw) (HO.aE (fw.mono (λx _ hx=>(.inl (.inl (.inl hx)):uq gl g v (.slice none 0 0) x))));clear oZ fw;by_cases hcc:c=72
     ·subst hcc;have q0:((72:UInt8).toNat:Int)=72:=zj;have m1:=λw=>kZ w s 1 9 1 8 rfl rfl zo;have G1:=pI ((s.drop 1).take 8);have l7:((s.drop 1).take 8).length<=8:=ow _ _;obtain⟨x,hx⟩:=ze (Pl.num ((s.drop 1).take 8));obtain⟨z1,kK⟩:=ze (ar ((s.drop 1).take 8));obtain⟨ep,hep⟩:=ze (Pl.LV d first k);have Pw:Hid (Pl.LV d first (k+1)=max ep x):=by rw[Hid,heq,fu,Pl.abS hc,hep,hx]
      have HE3:=zi (Pw.out▸Pl.abB d first (k+1));have afH:Hid (dB w2 gl g v (.slice none 0 0) [] d rR (lg0 first n ep)):=by rw[Hid,<-hep];exact rT
      rw[kK]at m1 G1;rw[hx]at G1;have HG:=zi (λW=>G1 W l7);have c3:=(kJ.aC hL acf).cell 0;have c4:w2.cell? ⟨gl,3,none⟩=some (.int .u64 (ep:Nat)):=afH.cells.aC.cell 3;have f4:=afH.cells.aC.frozen 3;obtain⟨W4,hW4⟩:=ze (w2.setCell ⟨gl,3,none⟩ (.int .u64 (if ep<x then(x:Int)else(ep:Int))));have hE4:=afH.eE (max ep x) (if ep<x then(x:Int)else(ep:Int)) (by split<;>omega) HE3.out;rw[hW4]at hE4;simp only[au]at c3;have hS1:=zi c3;have hne:bL≠gl:=(kJ.aC hL acf).ne afH.cells.aC zj;have cS2:Hid (W4.cell? ⟨bL,0,none⟩=some (.pointer (some ⟨gl,0,none⟩))):=((kJ.aE hE4.2).aC hL acf).cell 0;clear l7 hx kK hep G1 hne;go_wp2_with fail;refine wp_region_held_drew (S:=λW:World=>W.cell? ⟨bL,0,none⟩=some (.pointer (some ⟨gl,0,none⟩))) zp hS1 (λhHeld=>?_);refine wpAnyH_take (i:=0) (oi:=_) (v:=?_) rfl zp zp zp (λ_ _ _ h=>h) (Or.inl ⟨by rfl,?_⟩) (by assumption) ?_;rotate_left
      ·intro W lR;(try dsimp only at lR);go_simp;rfl
      (try simp only[Act.put,zq1,zq2,zP,zq4,zq5,RR]);refine wpAnyH_take (i:=1) (oi:=_) (v:=?_) rfl zp zp zp (λ_ _ _ h=>h) (Or.inl ⟨by rfl,?_⟩) (by assumption) ?_;rotate_left
      ·intro W lR;(try dsimp only at lR);go_simp;rfl
      (try simp only[Act.put,zq1,zq2,zP,zq4,zq5,RR]);refine wpAnyH_take (i:=2) (oi:=_) (v:=?_) rfl zp zp zp (λ_ _ _ h=>h) (Or.inl ⟨by rfl,?_⟩) (by assumption) ?_;rotate_left
      ·intro W lR;(try dsimp only at lR);go_simp;rfl
      (try simp only[Act.put,zq1,zq2,zP,zq4,zq5,RR]);refine wpAnyH_take (i:=3) (oi:=_) (v:=?_) rfl zp zp zp (λ_ _ _ h=>h) (Or.inl ⟨by rfl,?_⟩) (by assumption) ?_;rotate_left
      ·intro W lR;(try dsimp only at lR);go_simp;rfl
      (try simp only[Act.put,zq1,zq2,zP,zq4,zq5,RR]);refine wpAnyH_take (i:=5) (oi:=_) (v:=?_) rfl zp zp zp (λ_ _ _ h=>h) (Or.inl ⟨by rfl,?_⟩) (by assumption) ?_;rotate_left
      ·intro W lR;(try dsimp only at lR);go_simp;rfl
      (try simp only[Act.put,zq1,zq2,zP,zq4,zq5,RR]);refine wpAnyH_take (i:=6) (oi:=_) (v:=?_) rfl zp zp zp (λ_ _ _ h=>h) (Or.inl ⟨by rfl,?_⟩) (by assumption) ?_;rotate_left
      ·intro W lR;(try dsimp only at lR);go_simp;rfl
      (try simp only[Act.put,zq1,zq2,zP,zq4,zq5,RR]);refine wpAnyH_ready (rs:=[4,7]) zp zu ?_;refine AllReadyH.cons (o:=_) rfl (λK hK=>?_) ?_
      ·go_simp;refine hK.out _ _ hS1 (λ_=>?_);clear hK K;(try simp only[Act.put,zq1,zq2,zP,zq4,zq5,RR]);refine wpAnyH_ready (rs:=[7]) zp zu ?_;refine AllReadyH.cons (o:=_) rfl (λK hK=>?_) AllReadyH.nil;go_simp;refine(HG _).mono ?_;rintro e w' ⟨rfl,rfl⟩;go_wp2_with fail;refine hK.out _ _ hS1 (λ_=>?_);clear hK K;(try simp only[Act.put,zq1,zq2,zP,zq4,zq5,RR]);refine wpAnyH_ready (rs:=[8]) zp zu ?_;refine AllReadyH.cons (o:=_) rfl (λK hK=>?_) AllReadyH.nil;go_simp;refine hK.out _ _ hS1 (λ_=>?_);clear hK K;(try simp only[Act.put,zq1,zq2,zP,zq4,zq5,RR]);refine wpAnyH_take (i:=9) (oi:=_) (v:=?_) rfl zp zp zp (λ_ _ _ h=>h) (Or.inl ⟨by rfl,?_⟩) (by assumption) ?_;rotate_left
       ·intro W lR;(try dsimp only at lR);go_simp;rfl
       (try simp only[Act.put,zq1,zq2,zP,zq4,zq5,RR]);refine wpAnyH_take (i:=10) (oi:=_) (v:=?_) rfl zp zp zp (λ_ _ _ h=>h) (Or.inl ⟨by rfl,?_⟩) (by assumption) ?_;rotate_left
       ·intro W lR;(try dsimp only at lR);go_simp;rfl
       (try simp only[Act.put,zq1,zq2,zP,zq4,zq5,RR]);refine wpAnyH_ready (rs:=[11]) zp zu ?_;refine AllReadyH.cons (o:=_) rfl (λK hK=>?_) AllReadyH.nil;go_simp;refine hK.out _ _ cS2.out (λ_=>?_);refine wpAnyH_done zp ?_ _;clear hK K;go_wp2_with fail;refine⟨⟨k+1,rR,zo,by go_num,?_,(kJ.aE hE4.2).aa (ak _ _).drew⟩,by simp[intOf];omega⟩;rw[Pw.out];exact hE4.1.aa (ak _ _).drew
      refine AllReadyH.cons (o:=_) rfl (λK hK=>?_) AllReadyH.nil;go_simp;refine(HG _).mono ?_;rintro e w' ⟨rfl,rfl⟩;go_wp2_with fail;refine hK.out _ _ hS1 (λ_=>?_);clear hK K;(try simp only[Act.put,zq1,zq2,zP,zq4,zq5,RR]);refine wpAnyH_ready (rs:=[4]) zp zu ?_;refine AllReadyH.cons (o:=_) rfl (λK hK=>?_) AllReadyH.nil;go_simp;refine hK.out _ _ hS1 (λ_=>?_);clear hK K;(try simp only[Act.put,zq1,zq2,zP,zq4,zq5,RR]);refine wpAnyH_ready (rs:=[8]) zp zu ?_;refine AllReadyH.cons (o:=_) rfl (λK hK=>?_) AllReadyH.nil;go_simp;refine hK.out _ _ hS1 (λ_=>?_);clear hK K;(try simp only[Act.put,zq1,zq2,zP,zq4,zq5,RR]);refine wpAnyH_take (i:=9) (oi:=_) (v:=?_) rfl zp zp zp (λ_ _ _ h=>h) (Or.inl ⟨by rfl,?_⟩) (by assumption) ?_;rotate_left
      ·intro W lR;(try dsimp only at lR);go_simp;rfl
      (try simp only[Act.put,zq1,zq2,zP,zq4,zq5,RR]);refine wpAnyH_take (i:=10) (oi:=_) (v:=?_) rfl zp zp zp (λ_ _ _ h=>h) (Or.inl ⟨by rfl,?_⟩) (by assumption) ?_;rotate_left
      ·intro W lR;(try dsimp only at lR);go_simp;rfl
      (try simp only[Act.put,zq1,zq2,zP,zq4,zq5,RR]);refine wpAnyH_ready (rs:=[11]) zp zu ?_;refine AllReadyH.cons (o:=_) rfl (λK hK=>?_) AllReadyH.nil;go_simp;refine hK.out _ _ cS2 (λ_=>?_);refine wpAnyH_done zp ?_ _;clear hK K;go_wp2_with fail;refine⟨⟨k+1,rR,zo,by go_num,?_,(kJ.aE hE4.2).aa (ak _ _).drew⟩,by simp[intOf];omega⟩;rw[Pw.out];exact hE4.1.aa (ak _ _).drew
     ·have Pw:Hid (Pl.LV d first (k+1)=Pl.LV d first k):=by rw[Hid,heq,fu,Pl.afE (by rw[hc];exact hcc)];exact Nat.max_eq_left (aM _)
      have q0:((c.toNat:Int)==72)=false:=by have:c.toNat≠72:=λh=>hcc (uF.1 h);simp;omega
      go_wp2_with fail;refine⟨⟨k+1,rR,zo,by go_num,?_,kJ⟩,by simp[intOf];omega⟩;rw[Pw.out];exact rT
   ·obtain rfl:k=2:=zo;obtain⟨ep,hep⟩:=ze (Pl.LV d first 2);rw[hep]at vN;have atH:ep<18446744073709551616:=by rw[<-hep];exact Pl.abB _ _ _
    obtain⟨_,_,_,a3,_⟩:=gg vN.cells.aC;have a3':wr.cell? ⟨gl,3,none⟩=some (.int .u64 (ep:Nat)):=a3;clear a3;by_cases he0:ep=0
    ·subst he0;go_wp2_with fail;exact⟨rfl,lN.no (.inr rfl) vN (Pl.OD me hep) (Sep.refl _ _) HO⟩
    ·have q3:((ep:Int)==0)=false:=by simp;omega
     go_wp2_with fail;refine(aaX gl g v _ [] d Hm (lg0 first n ep) _ vN me (by show first+2+(n-2)<=_;omega) (by show 0<=5000;omega) (λk s hk hs=>by show Pl.jQ ep s=false;rw[<-hep];exact hno k s hk hs)).mono ?_;rintro e w2 ⟨va2,vs2,rR,rfl,UW,aib,fw⟩;have cL3:=((HO.aE fw).aC hL acf).cell 0;simp only[au]at cL3;obtain⟨res,yS⟩:=ze (Pl.scan ep (reads d (lg0 first n ep)) 0 [] [] 0);have Im:dB w2 gl g v va2 vs2 d rR ⟨first,n-2,ep,res.2,res.1,false⟩:=by rw[<-yS];exact UW
     have sZ:=zi Im;have ahO:Hid (Sep w (.slice none 0 0) va2):=λx hx=>by
      rcases aib x hx with e|e
      ·cases e
      ·exact .inr (ao HO.size e)
     have kJ:=zi (HO.aE fw);clear UW aib fw Im;go_wp2_with fail;refine(Vv gl g v va2 vs2 d rR _ _ sZ me (by show first+2+(n-2)<=_;omega) (λk s hk hs=>by show Pl.jQ ep s=false;rw[<-hep];exact hno k s hk hs)).mono ?_;rintro e w3 ⟨he,⟨rd3,Im⟩,sR⟩;have hop:=Pl.N8 (n:=n) me hep he0 (by exact yS) (res:=d.run (Pl.oY (Pl.tT d ep first res.2 (n-2)))) rfl;obtain⟨d3,ok,hrun⟩:∃d3 ok,d.run (Pl.oY (Pl.tT d ep first res.2 (n-2)))=(d3,ok):=⟨_,_,rfl⟩;rw[hrun]at hop;have aoF:dB w3 gl g v va2 vs2 d3 rd3 ⟨first,n-2,ep,res.2,res.1,false⟩:=by have:=Im;rw[hrun]at this;exact this
     have he4:Ends ok 3 e:=by have:=he;rw[hrun]at this;exact this
     have zQ:=zi (kJ.aE (sR.mono (λ_ _ e=>(.inl e:uq gl g v (.slice none 0 0) _))));clear he Im sR hrun;rcases he4 with⟨rfl,rfl⟩|⟨rfl,rfl⟩
     ·go_wp2_with fail;go_end0;exact lN.yes aoF hop ahO zQ
     ·unfold xV;go_wp2_with fail;exact⟨rfl,lN.no (.inl rfl) aoF hop ahO zQ⟩
theorem VC(d:Pl.Dk)(rd:Int)(first n:Nat)(w:World)(h:aJ w g v d rd)(hp:lT d.aV.length first n 4=true)(hno:∀k s,k<n-2->d.look (first+2+k)=some s->Pl.jQ (Pl.LV d first 2) s=false):
 bG 99 #[.pointer (some ⟨g,0,none⟩),.int .i64 (first:Nat),.int .i64 (n:Nat)] w (adE g v d first n w):=by
 have jn:4<=n/\first+n<=d.aV.length:=by unfold lT at hp;simp only[oX,qF]at hp;omega
 have hm:=h.pU;obtain⟨w2,iA⟩:=ze ((w.alloc (.cells #[.pointer (some ⟨g,0,none⟩)] 35)).alloc (.cells #[.int .i64 (first:Nat)] 3));have hb:Below w.heap.size w w2:=by rw[<-iA];exact(za _ _).alloc zu _
 have B1:ay w2 w.heap.size 35 [.pointer (some ⟨g,0,none⟩)]:=by rw[<-iA];exact(ay.new _ _ _).alloc _
 have B2:ay w2 (w.heap.size+1) 3 [.int .i64 (first:Nat)]:=by rw[<-iA];exact ay.newAt _ _ _ _ zu
 have h2:=h.aa hb;have cD:=B1.cell 0;have cF:=B2.cell 0;simp only[au]at cD cF;have HP:=Fq g v d rd first n 4 w2 h2;rw[hp]at HP;have YY:(n:Int)-2=((n-2:Nat):Int):=zo;obtain⟨w4,qz⟩:=ze ((w2.alloc (.cells #[.pointer (some ⟨g,0,none⟩),.int .i64 (first:Nat),.int .i64 (n-2:Nat),.int .u64 0,.int .i64 0,.slice none 0 0,.bool false] 252)).alloc (.cells #[.pointer (some ⟨w2.heap.size,0,none⟩)] 139));have cj:Below w2.heap.size w2 w4:=by rw[<-qz];exact(za _ _).alloc zu _
 have B3:ay w4 w2.heap.size 252 [.pointer (some ⟨g,0,none⟩),.int .i64 (first:Nat),.int .i64 (n-2:Nat),.int .u64 0,.int .i64 0,.slice none 0 0,.bool false]:=by rw[<-qz];exact(ay.new _ _ _).alloc _
 have B4:ay w4 (w2.heap.size+1) 139 [.pointer (some ⟨w2.heap.size,0,none⟩)]:=by rw[<-qz];exact ay.newAt _ _ _ _ zu
 obtain⟨gl,tN⟩:=ze w2.heap.size;have hgw:w.heap.size<=gl:=by rw[<-tN];exact hb.size
 rw[tN]at B3 B4 qz cj;have h4:=h2.aa (tN▸cj);have hst:dB w4 gl g v (.slice none 0 0) [] d rd (lg0 first n 0):=⟨h4,⟨B3,by show first+2+(n-2)<=4096/\0<=n-2/\(0:Nat)<_;omega⟩,ael _⟩;have J3:Below w.heap.size w w4:=hb.trans ((tN▸cj).mono hb.size);have ja:Below w4.heap.size w4 (w4.alloc (.cells #[.nilIface] 73)):=za _ _;have B14:=B1.aa (tN▸cj) B1.lt;have B24:=B2.aa (tN▸cj) B2.lt
 have hG:=Ii 155 #[.pointer (some ⟨w.heap.size,0,none⟩),.pointer (some ⟨w.heap.size+1,0,none⟩),.pointer (some ⟨gl+1,0,none⟩)] w4
  (λk w'=>ay w' (gl+1) 139 [.pointer (some ⟨gl,0,none⟩)]/\ay w' w4.heap.size 73 [.nilIface]/\∃(iw:Value) (gj:List Value) (cO:Int) (l':Pl.Lg),dB w' gl g v iw gj (Pl.iz d first n).1 cO l'/\(Pl.iz d first n).2=(if k=0 then .inr l' else .inl k)/\Sep w (.slice none 0 0) iw/\ag (dF g v) w w'/\w4.heap.size<=w'.heap.size) (λW=>Qw W _ _ _) (by
    refine(Xh gl g _ _ _ first n v d rd _ (hst.aa ja) (B14.aa ja B14.lt) (B24.aa ja B24.lt) (B4.aa ja B4.lt) jn.2 jn.1 hno).mono ?_;rintro e w' ⟨k,iw,gj,cO,l',hk,aiU,hop,yN,ho⟩;have BE:=ay.new w4 73 [.nilIface];have yX:=(hst.aa ja).kinds;refine⟨ho.cY yX BE zj,k,hk,ho.cY yX (B4.aa ja B4.lt) zj,ho.cY yX BE zj,iw,gj,cO,l',aiU,hop,λx hx=>?_,?_,ao ja.size ho.size⟩
    ·rcases yN x hx with e|e
     ·exact .inl e
     ·exact .inr (ao J3.size (ao ja.size e))
    ·refine((ag.ae J3 (dF g v)).aa ja).trans ho (λx hx e=>?_);rcases e with(e|e)|e
     ·exact e
     ·omega
     ·cases e)
 have hs4:gl+1<w4.heap.size:=B4.lt;have JJ:=zf Tryz.prog;have tA:=J3.size;go_enter Tryz.func99,Tryz.ntmps99;go_wp2_with fail;refine HP.mono ?_;rintro e w' ⟨rfl,rfl⟩;go_wp2_with fail;refine hG.mono ?_;rintro e sL ⟨k,w',hk,⟨Lf,hBE,iw,gj,cO,l',aiU,hop,yN,ho,hsz⟩,pQ,rfl⟩;have hke:bR (·=w4.heap.size) w' [73]:=λx hx=>by rw[hx];exact⟨_,zu,hBE.dV⟩
 have UW:=aiU.JE pQ hke zj zj zj zj zj;have vu:=pQ.cY hke Lf zj;have cL:=vu.cell 0;simp only[au]at cL;have HSP:(∀x,iw.ownBlock=some x->w.heap.size<=x):=λx hx=>by
  rcases yN x hx with e|e
  ·cases e
  ·exact e
 have HO:(ag (dF g v) w sL):=ho.trans pQ (λx hx e=>by omega);have hf:∀k,oT (k+1)=Di (k+1):=λk=>rfl;rcases hk with rfl|rfl|rfl
 ·have h0:oT 0= .nilIface:=rfl;rw[h0];go_wp2_with fail;go_ret2;exact⟨⟨cO,UW.gq⟩,HO,.inr ⟨gl,iw,gj,cO,l',by rw[hop];rfl,rfl,UW,hgw,HSP⟩⟩
 ·have h0:oT 3= .iface 30 (.int .i64 3):=rfl;rw[h0];go_wp2_with fail;go_ret2;exact⟨⟨cO,UW.gq⟩,HO,.inl ⟨3,by rw[hop];rfl,.inl rfl,rfl⟩⟩
 ·have h0:oT 2= .iface 30 (.int .i64 2):=rfl;rw[h0];go_wp2_with fail;go_ret2;exact⟨⟨cO,UW.gq⟩,HO,.inl ⟨2,by rw[hop];rfl,.inr rfl,rfl⟩⟩
structure zq(w:World)(B:Nat)(vo:Value)(vs:List Value)(ls:List (List UInt8)):Prop where
 own:w.ownsRow B 29 1 vo ls.length vs
 each:∀(k:Nat) (v:Value) (l:List UInt8),vs[k]?=some v->ls[k]?=some l->w.ownsRow B 5 1 v l.length (bv l)
 apart:vs.Pairwise (λa b=>∀x,a.ownBlock=some x->b.ownBlock≠some x)
theorem zq.nil(w:World)(B:Nat):zq w B (.slice none 0 0) [] []:=⟨dA _ _ _ _,zu,.nil⟩
theorem zq.length(h:zq w B vo vs ls):vs.length=ls.length:=by simpa using h.own.1
theorem zq.more{w1 w2:World}{vo2 vb:Value}{x:List UInt8}(h:zq w B vo vs ls)(hB:B<=w.heap.size)(hb:dP w w1)(hx:w1.ownsRow w.heap.size 5 1 vb x.length (bv x))(hg:w1.grownBy w2 vo.ownBlock)(bI:w2.ownsRow B 29 1 vo2 (ls.length+1) (vs++ [vb])):
 zq w2 B vo2 (vs++ [vb]) (ls++ [x]):=by
 have uX:=fm h.own hb;have my:ag (λx=>vo.ownBlock=some x) w1 w2:=ag.El hg;have hkv:bR (λx=>vo.ownBlock=some x) w1 [29]:=λx hx=>⟨_,zu,dc uX hx⟩;have PD:=h.length;refine⟨zw,λi u y hu hy=>?_,fS.2 ⟨h.apart,zu,λa ha b SG x' hx'=>?_⟩⟩
 ·rcases eJ i ls.length with h'|h'
  ·rw[kc zo]at hu;rw[kc h']at hy;exact my.F9 hkv (fm (h.each i u y hu hy) hb) zj
  ·have hi:i=ls.length:=by
    grind
   subst hi;rw[iI zo,jT]at hy;rw[<-PD,iI zo,jT]at hu;simp at hu hy;subst hu hy;exact my.F9 hkv (yn hx hB) zj
 ·rw[dU]at SG;subst SG;intro e;have h1:=(hx.lt x' e).1;obtain⟨j,hj⟩:=uZ ha;have hjl:j<ls.length:=zw;have h2:=((h.each j a _ hj (aF hjl)).lt x' hx').2;omega
theorem agz(va:Value)(vs:List Value)(d:Pl.Dk)(rd:Int)(l:Pl.Lg)(w:World)(h:dB w gl g v va vs d rd l)(kD:l.all.length<=5000)(hsz:∀x∈l.all,x.length<=2000):
 bG 102 #[.pointer (some ⟨gl,0,none⟩)] w λe w'=>∃vo gj,e= .returned vo/\zq w' w.heap.size vo gj l.all/\dP w w':=by
 obtain⟨a0,a1,a2,a3,a4,a5,a6,b0,b1,b2,b3,b4,b5,b6⟩:=gg h.cells.aC;have HR:=h.rows;obtain⟨Av,sP,rfl,hcv,hsv,_⟩:=bJ h.rows.own;obtain⟨N,hN⟩:=ze l.all.length;have HN:=hN;rw[hN]at a5 kD;have PD:(vs.length=l.all.length):=by simpa using h.rows.own.1
 obtain⟨i0,hi,nQ,kK,mY⟩:=bV Tryz.jm;have HI:=sS hi nQ kK mY;obtain⟨j0,hj,Yd,XQ,RL⟩:=bV Tryz.oI;have HJ:=zi (sS hj Yd XQ RL);go_enter Tryz.func102,Tryz.ntmps102;go_wp2_with fail
 go_loopw [3,11] (λvo i W=>∃(k:Nat) (gj:List Value),k<=N/\i= .int .i64 (k:Int)/\Hid (zq W w.heap.size vo gj (l.all.take k))/\Hid (Below w.heap.size w W)) (λ_ i _=>N-(intOf i).toNat)
 case atStart=>exact⟨0,[],zo,rfl,zq.nil _ _,ak _ _⟩
 case round=>
  obtain⟨k,gj,hk,rfl,abI,HB⟩:=hrel;obtain⟨Ao,aiG,rfl,_,_,_⟩:=bJ abI.own;by_cases pX:k<N
  ·have Sa:k<l.all.length:=by rw[HN];exact pX
   obtain⟨u,hu⟩:∃u,vs[k]?=some u:=⟨_,aF (by rw[PD];exact Sa)⟩;obtain⟨x,hx⟩:∃x,l.all[k]?=some x:=⟨_,aF Sa⟩;have ZA:=hsz x (bO hx);have hro:=fm HR.own HB;obtain⟨g5,cap',e0,_,_⟩:=Qt hro zo;injection e0 with e1 e2 e3;subst e1;have cE:=akD hro k u hu;have hux:=fm (HR.each k u x hu hx) HB;obtain⟨A5,lX,rfl,La,QH,_⟩:=bJ hux;have Ca:l.all.take (k+1)=l.all.take k++ [x]:=by rw[eK,hx];rfl
   have vH:(0+x.length<=maxLen):=by simp only[maxLen];omega
   have hroom:=iK (n:=0) (m:=x.length) zo;have mW:(l.all.take k).length=k:=by rw[aP];omega
   rw[mW];have aeG:Hid (k+1<=maxLen):=by rw[Hid];simp only[maxLen];omega
   have Ex:=zi (rE (n:=k) (m:=1) zo);have hvo:Hid (wr.ownsRow w.heap.size 29 1 (.slice Ao k aiG) k gj):=by have:=abI.own;rw[mW]at this;exact this
   rw[mW]at abI;go_wp2_with (first
    |(at_builtin
      refine cQ _ rfl (.const (.slice none 0 0)) (.tmp 16) 29 rfl wr.heap.size 5 i0 (.int .u8 0) 1 1 Tryz.underlying29 HI.1 HI.2.1 HI.2.2.1 HI.2.2.2 rfl zj (.slice none 0 0) 0 [] rfl (dA _ _ _ _) A5 x.length lX (bv x) rfl zu QH (GB x) vH hroom (ai _) ?_;intro v2 w2 ee dY Fk;rw[bZ,aX]at ee;obtain⟨A6,V8,rfl,_,_,_⟩:=bJ ee;have bz:Below wr.heap.size wr w2:=⟨dY.os,dY.tape,dY.output,dY.size,λx hx=>dY.block x hx (λe=>by cases e)⟩;have eY:=bz;have kJ:=ee;clear ee dY Fk bz)
    |(at_builtin
      obtain⟨w3,fX,bg⟩:=zF w2 (.cells #[.slice A6 x.length V8] 29);have eI:=zi (eY.trans (bg.mono eY.size));have Hn:Hid (Src w3 (some ⟨w2.heap.size,0,none⟩) [.slice A6 x.length V8]):=by rw[Hid,<-fX];exact Src.dE (ay.new w2 29 [.slice A6 x.length V8])
      have rS:=zi (fm kJ bg);have hsw:=HB.size;have Er:=eI.size;rw[fX];refine cQ _ rfl (.tmp 15) (.tmp 18) 57 rfl w.heap.size 29 j0 (.slice none 0 0) 1 24 Tryz.underlying57 HJ.1 HJ.2.1 HJ.2.2.1 HJ.2.2.2 rfl zj (.slice Ao k aiG) k gj rfl (fm hvo eI) (some ⟨w2.heap.size,0,none⟩) 1 1 [.slice A6 x.length V8] rfl rfl Hn (by intro u hu;simp at hu;subst hu;rfl) aeG Ex (ao hsw Er) ?_;intro v4 w4 eF gS CK;have amu:=zi (abI.more hsw eI rS gS (by rw[mW];exact eF));have ib:Hid (Below w.heap.size w w4):=(HB.trans (eI.mono hsw)).grown gS (ao hsw Er) (λy hy=>(hvo.lt y hy).1);obtain⟨A7,Cg,rfl,_,_,_⟩:=bJ eF;clear eF gS CK))
   refine⟨⟨_,_,_,⟨k+1,zo,rfl,gj++ [.slice A6 x.length V8],?_⟩,rfl,rfl,by go_num⟩,by simp[intOf];omega⟩;rw[Ca];exact amu
  ·obtain rfl:k=N:=zo;go_wp2_with fail;go_ret;refine⟨.slice Ao (l.all.take k).length aiG,gj,rfl,?_,HB⟩;have:=abI.out;rw[<-HN,gN]at this;rw[<-HN,gN];exact this
end Go.Proofs.YtbhpofdafhahgaaGreatDoor
