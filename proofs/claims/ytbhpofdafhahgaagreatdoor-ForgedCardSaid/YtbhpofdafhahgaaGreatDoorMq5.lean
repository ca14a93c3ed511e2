/- Part 5: WalC ChainF ChainG ChainD ChainH WalD WalE DiskC PlainClash Check CodecA CodecB. -/
import Derived.LoopTactic
import Derived.Lib.AppendStr
import Derived.Test.YtbhpofdafhahgaaGreatDoorMq4
set_option linter.all false
set_option maxHeartbeats 8000000
set_option maxRecDepth 100000
namespace Go.Proofs.YtbhpofdafhahgaaGreatDoor
open Go.RowKit
namespace Pl
variable {d dk:Dk} {a:List Ch} {c:Ch}
theorem Bn(h:d.run a=(dk,true))(fK:dk.alive=true):d.run (a++ [c])=(dk.change c,true):=by rw[Dk.AQ,h,ah rfl,Dk.iW,ah fK,Dk.qb]
theorem H8(r:List Ch)(h:d.run a=(dk,true))(fK:dk.alive=false):d.run (a++c::r)=(dk.change c,false):=by rw[Dk.AQ,h,ah rfl,Dk.iW,aj zw]
theorem td(d:Dk)(c:Ch):(d.change c).aV.length=d.aV.length:=by
 unfold Dk.change;split
 ·show(c.on d.aV).length=_;cases c<;>simp[Ch.on]
 ·rfl
theorem AH(d:Dk)(l:List Ch):(d.run l).1.aV.length=d.aV.length:=by
 induction l generalizing d with
 |nil=>rfl
 |cons c r ih=>
  rw[Dk.iW];split
  ·rw[ih,td]
  ·exact td d c
end Pl
variable {w w':World} {g aq size:Nat} {t t' e:TypeId} {cs GV xs:List Value} {v va:Value} {rd:Int} {F:Nat->Prop} {ts:List TypeId} {l:Pl.Lg}
variable (d:Pl.Dk) (W:World) (a:Value) (gl first k n:Nat)
theorem ay.RI(h:ay w g t cs)(h':ay w g t' GV):t=t':=by
 unfold ay at h h'
 grind
theorem adO{n:Nat}(h:w.ownsRow aq e size v n xs)(hv:v.ownBlock=some g)(hb:ay w g t cs):t=e:=by
 rcases h.2 with⟨rfl,_⟩|⟨g',aB,cur,rfl,_,hg,_⟩
 ·cases hv
 ·have:g'=g:=by simpa [Value.ownBlock] using hv
  subst this;unfold ay at hb
  grind
theorem aJ.off{b:Nat}{d:Pl.Dk}(h:aJ w g v d rd)(hb:ay w b t cs)(h1:t≠108)(h2:t≠190):¬dF g v b:=by
 obtain⟨wr,sy,hg⟩:=h.aC;rintro(rfl|hv)
 ·exact h1 (hb.RI hg)
 ·exact h2 (adO h.own hv hb)
def lT(first lL least:Int):Bool:=decide (least<=lL)&&(decide (0<=first)&&(decide (first<=(n:Int))&&decide (lL<=(n:Int)-first)))
theorem Fq(g:Nat)(v:Value)(d:Pl.Dk)(rd:Int)(first lL least:Int)(w:World)(h:aJ w g v d rd):
 bG 153 #[.pointer (some ⟨g,0,none⟩),.int .i64 first,.int .i64 lL,.int .i64 least] w λe w'=>e= .returned (.bool (lT d.aV.length first lL least))/\w=w':=by
 have hm:=h.pU;have H:=nw g v d rd w h;obtain⟨n,hn⟩:=ze d.aV.length;rw[hn]at hm H|-
 by_cases h1:least<=lL
 ·have e1:decide (least<=lL)=true:=aQ h1;by_cases h2:0<=first
  ·have e2:decide (0<=first)=true:=aQ h2;by_cases h3:first<=(n:Int)
   ·have e3:decide (first<=(n:Int))=true:=aQ h3;have hp:Hid (lT n first lL least=decide (lL<=(n:Int)-first)):=by rw[Hid];unfold lT;rw[e1,e2,e3];simp
    go_enter Tryz.func153,Tryz.ntmps153;go_wp2_with fail;refine H.mono ?_;rintro e w' ⟨rfl,rfl⟩;go_wp2_with fail;refine H.mono ?_;rintro e w' ⟨rfl,rfl⟩;go_wp2_with fail;go_ret;exact⟨by rw[hp.out];rfl,rfl⟩
   ·have e3:decide (first<=(n:Int))=false:=aH h3;have hp:Hid (lT n first lL least=false):=by rw[Hid];unfold lT;rw[e3];simp
    go_enter Tryz.func153,Tryz.ntmps153;go_wp2_with fail;refine H.mono ?_;rintro e w' ⟨rfl,rfl⟩;go_wp2_with fail;go_ret;exact⟨by rw[hp.out];rfl,rfl⟩
  ·have e2:decide (0<=first)=false:=aH h2;have hp:Hid (lT n first lL least=false):=by rw[Hid];unfold lT;rw[e2];simp
   go_enter Tryz.func153,Tryz.ntmps153;go_wp2_with fail;go_ret;exact⟨by rw[hp.out];rfl,rfl⟩
 ·have e1:decide (least<=lL)=false:=aH h1;have hp:Hid (lT n first lL least=false):=by rw[Hid];unfold lT;rw[e1];simp
  go_enter Tryz.func153,Tryz.ntmps153;go_wp2_with fail;go_ret;exact⟨by rw[hp.out];rfl,rfl⟩
def jR(ops:List Pl.Ch)(g:Nat)(v:Value)(d:Pl.Dk)(rd:Int)(w:World)(e:Ending)(w':World):Prop:=
 Ends (d.run ops).2 3 e/\aJ w' g v (d.run ops).1 rd/\ag (dF g v) w w'
theorem jR.stop{ops a r:List Pl.Ch}{c:Pl.Ch}{d dk:Pl.Dk}(he:ops=a++c::r)(h:d.run a=(dk,true))(fK:dk.alive=false)(hd:aJ w' g v (dk.change c) rd)(ho:ag (dF g v) w w'):jR ops g v d rd w (xV 3) w':=by have:=Pl.H8 r h fK (c:=c);rw[<-he]at this;unfold jR;rw[this];exact⟨Ends.no 3,hd,ho⟩
theorem jR.rM{ops:List Pl.Ch}{g:Nat}{v:Value}{d dk:Pl.Dk}{rd:Int}{w w':World}(h:d.run ops=(dk,true))(hd:aJ w' g v dk rd)(ho:ag (dF g v) w w'):jR ops g v d rd w (.returned (.tuple #[])) w':=by unfold jR;rw[h];exact⟨Ends.rM 3,hd,ho⟩
def wrs:List Pl.Ch:=(List.range k).map λi=>Pl.Ch.wr (first+i) []
theorem acL:wrs first (k+1)=wrs first k++ [.wr (first+k) []]:=by simp[wrs,jK]
theorem nP:Pl.mP first n=wrs first n++ [.sy,.wr (first+1) (Pl.gZ 1),.sy]:=rfl
theorem aap(h:k<n):∃r,wrs first n=wrs first k++ .wr (first+k) []::r:=by
 refine⟨(List.range (n-(k+1))).map (λi=>Pl.Ch.wr (first+(k+1+i)) []),?_⟩;have:n=(k+1)+(n-(k+1)):=zo;unfold wrs
 conv=>lhs;rw[this,List.range_add,gH,jK,gH]
 simp[List.map_map]
theorem Ts(g bS bD bF first n:Nat)(v:Value)(d:Pl.Dk)(rd:Int)(w:World)(h:aJ w g v d rd)(hS:ay w bS 3 [.int .i64 (n:Nat)])(hD:ay w bD 35 [.pointer (some ⟨g,0,none⟩)])(hF:ay w bF 3 [.int .i64 (first:Nat)])
 (jn:first+n<=d.aV.length) (hn:4<=n):
 bG 230 #[.pointer (some ⟨bS,0,none⟩),.pointer (some ⟨bD,0,none⟩),.pointer (some ⟨bF,0,none⟩)] w (jR (Pl.mP first n) g v d rd w):=by
 have hm:=h.pU;have H:=zi h;have aew:=h.off hD zj zj;have acq:=h.off hF zj zj;have cS:=hS.cell 0;simp only[au]at cS;obtain⟨N,hN⟩:=ze d.aV.length;rw[hN]at hm jn;have hes:(⟨#[]⟩:ByteArray)=ar []:=rfl;clear h;go_enter Tryz.func230,Tryz.ntmps230;go_wp2_with fail
 go_loopw [5] (λi W=>∃(k:Nat) (dk:Pl.Dk),k<=n/\i= .int .i64 (k:Int)/\Hid (d.run (wrs first k)=(dk,true))/\Hid (aJ W g v dk rd)/\Hid (ag (dF g v) w W)) (λi _=>n-(intOf i).toNat)
 case atStart=>exact⟨0,d,aM _,rfl,rfl,H,ag.refl _ _⟩
 case round=>
  obtain⟨k,dk,hk,rfl,HR,HDk,HO⟩:=hrel;have bU:dk.aV.length=N:=by have:=Pl.AH d (wrs first k);rw[HR.out]at this;exact this.trans hN
  have hBD:=HO.aC hD aew;have hBF:=HO.aC hF acq;have cD:=hBD.cell 0;have cF:=hBF.cell 0;simp only[au]at cD cF;by_cases pX:k<n
  ·obtain⟨r,hr⟩:=aap first k n pX;have HRR:=zi hr;obtain⟨p,hp⟩:∃p:Nat,(first:Int)+k=p:=⟨first+k,zo⟩;have yV:p=first+k:=zo;have HP:=zi yV;clear hr yV;go_wp2_with fail;refine(BH g v dk rd p [] _ HDk (by rw[bU,HP.out];omega) zu).mono ?_;rintro e w2 ⟨⟨fK,rfl⟩|⟨fK,rfl⟩,h2,fw⟩
   ·obtain⟨H2,O2,R2⟩:=kt h2 (HO.aE fw) (Pl.Bn (c:= .wr p []) HR fK);clear h2 fK;go_wp2_with fail;refine⟨⟨k+1,_,zo,by go_num,?_,H2,O2⟩,by simp[intOf];omega⟩;rw[Hid,acL,<-HP.out];exact R2.out
   ·obtain⟨H2,O2,wE⟩:=kt h2 (HO.aE fw) fK;clear h2 fK;unfold xV;go_wp2_with fail;exact⟨rfl,jR.stop (by rw[nP,HRR.out,<-HP.out,cJ];rfl) HR wE H2 O2⟩
  ·obtain rfl:k=n:=zo;have H4:(4<=k):=hn;go_wp2_with fail;refine(yB g v dk rd _ HDk).mono ?_;rintro e w2 ⟨⟨fK,rfl⟩|⟨fK,rfl⟩,h2,fw⟩
   ·obtain⟨H2,O2,R2⟩:=kt h2 (HO.aE fw) (Pl.Bn (c:= .sy) HR fK);obtain⟨d2,oZ⟩:=ze (dk.change .sy);rw[oZ]at H2 R2;have L2:Hid (d2.aV.length=N):=by rw[Hid,<-oZ,Pl.td];exact bU
    have hBD:=O2.aC hD aew;have hBF:=O2.aC hF acq;have cD2:=hBD.cell 0;have cF2:=hBF.cell 0;simp only[au]at cD2 cF2;have s0:=And.intro cD2 cF2;obtain⟨p,hp⟩:∃p:Nat,(first:Int)+1=p:=⟨first+1,zo⟩;have HP:Hid (p=first+1):=by rw[Hid];omega
    have EO:p<N:=zC H4 HP.out;have dj:IntKind.i64.wrap (p:Int)=(p:Int):=aY _ zo;have h1s:(Pl.gZ 1).length<=256:=zj;have HX:=zi h1s;obtain⟨st1,aoq⟩:=ze (ar (Pl.gZ 1));have wu:=zi aoq;clear h2 fK h1s aoq;go_wp2_with fail;refine wp_region_held_drew (S:=λW:World=>W.cell? ⟨bD,0,none⟩=some (.pointer (some ⟨g,0,none⟩))/\W.cell? ⟨bF,0,none⟩=some (.int .i64 (first:Nat))) zp s0 (λhHeld=>?_);refine wpAnyH_take (i:=0) (oi:=_) (v:=?_) rfl zp zp zp (λ_ _ _ h=>h) (Or.inl ⟨by rfl,?_⟩) (by assumption) ?_;rotate_left
    ·intro W lR;(try dsimp only at lR);go_simp;rfl
    (try simp only[Act.put,ve,jC,rB]);refine wpAnyH_take (i:=1) (oi:=_) (v:=?_) rfl zp zp zp (λ_ _ _ h=>h) (Or.inl ⟨by rfl,?_⟩) (by assumption) ?_;rotate_left
    ·intro W lR;(try dsimp only at lR);go_simp;rfl
    (try simp only[Act.put,ve,jC,rB]);refine wpAnyH_take (i:=2) (oi:=_) (v:=?_) rfl zp zp zp (λ_ _ _ h=>h) (Or.inl ⟨by rfl,?_⟩) (by assumption) ?_;rotate_left
    ·intro W lR;(try dsimp only at lR);go_simp;rfl
    (try simp only[Act.put,ve,jC,rB]);refine wpAnyH_ready (rs:=[3]) zp zu ?_;refine AllReadyH.cons (o:=_) rfl (λK hK=>?_) AllReadyH.nil;go_simp;refine(ahn 1 _ _ rfl zj).mono ?_;rintro e w3 ⟨rfl,bg⟩;rw[wu.out];have AO:=im bg;obtain⟨aqu,ata,H3⟩:=kt (hBD.aa AO hBD.lt) (hBF.aa AO hBF.lt) (H2.aa AO);have O3:=O2.aa AO;go_wp2_with fail;refine hK.out _ _ ⟨aqu.cell 0,ata.cell 0⟩ (λasJ=>?_);(try simp only[Act.put,ve,jC,rB]);refine wpAnyH_ready (rs:=[4]) zp zu ?_;refine AllReadyH.cons (o:=_) rfl (λK hK=>?_) AllReadyH.nil;go_simp;rw[<-wu.out];refine(BH g v d2 rd p (Pl.gZ 1) _ H3 (by rw[L2.out];exact EO) HX).mono ?_;rintro e w4 ⟨⟨fK,rfl⟩|⟨fK,rfl⟩,h4,my⟩
    ·have O4:=O3.aE my;have R4:=Pl.Bn (c:= .wr p (Pl.gZ 1)) R2 fK;have cD4:=(O4.aC hD aew).cell 0;have cF4:=(O4.aC hF acq).cell 0;simp only[au]at cD4 cF4;clear fK;go_wp2_with fail;refine hK.out _ _ ⟨cD4,cF4⟩ (λ_=>?_);refine wpAnyH_done zp ?_ _;go_wp2_with fail;refine(yB g v _ rd _ h4).mono ?_;rintro e w5 ⟨⟨fK,rfl⟩|⟨fK,rfl⟩,h5,kF⟩
     ·have O5:=O4.aE kF;have R5:=Pl.Bn (c:= .sy) R4 fK;clear fK;go_wp2_with fail;go_end0;exact jR.rM (by have:=R5;rw[HP.out]at this;rw[nP];simpa using this) (by have:=h5;rwa [HP.out]at this) O5
     ·have O5:=O4.aE kF;have wE:=zi fK;clear fK;unfold xV;go_wp2_with fail;exact⟨rfl,jR.stop (r:=[]) (by rw[nP,<-HP.out];simp) R4 wE.out h5 O5⟩
    ·have O4:=O3.aE my;have wE:=zi fK;clear fK;unfold xV;go_wp2_with fail;exact⟨rfl,jR.stop (r:=[.sy]) (by rw[nP,<-HP.out];simp) R2.out wE.out h4 O4⟩
   ·obtain⟨H2,O2,wE⟩:=kt h2 (HO.aE fw) fK;clear h2 fK;unfold xV;go_wp2_with fail;exact⟨rfl,jR.stop (nP _ _) HR wE H2 O2⟩
theorem nV{fn:Func}{t:Tmp}{tmps:Array Value}{k:Int}{u:ByteArray}(h:fn.results= #[.cell t 32])(ht:tmps.getD t undef= .pointer (some ⟨g,0,none⟩))(hB:ay w g 32 [.int .i64 k,.string u,.bool true]):
 (results fn tmps).run Tryz.prog w= .ok (Az k u) w:=by
 have c0:=hB.cell 0;have c1:=hB.cell 1;have c2:=hB.cell 2;simp only[aL,au]at c0 c1 c2;simp only[fF]at ht;simp[results,h,ht,go_sem,c0,c1,c2,Az,asAddr]
theorem yn{Sy n:Nat}(h:w.ownsRow aq e size v n xs)(hb:Sy<=aq):w.ownsRow Sy e size v n xs:=by
 refine⟨h.1,?_⟩;rcases h.2 with hn|⟨g,aB,cur,hv,hg,rest⟩
 ·grind
 ·exact .inr ⟨g,aB,cur,hv,zo,rest⟩
def oT:Value:=if k=0 then .nilIface else Di k
theorem lz(w:World)(k:Nat):yc w (oT k) k ⟨#[]⟩:=by
 unfold oT;split
 ·next h=>subst h;exact yc.nil w
 ·exact yc.kind w k
def aeJ(e:Ending):Prop:=(k=0/\e= .returned (.tuple #[]))\/(k=3/\e=xV 3)\/(k=2/\e=xV 2)
theorem KF(b c:Value):(callFunc 230 #[a,b,c]).run Tryz.prog W= .ok (.enter 230 #[a,b,c]) W:=by simp[go_sem]
theorem Ii(K:FuncId)(cg:Array Value)(w:World)(Q:Nat->World->Prop)(hK:∀W,(callFunc K cg).run Tryz.prog W= .ok (.enter K cg) W)
 (h:bG K cg (w.alloc (.cells #[.nilIface] 73)) λe w'=>ay w' w.heap.size 73 [.nilIface]/\∃k,aeJ k e/\Q k w'):
 bG 154 #[.func (.func K) #[] cg] w λe sL=>∃k w',(k=0\/k=3\/k=2)/\Q k w'/\ag (·=w.heap.size) w' sL/\e= .returned (oT k):=by
 refine(PU K cg w (λo w'=>∃k,(k=0\/k=3\/k=2)/\o.getD .nilIface=oT k/\Q k w') hK ?_).mono ?_
 ·refine h.mono ?_;rintro e w' ⟨hb,k,hk,hq⟩;refine⟨hb,?_⟩;rcases hk with⟨rfl,rfl⟩|⟨rfl,rfl⟩|⟨rfl,rfl⟩
  ·exact .inl ⟨rfl,0,.inl rfl,rfl,hq⟩
  ·exact .inr ⟨_,_,rfl,3,zo,rfl,hq⟩
  ·exact .inr ⟨_,_,rfl,2,zo,rfl,hq⟩
 grind
theorem Ends.agA{ok:Bool}{e:Ending}(h:Ends ok 3 e):aeJ (if ok then 0 else 3) e:=by
 rcases h with⟨rfl,rfl⟩|⟨rfl,rfl⟩
 ·exact .inl ⟨rfl,rfl⟩
 ·exact .inr (.inl ⟨rfl,rfl⟩)
theorem Dc:Pl.jF d first n=((d.run (Pl.mP first n)).1,if(d.run (Pl.mP first n)).2 then 0 else 3):=by
 unfold Pl.jF
 grind
theorem Td(g:Nat)(v:Value)(d:Pl.Dk)(rd:Int)(first n:Nat)(w:World)(h:aJ w g v d rd)(hp:lT d.aV.length first n 4=true):
 bG 175 #[.pointer (some ⟨g,0,none⟩),.int .i64 (first:Nat),.int .i64 (n:Nat)] w λe w'=>e= .returned (oT (Pl.jF d first n).2)/\aJ w' g v (Pl.jF d first n).1 rd/\ag (dF g v) w w':=by
 have jn:4<=n/\first+n<=d.aV.length:=by unfold lT at hp;simp only[oX,qF]at hp;omega
 obtain⟨w3,fX⟩:=ze (((w.alloc (.cells #[.pointer (some ⟨g,0,none⟩)] 35)).alloc (.cells #[.int .i64 (first:Nat)] 3)).alloc (.cells #[.int .i64 (n:Nat)] 3));have hb:Below w.heap.size w w3:=by rw[<-fX];exact((za _ _).alloc zu _).alloc (by simp;omega) _
 have B1:ay w3 w.heap.size 35 [.pointer (some ⟨g,0,none⟩)]:=by rw[<-fX];exact((ay.new _ _ _).alloc _).alloc _
 have B2:ay w3 (w.heap.size+1) 3 [.int .i64 (first:Nat)]:=by rw[<-fX];exact(ay.newAt _ _ _ _ zu).alloc _
 have B3:ay w3 (w.heap.size+1+1) 3 [.int .i64 (n:Nat)]:=by rw[<-fX];exact ay.newAt _ _ _ _ zu
 have h3:=h.aa hb;have cD:=B1.cell 0;have cF:=B2.cell 0;have cS:=B3.cell 0;simp only[au]at cD cF cS;have HP:=Fq g v d rd first n 4 w3 h3;rw[hp]at HP;have ja:Below w3.heap.size w3 (w3.alloc (.cells #[.nilIface] 73)):=za _ _
 have hG:=Ii 230 #[.pointer (some ⟨w.heap.size+1+1,0,none⟩),.pointer (some ⟨w.heap.size,0,none⟩),.pointer (some ⟨w.heap.size+1,0,none⟩)] w3
  (λk w'=>k=(Pl.jF d first n).2/\aJ w' g v (Pl.jF d first n).1 rd/\ag (dF g v) w w') (λW=>KF W _ _ _) (by
    refine(Ts g _ _ _ first n v d rd _ (h3.aa ja) (B3.aa ja B3.lt) (B1.aa ja B1.lt) (B2.aa ja B2.lt) jn.2 jn.1).mono ?_;rintro e w' ⟨he,hd,ho⟩;have BE:=ay.new w3 73 [.nilIface];refine⟨ho.aC BE ((h3.aa ja).off BE zj zj),_,he.agA,?_⟩;rw[Dc];exact⟨rfl,hd,((ag.ae hb (dF g v)).aa ja).aE ho⟩)
 have hlt:=h.lt;have JJ:=zf Tryz.prog;have Er:=hb.size;go_enter Tryz.func175,Tryz.ntmps175;go_wp2_with fail;refine HP.mono ?_;rintro e w' ⟨rfl,rfl⟩;go_wp2_with fail;refine hG.mono ?_;rintro e sL ⟨k,w',hk,⟨rfl,hd,ho⟩,pQ,rfl⟩;have HO:=ho.trans pQ (λx hx e=>by omega);have Kb:=hd.only pQ (λk hk e=>by have:=hlt k hk;omega);go_wp2_with fail;go_ret;exact⟨rfl,Kb,HO⟩
structure pR(w:World)(va:Value)(vs:List Value)(ls:List (List UInt8)):Prop where
 own:w.ownsRow 0 29 1 va ls.length vs
 each:∀(k:Nat) (v:Value) (l:List UInt8),vs[k]?=some v->ls[k]?=some l->w.ownsRow 0 5 1 v l.length (bv l)
theorem acg(g:Nat)(va:Value)(l:Pl.Lg)(f:Value)(w:World)(h:dW w gl g va l)(hb:l.bad=true):
 bG 205 #[.pointer (some ⟨gl,0,none⟩),f] w λe w'=>e= .returned (Di 3)/\w=w':=by
 obtain⟨a0,a1,a2,a3,a4,a5,a6,b0,b1,b2,b3,b4,b5,b6⟩:=gg h.aC;rw[hb]at a6;go_enter Tryz.func205,Tryz.ntmps205;go_wp2_with fail;go_ret;exact⟨rfl,rfl⟩
theorem aca(g:Nat)(va:Value)(l:Pl.Lg)(K:FuncId)(cg:Array Value)(w:World)(h:dW w gl g va l)(hb:l.bad=false)(Q:Nat->World->Prop)(hK:∀W,(callFunc K cg).run Tryz.prog W= .ok (.enter K cg) W)
 (hQ:∀k w',Q k w'->∃c0 c1 c2 c3 c4 c5,ay w' gl 252 [c0,c1,c2,c3,c4,c5,.bool false])
 (hc:bG K cg (w.alloc (.cells #[.nilIface] 73)) λe w'=>ay w' w.heap.size 73 [.nilIface]/\∃k,aeJ k e/\Q k w'):
 bG 205 #[.pointer (some ⟨gl,0,none⟩),.func (.func K) #[] cg] w λe sL=>∃k w',Q k w'/\e= .returned (oT k)/\ag (λb=>b=w.heap.size\/b=gl) w' sL/\
  ∀c0 c1 c2 c3 c4 c5 c6,ay w' gl 252 [c0,c1,c2,c3,c4,c5,c6]->ay sL gl 252 [c0,c1,c2,c3,c4,c5,.bool (k==3)]:=by
 obtain⟨a0,a1,a2,a3,a4,a5,a6,b0,b1,b2,b3,b4,b5,b6⟩:=gg h.aC;rw[hb]at a6;have hlt:=h.aC.lt;have HG:=Ii K cg w Q hK hc;go_enter Tryz.func205,Tryz.ntmps205;go_wp2_with fail;refine HG.mono ?_;rintro e w2 ⟨k,w1,hk,hq,pQ,rfl⟩;obtain⟨c0,c1,c2,c3,c4,c5,hB⟩:=hQ k w1 hq;have EC:=pQ.aC hB (λe=>by have:=hlt;omega);have HE:=lz w2 k;have f6:=EC.frozen 6;have d6:=EC.cell 6;simp only[au,aL]at d6;obtain⟨ev,yR⟩:=ze (oT k);rw[yR]at HE|-
 obtain⟨q,hqk⟩:=ze (((k:Int)==3));go_wp2_with fail;refine(Vi ev k ⟨#[]⟩ 3 w2 HE zo).mono ?_;rintro e w' ⟨rfl,rfl⟩;rw[hqk];go_wp2_with fail;go_ret;refine⟨k,w1,hq,by rw[yR];rfl,?_,?_⟩
 ·exact(pQ.mono (λ_ _ h=> .inl h)).setCell (p:=⟨gl,6,none⟩) (.inl (.inr rfl)) _
 ·intro x0 x1 x2 x3 x4 x5 x6 hx;have qG:=(pQ.aC hx (λe=>by have:=hlt;omega)).bw 6 (.bool q);have hqq:(k==3)=q:=by
   rw[<-hqk];by_cases h3:k=3
   ·subst h3;rfl
   ·rw[b9.2 h3,b9.2 zo]
  rw[hqq];exact qG
def jh(w:World)(k:Nat)(t:TypeId):Prop:=∃cs fz,w.heap[k]?=some (.cells cs t fz)
theorem jh.dv{k:Nat}(h:jh w k t)(h':jh w k t'):t=t':=by
 obtain⟨cs,fz,h⟩:=h;obtain⟨GV,fz',h'⟩:=h'
 grind
theorem ay.dV{k:Nat}(h:ay w k t cs):jh w k t:=⟨_,_,h⟩
theorem ay.ne{a b:Nat}(h:ay w a t cs)(h':ay w b t' GV)(ht:t≠t'):a≠b:=by rintro rfl;exact ht (h.RI h')
theorem dc{n:Nat}(h:w.ownsRow aq e size v n xs)(hv:v.ownBlock=some g):jh w g e:=by
 rcases h.2 with⟨rfl,_⟩|⟨g',aB,cur,rfl,_,hg,_⟩
 ·cases hv
 ·have:g'=g:=by simpa [Value.ownBlock] using hv
  subst this;exact⟨_,_,hg⟩
def bR(F:Nat->Prop)(w:World)(ts:List TypeId):Prop:=∀k,F k->∃t,t∈ts/\jh w k t
theorem aJ.kinds{d:Pl.Dk}(h:aJ w g v d rd):bR (dF g v) w [108,190]:=by
 obtain⟨wr,sy,hg⟩:=h.aC;rintro k (rfl|hk)
 ·exact⟨_,zu,hg.dV⟩
 ·exact⟨_,zu,dc h.own hk⟩
theorem ag.cY{k:Nat}(ho:ag F w w')(hF:bR F w ts)(h:ay w k t cs)(ht:t∉ts):ay w' k t cs:=
 ho.aC h (λhk=>by obtain⟨t',h1,h2⟩:=hF k hk;exact ht (h.dV.dv h2▸h1))
theorem ag.F9{n:Nat}(ho:ag F w w')(hF:bR F w ts)(h:w.ownsRow aq e size v n xs)(ht:e∉ts):w'.ownsRow aq e size v n xs:=
 ho.own h (λg hg hk=>by obtain⟨t',h1,h2⟩:=hF g hk;exact ht ((dc h hg).dv h2▸h1))
theorem pR.only{vs:List Value}{ls:List (List UInt8)}(h:pR w va vs ls)(ho:ag F w w')(hF:bR F w ts)(h1:29∉ts)(h2:5∉ts):pR w' va vs ls:=
 ⟨ho.F9 hF h.own h1,λk v l hv hl=>ho.F9 hF (h.each k v l hv hl) h2⟩
def lF(g:Nat)(v:Value)(k:Nat):Prop:=dF g v k\/k=gl
theorem CW{gl:Nat}{d:Pl.Dk}(h:aJ w g v d rd)(hl:dW w gl g va l):bR (lF gl g v) w [108,190,252]:=by
 rintro k (hk|rfl)
 ·obtain⟨t,h1,h2⟩:=h.kinds k hk
  grind
 ·exact⟨_,zu,hl.aC.dV⟩
theorem dW.only{gl:Nat}(h:dW w gl g va l)(ho:ag F w w')(hF:bR F w ts)(h1:252∉ts):dW w' gl g va l:=⟨ho.cY hF h.aC h1,h.small⟩
theorem dW.aa{w w':World}{gl g:Nat}{va:Value}{l:Pl.Lg}(h:dW w gl g va l)(hb:dP w w'):dW w' gl g va l:=⟨h.aC.aa hb h.aC.lt,h.small⟩
theorem Ri:(callFunc 264 #[a]).run Tryz.prog W= .ok (.enter 264 #[a]) W:=by simp[go_sem]
theorem bP{a0:Value}(h:ay w g t [a0]):w.cell? ⟨g,0,none⟩=some a0/\w.frozen? ⟨g,0,none⟩=false:=⟨h.cell 0,h.frozen 0⟩
theorem ZP(g bl:Nat)(v va:Value)(d:Pl.Dk)(rd:Int)(l:Pl.Lg)(w:World)(h:aJ w g v d rd)(hl:dW w gl g va l)(hB:ay w bl 139 [.pointer (some ⟨gl,0,none⟩)]):
 bG 264 #[.pointer (some ⟨bl,0,none⟩)] w (jR [.sy] g v d rd w):=by
 obtain⟨a0,a1,a2,a3,a4,a5,a6,b0,b1,b2,b3,b4,b5,b6⟩:=gg hl.aC;obtain⟨cB,_⟩:=bP hB;have H:=yB g v d rd w h;go_enter Tryz.func264,Tryz.ntmps264;go_wp2_with fail;refine H.mono ?_;rintro e w2 ⟨⟨fK,rfl⟩|⟨fK,rfl⟩,h2,fw⟩
 ·have R2:=Pl.Bn (c:= .sy) (Pl.Dk.qb d) fK;go_wp2_with fail;go_end0;exact jR.rM R2 h2 fw
 ·unfold xV;go_wp2_with fail;exact⟨rfl,jR.stop (a:=[]) (r:=[]) rfl (Pl.Dk.qb d) fK h2 fw⟩
def YJ(r:Pl.Lg×Pl.Dk×Nat)(gl g:Nat)(v va:Value)(rd:Int)(w:World)(e:Ending)(w':World):Prop:=
 e= .returned (oT r.2.2)/\aJ w' g v r.2.1 rd/\dW w' gl g va r.1/\ag (lF gl g v) w w'
theorem acU(h:l.bad=true):l.sync d=(l,d,3):=by unfold Pl.Lg.sync;grind
theorem NC(h:l.bad=false):l.sync d=({l with bad:=!(d.run [.sy]).2},(d.run [.sy]).1,if(d.run [.sy]).2 then 0 else 3):=by
 unfold Pl.Lg.sync;rw[h,aj zj];rcases d.run [.sy]with⟨d',ok⟩;cases ok
 ·rfl
 ·cases l;grind
theorem VU(g:Nat)(v va:Value)(d:Pl.Dk)(rd:Int)(l:Pl.Lg)(w:World)(h:aJ w g v d rd)(hl:dW w gl g va l):
 bG 235 #[.pointer (some ⟨gl,0,none⟩)] w (YJ (l.sync d) gl g v va rd w):=by
 have aI:Below w.heap.size w (w.alloc (.cells #[.pointer (some ⟨gl,0,none⟩)] 139)):=za _ _;have JJ:=zf Tryz.prog;have H:=h;have HL:=hl;have fJ:=aI;cases jO:l.bad
 ·obtain⟨w1,dj⟩:=ze (w.alloc (.cells #[.pointer (some ⟨gl,0,none⟩)] 139));rw[dj]at aI;have B0:ay w1 w.heap.size 139 [.pointer (some ⟨gl,0,none⟩)]:=by rw[<-dj];exact ay.new _ _ _
  have ja:Below w1.heap.size w1 (w1.alloc (.cells #[.nilIface] 73)):=za _ _;have h1:=h.aa aI;have l7:=hl.aa aI
  have HD:=(aca gl g va l 264 #[.pointer (some ⟨w.heap.size,0,none⟩)] w1 l7 jO
   (λk w'=>k=(l.sync d).2.2/\aJ w' g v (l.sync d).2.1 rd/\dW w' gl g va l/\ag (dF g v) w w') (λW=>Ri W _)
   (λk w' hq=>⟨_,_,_,_,_,_,by have:=hq.2.2.1.aC;unfold G9 at this;rw[jO]at this;exact this⟩) (by
     refine(ZP gl g _ v va d rd l _ (h1.aa ja) (l7.aa ja) (B0.aa ja B0.lt)).mono ?_;rintro e w' ⟨he,hd,ho⟩;have BE:=ay.new w1 73 [.nilIface];refine⟨ho.cY (h1.aa ja).kinds BE zj,_,he.agA,?_⟩;rw[NC d jO];exact⟨rfl,hd,(l7.aa ja).only ho (h1.aa ja).kinds zj,((ag.ae aI (dF g v)).aa ja).aE ho⟩))
  have pT:=aI.size;obtain⟨cB,_⟩:=bP B0;go_enter Tryz.func235,Tryz.ntmps235;go_wp2_with fail;refine HD.mono ?_;rintro e w3 ⟨k,w2,⟨rfl,oZ,BJ,fw⟩,rfl,pQ,EU⟩;have hne:∀k,lF gl g v k->k<w.heap.size:=by
   rintro k (hk|rfl)
   ·exact H.lt k hk
   ·exact HL.aC.lt
  have tN:¬dF g v gl:=λhk=>by obtain⟨t,h1,h2⟩:=H.kinds gl hk;have:=HL.aC.dV.dv h2;subst this;revert h1;decide
  have Pt:=oZ.only pQ (λk hk e=>by
   rcases e with e|e
   ·have:=hne k (.inl hk);omega
   ·exact tN (e▸hk))
  have rN:dW w3 gl g va (l.sync d).1:=by
   have:=EU _ _ _ _ _ _ _ BJ.aC;rw[NC d jO]at this|-
   refine⟨?_,HL.small⟩;unfold G9;cases gP:(d.run [.sy]).2
   ·rw[gP]at this;exact this
   ·rw[gP]at this;exact this
  have sR:ag (lF gl g v) w w3:=(fw.mono (λ_ _ h=> .inl h)).trans pQ (λx hx e=>by
   rcases e with e|e
   ·omega
   ·exact .inr e)
  go_wp2_with fail;go_ret;exact⟨rfl,Pt,rN,sR⟩
 ·have HDB:=acg gl g va l (.func (.func 264) #[] #[.pointer (some ⟨w.heap.size,0,none⟩)]) _ (hl.aa aI) jO;go_enter Tryz.func235,Tryz.ntmps235;go_wp2_with fail;refine HDB.mono ?_;rintro e w' ⟨rfl,rfl⟩;go_wp2_with fail;go_ret;rw[YJ,acU d jO];exact⟨rfl,H.aa fJ,HL.aa fJ,ag.ae fJ _⟩
theorem Tryz.VA:(Tryz.prog.info? 190).map (λi=>(i.zero,i.size,i.bytes))=some (some (.agg #[.string ⟨#[]⟩,.string ⟨#[]⟩,.bool false,.bool false,.bool false]),5,40):=zp
theorem FA{n m:Nat}(h:n+m<=4398046511104):∀old,old<n+m->Builtin.nextslicecap (n+m) old*40<=281474976710656:=by intro old ho;have:=ig ho;omega
theorem Aj(l:List Pl.jl):∀u∈cu l,u.oneCell'=true:=by intro u hu;unfold cu at hu;rw[lQ]at hu;obtain⟨s,_,hs⟩:=hu;simp only[eO,cV,je,iU]at hs;rcases hs with rfl|rfl|rfl|rfl|rfl<;>rfl
theorem QJ(m:Nat):cu (List.replicate (m+1) Pl.jl.empty)=cu (List.replicate m Pl.jl.empty)++eO Pl.jl.empty:=by rw[List.replicate_succ',tU];simp[cu]
theorem OA(n:Int):Pl.pU n<=4096:=by
 unfold Pl.pU
 grind
structure abH(w:World)(g:Nat)(v:Value)(k:Nat):Prop where
 mK:v.ownBlock≠some g
 own:w.ownsRow (g+1) 190 5 v k (cu (List.replicate k Pl.jl.empty))
 aC:ay w g 108 [v,.int .i64 (-1),.int .i64 0,.int .i64 0,.int .i64 0]
theorem afn(n:Int)(w:World):
 bG 60 #[.int .i64 n] w λe w'=>∃v',e= .returned (.pointer (some ⟨w.heap.size,0,none⟩))/\aJ w' w.heap.size v' (Pl.Dk.new n) 0/\dP w w'/\∀k,dF w.heap.size v' k->w.heap.size<=k:=by
 have hmk:=Jy 256 256 zo zo;obtain⟨w1,dj,aI⟩:=zF w (.cells #[.slice none 0 0,.int .i64 (-1),.int .i64 0,.int .i64 0,.int .i64 0] 108);have B1:ay w1 w.heap.size 108 [.slice none 0 0,.int .i64 (-1),.int .i64 0,.int .i64 0,.int .i64 0]:=by rw[<-dj];exact ay.new w 108 _
 have pT:w1.heap.size=w.heap.size+1:=by rw[<-dj];simp
 obtain⟨w2,iA,bz⟩:=zF w1 (.cells (IU 256).toArray 5);have hcv:(convert 29 9 (.slice (some ⟨w1.heap.size,0,none⟩) 256 256)).run Tryz.prog w2= .ok (.string (ar (Pl.gO 256))) w2:=by rw[<-iA];have:=dQ (w1.alloc (.cells (IU 256).toArray 5)) (some ⟨w1.heap.size,0,none⟩) (List.replicate 256 0) 256 (P5 _ _);rw[j9]at this;exact this
 have nX:=bz.size;obtain⟨Z,hZ⟩:=ze (ar (Pl.gO 256));rw[hZ,pT]at hcv;obtain⟨i0,hi,nQ,kK,mY⟩:=bV Tryz.VA;have HI:=zi (sS hi nQ kK mY);clear hi nQ kK mY;by_cases h1:n<0
 ·have HM:Hid (Pl.pU n=0):=by unfold Pl.pU;rw[Hid,ah h1]
  go_enter Tryz.func60,Tryz.ntmps60;go_wp2_with fail
  go_loopw [5] (λi W=>∃(k:Nat) (v:Value),k<=0/\i= .int .i64 (k:Int)/\Hid (abH W w.heap.size v k)/\Hid (Below w.heap.size w W)) (λi _=>0-(intOf i).toNat)
  case atStart=>refine⟨0,.slice none 0 0,aM _,rfl,⟨(λe=>by cases e),dA _ _ _ _,B1.aa bz B1.lt⟩,aI.trans (bz.mono aI.size)⟩
  case round=>
   obtain⟨k,v,hk,rfl,HN,HB⟩:=hrel;obtain⟨A,aB,rfl,_,_,_⟩:=bJ HN.own;obtain⟨c0,c1,c2,c3,c4,f0,f1,f2,f3,f4⟩:=pV HN.aC;have tN:=HN.aC.lt;by_cases hkm:k<0
   ·exact absurd hkm zo
   ·obtain rfl:k=0:=zo;go_wp2_with fail;go_ret;refine⟨_,rfl,⟨?_,λs hs=>?_,⟨by show(-1:Int)<= -1;omega,by show(-1:Int)<=9223372036854775807;omega⟩,HN.mK,?_,0,0,HN.aC⟩,HB.out,λy hy=>?_⟩
    ·show(List.replicate _ _).length<=4096;rw[j9];exact OA _
    ·have:s=Pl.jl.empty:=uR hs;rw[this];exact⟨by simp[Pl.jl.empty,Pl.gO],by simp[Pl.jl.empty,Pl.gO]⟩
    ·show World.ownsRow _ 0 _ 5 _ (List.replicate _ _).length (cu (List.replicate _ _));rw[HM.out,j9];exact yn HN.own (aM _)
    ·rcases hy with rfl|hy
     ·exact ai _
     ·have:=(HN.own.lt y hy).1;omega
 ·by_cases h2:4096<n
  ·have HM:Hid (Pl.pU n=4096):=by unfold Pl.pU;rw[Hid,aj h1,ah h2]
   go_enter Tryz.func60,Tryz.ntmps60;go_wp2_with fail
   go_loopw [5] (λi W=>∃(k:Nat) (v:Value),k<=4096/\i= .int .i64 (k:Int)/\Hid (abH W w.heap.size v k)/\Hid (Below w.heap.size w W)) (λi _=>4096-(intOf i).toNat)
   case atStart=>refine⟨0,.slice none 0 0,aM _,rfl,⟨(λe=>by cases e),dA _ _ _ _,B1.aa bz B1.lt⟩,aI.trans (bz.mono aI.size)⟩
   case round=>
    obtain⟨k,v,hk,rfl,HN,HB⟩:=hrel;obtain⟨A,aB,rfl,_,_,_⟩:=bJ HN.own;obtain⟨c0,c1,c2,c3,c4,f0,f1,f2,f3,f4⟩:=pV HN.aC;have tN:=HN.aC.lt;by_cases hkm:k<4096
    ·have vH:Hid (k+1<=maxLen):=by rw[Hid];simp only[maxLen];omega
     have hroom:=zi (FA (n:=k) (m:=1) zo);clear c1 c2 c3 c4 f1 f2 f3 f4
     go_wp2_with (at_builtin
                  obtain⟨w3,fX,bg⟩:=zF wr (.cells #[.string Z,.string Z,.bool false,.bool false,.bool false] 190);have Hn:Hid (Src w3 (some ⟨wr.heap.size,0,none⟩) (eO Pl.jl.empty)):=by
                   rw[Hid,<-fX];have:eO Pl.jl.empty=[.string Z,.string Z,.bool false,.bool false,.bool false]:=by rw[<-hZ];rfl
                   rw[this];exact Src.dE (ay.new wr 190 _)
                  have Er:=bg.size;rw[fX];clear fX;refine cQ _ rfl (.tmp 23) (.tmp 27) 106 rfl (w.heap.size+1) 190 i0 _ 5 40 Tryz.underlying106 HI.1 HI.2.1 HI.2.2.1 HI.2.2.2 rfl zj (.slice A k aB) k (cu (List.replicate k Pl.jl.empty)) rfl (fm HN.own bg) (some ⟨wr.heap.size,0,none⟩) 1 1 (eO Pl.jl.empty) rfl rfl Hn (by intro u hu;exact Aj [Pl.jl.empty] u (by simpa [cu] using hu)) vH hroom zo ?_;intro v4 w4 eF gS CK;have xD:=(HN.aC.aa bg HN.aC.lt).grown gS (λe=>HN.mK e.symm);have jY:w4.ownsRow (w.heap.size+1) 190 5 v4 (k+1) (cu (List.replicate (k+1) Pl.jl.empty)):=by rw[QJ];exact eF
                  obtain⟨akw,zQ⟩:=dz xD jY;have ib:Hid (Below w.heap.size w w4):=(HB.trans (bg.mono HB.size)).grown gS zo (λy hy=>by have:=(HN.own.lt y hy).1;omega);obtain⟨x0,_,_,_,_,y0,_,_,_,_⟩:=pV xD;obtain⟨A4,qi,rfl,_,_,_⟩:=bJ eF;clear eF gS CK xD jY)
     have SU:∀x,(Value.slice A4 (k+1) qi).ownBlock=some x->x≠w.heap.size:=λx hx=>by have:=(zQ.lt x hx).1;omega
     refine⟨⟨k+1,.slice A4 (k+1) qi,zo,by go_num,⟨λe=>SU _ e rfl,?_,akw.bw 0 _⟩,ib.setCell (p:=⟨w.heap.size,0,none⟩) (ai _) _⟩,by simp[intOf];omega⟩;exact ag.own ((ag.refl (·=w.heap.size) w4).setCell (p:=⟨w.heap.size,0,none⟩) (.inl rfl) _) zQ (λy hy e=>SU y hy e)
    ·obtain rfl:k=4096:=zo;go_wp2_with fail;go_ret;refine⟨_,rfl,⟨?_,λs hs=>?_,⟨by show(-1:Int)<= -1;omega,by show(-1:Int)<=9223372036854775807;omega⟩,HN.mK,?_,0,0,HN.aC⟩,HB.out,λy hy=>?_⟩
     ·show(List.replicate _ _).length<=4096;rw[j9];exact OA _
     ·have:s=Pl.jl.empty:=uR hs;rw[this];exact⟨by simp[Pl.jl.empty,Pl.gO],by simp[Pl.jl.empty,Pl.gO]⟩
     ·show World.ownsRow _ 0 _ 5 _ (List.replicate _ _).length (cu (List.replicate _ _));rw[HM.out,j9];exact yn HN.own (aM _)
     ·rcases hy with rfl|hy
      ·exact ai _
      ·have:=(HN.own.lt y hy).1;omega
  ·obtain⟨m,rfl⟩:∃m:Nat,n=m:=⟨n.toNat,zo⟩;have HM:Hid (Pl.pU (m:Int)=m):=by unfold Pl.pU;rw[Hid,aj h1,aj h2];omega
   go_enter Tryz.func60,Tryz.ntmps60;go_wp2_with fail
   go_loopw [5] (λi W=>∃(k:Nat) (v:Value),k<=m/\i= .int .i64 (k:Int)/\Hid (abH W w.heap.size v k)/\Hid (Below w.heap.size w W)) (λi _=>m-(intOf i).toNat)
   case atStart=>refine⟨0,.slice none 0 0,aM _,rfl,⟨(λe=>by cases e),dA _ _ _ _,B1.aa bz B1.lt⟩,aI.trans (bz.mono aI.size)⟩
   case round=>
    obtain⟨k,v,hk,rfl,HN,HB⟩:=hrel;obtain⟨A,aB,rfl,_,_,_⟩:=bJ HN.own;obtain⟨c0,c1,c2,c3,c4,f0,f1,f2,f3,f4⟩:=pV HN.aC;have tN:=HN.aC.lt;by_cases hkm:k<m
    ·have vH:Hid (k+1<=maxLen):=by rw[Hid];simp only[maxLen];omega
     have hroom:=zi (FA (n:=k) (m:=1) zo);clear c1 c2 c3 c4 f1 f2 f3 f4
     go_wp2_with (at_builtin
                  obtain⟨w3,fX,bg⟩:=zF wr (.cells #[.string Z,.string Z,.bool false,.bool false,.bool false] 190);have Hn:Hid (Src w3 (some ⟨wr.heap.size,0,none⟩) (eO Pl.jl.empty)):=by
                   rw[Hid,<-fX];have:eO Pl.jl.empty=[.string Z,.string Z,.bool false,.bool false,.bool false]:=by rw[<-hZ];rfl
                   rw[this];exact Src.dE (ay.new wr 190 _)
                  have Er:=bg.size;rw[fX];clear fX;refine cQ _ rfl (.tmp 23) (.tmp 27) 106 rfl (w.heap.size+1) 190 i0 _ 5 40 Tryz.underlying106 HI.1 HI.2.1 HI.2.2.1 HI.2.2.2 rfl zj (.slice A k aB) k (cu (List.replicate k Pl.jl.empty)) rfl (fm HN.own bg) (some ⟨wr.heap.size,0,none⟩) 1 1 (eO Pl.jl.empty) rfl rfl Hn (by intro u hu;exact Aj [Pl.jl.empty] u (by simpa [cu] using hu)) vH hroom zo ?_;intro v4 w4 eF gS CK;have xD:=(HN.aC.aa bg HN.aC.lt).grown gS (λe=>HN.mK e.symm);have jY:w4.ownsRow (w.heap.size+1) 190 5 v4 (k+1) (cu (List.replicate (k+1) Pl.jl.empty)):=by rw[QJ];exact eF
                  obtain⟨akw,zQ⟩:=dz xD jY;have ib:Hid (Below w.heap.size w w4):=(HB.trans (bg.mono HB.size)).grown gS zo (λy hy=>by have:=(HN.own.lt y hy).1;omega);obtain⟨x0,_,_,_,_,y0,_,_,_,_⟩:=pV xD;obtain⟨A4,qi,rfl,_,_,_⟩:=bJ eF;clear eF gS CK xD jY)
     have SU:∀x,(Value.slice A4 (k+1) qi).ownBlock=some x->x≠w.heap.size:=λx hx=>by have:=(zQ.lt x hx).1;omega
     refine⟨⟨k+1,.slice A4 (k+1) qi,zo,by go_num,⟨λe=>SU _ e rfl,?_,akw.bw 0 _⟩,ib.setCell (p:=⟨w.heap.size,0,none⟩) (ai _) _⟩,by simp[intOf];omega⟩;exact ag.own ((ag.refl (·=w.heap.size) w4).setCell (p:=⟨w.heap.size,0,none⟩) (.inl rfl) _) zQ (λy hy e=>SU y hy e)
    ·obtain rfl:k=m:=zo;go_wp2_with fail;go_ret;refine⟨_,rfl,⟨?_,λs hs=>?_,⟨by show(-1:Int)<= -1;omega,by show(-1:Int)<=9223372036854775807;omega⟩,HN.mK,?_,0,0,HN.aC⟩,HB.out,λy hy=>?_⟩
     ·show(List.replicate _ _).length<=4096;rw[j9];exact OA _
     ·have:s=Pl.jl.empty:=uR hs;rw[this];exact⟨by simp[Pl.jl.empty,Pl.gO],by simp[Pl.jl.empty,Pl.gO]⟩
     ·show World.ownsRow _ 0 _ 5 _ (List.replicate _ _).length (cu (List.replicate _ _));rw[HM.out,j9];exact yn HN.own (aM _)
     ·rcases hy with rfl|hy
      ·exact ai _
      ·have:=(HN.own.lt y hy).1;omega
namespace Pl
variable {k:Nat} {x:List UInt8}
variable (ls:List (List UInt8)) (P Q:List fh) (n i:Nat) (t:fh)
def cH(ls:List (List UInt8)):List (List UInt8):=
 match h:ls with
 | []=> []
 | [l]=> [0::l]
 |a::b::r=>(1::(be 4 (root (ls.take (half ls.length)))++be 4 (root (ls.drop (half ls.length)))))::(cH (ls.take (half ls.length))++cH (ls.drop (half ls.length)))
termination_by ls.length
decreasing_by
 ·subst h;have:=qf (n:=(a::b::r).length) zu
  grind
 ·subst h;have h1:=nO (a::b::r).length
  grind
theorem AM:cH []=[]:=by rw[cH]
theorem mO(l:List UInt8):cH [l]=[0::l]:=by rw[cH]
theorem jP(h:2<=ls.length):cH ls=(1::(be 4 (root (ls.take (half ls.length)))++be 4 (root (ls.drop (half ls.length)))))::(cH (ls.take (half ls.length))++cH (ls.drop (half ls.length))):=by
 match ls,h with
 |a::b::r,_=>rw[cH]
theorem fM:∀(n:Nat) (ls:List (List UInt8)),ls.length=n->1<=n->(cH ls).length=2*n-1:=by
 intro n
 induction n using Nat.strongRecOn with
 |_ n ih=>
  intro ls hl hn;by_cases h2:2<=n
  ·have h1:=qf (n:=ls.length) zo;have h0:=nO ls.length;rw[jP ls zo,bE,ax];rw[ih (half ls.length) zo _ zw zo,ih (ls.length-half ls.length) zo _ zu zo];omega
  ·match ls,hl with
   | [l],h=>rw[mO];grind
   | [],h=>grind
   |_::_::_,h=>grind
def parts:List (List UInt8)->List (List UInt8)->Option (List UInt8×List UInt8)
 |a::l,b::m=>if a=b then parts l m else some (a,b)
 |_,_=>none
theorem Iq:∀(l m:List (List UInt8)) (a b:List UInt8),parts l m=some (a,b)->∃k,l[k]?=some a/\m[k]?=some b/\a≠b/\l.take k=m.take k
 | [],_,_,_,h=>by simp[parts]at h
 |_::_,[],_,_,h=>by simp[parts]at h
 |x::l,y::m,a,b,h=>by
  rw[parts]at h;by_cases e:x=y
  ·rw[ah e]at h;obtain⟨k,h1,h2,h3,h4⟩:=Iq l m a b h;exact⟨k+1,h1,h2,h3,zw⟩
  ·rw[aj e]at h;injection h with h;injection h with h1 h2;subst h1 h2;exact⟨0,rfl,rfl,e,rfl⟩
theorem Bo:∀(l m:List (List UInt8)),l.length=m.length->parts l m=none->l=m
 | [],[],_,_=>rfl
 | [],_::_,h,_=>by grind
 |_::_,[],h,_=>by grind
 |x::l,y::m,hl,h=>by
  rw[parts]at h;by_cases e:x=y
  ·rw[ah e]at h;rw[e,Bo l m zw h]
  grind
theorem sH{a b:Nat}(ha:a<4294967296)(hb:b<4294967296)(h:be 4 a=be 4 b):a=b:=by rw[<-kq 4 a ha,<-kq 4 b hb,h]
theorem aaT:∀(n:Nat) (ls ms:List (List UInt8)),ls.length=n->ms.length=n->root ls=root ms->∀(k:Nat) (a b:List UInt8),(cH ls)[k]?=some a->(cH ms)[k]?=some b->(cH ls).take k=(cH ms).take k->iZ a=iZ b:=by
 intro n
 induction n using Nat.strongRecOn with
 |_ n ih=>
  intro ls ms hl hm hr k a b ha hb ht;by_cases h2:2<=n
  ·have h1:=qf (n:=n) zo;have h0:=nO n;have e1:=jP ls zo;have e2:=jP ms zo;have r1:=yi ls zo;have r2:=yi ms zo;rw[hl]at e1 r1;rw[hm]at e2 r2;rw[e1]at ha ht;rw[e2]at hb ht;cases k with
   |zero=>
    grind
   |succ k=>
    rw[qq,qq]at ht;injection ht with TN wC;injection TN with _ TN;have hsp:=ni TN (by rw[aG,aG]);have l1:=kx (ls.take (half n));have l2:=kx (ms.take (half n));have l3:=kx (ls.drop (half n));have l4:=kx (ms.drop (half n));have s1:=sH zo zo hsp.1;have s2:=sH zo zo hsp.2;have t1:(ls.take (half n)).length=half n:=by rw[aP];omega
    have t2:(ms.take (half n)).length=half n:=zw;have t3:(ls.drop (half n)).length=n-half n:=zw;have t4:(ms.drop (half n)).length=n-half n:=zw;have q1:=fM (half n) _ t1 zo;have q2:=fM (half n) _ t2 zo;simp only[aL]at ha hb;by_cases hk:k<2*half n-1
    ·grind
    ·rw[iI zo]at ha hb;rw[q1]at ha;rw[q2]at hb;rw[BP,BP,q1,q2]at wC;have bU:((cH (ls.take (half n))).take k).length=((cH (ms.take (half n))).take k).length:=zw;exact ih (n-half n) zo _ _ t3 t4 s2 _ a b ha hb (ni wC bU).2
  ·match ls,ms,hl,hm with
   | [],_,h,_=>
     grind
   | [x],[y],_,_=>
     rw[mO]at ha hb;rw[tW,tW]at hr;cases k with
     |zero=>
      grind
     |succ k=>grind
   | [_],[],h1,h3=>grind
   | [_],_::_::_,h1,h3=>grind
   |_::_::_,_,h,_=>grind
theorem Mq(ms:List (List UInt8))(hn:ls.length=ms.length)(hr:root ls=root ms)(a b:List UInt8)(h:parts (cH ls) (cH ms)=some (a,b)):a≠b/\iZ a=iZ b/\a∈cH ls/\b∈cH ms:=by obtain⟨k,h1,h2,h3,h4⟩:=Iq _ _ _ _ h;exact⟨h3,aaT ls.length ls ms rfl hn.symm hr k a b h1 h2 h4,zw,zw⟩
theorem Jl:∀(n:Nat) (ls ms:List (List UInt8)),ls.length=n->ms.length=n->cH ls=cH ms->ls=ms:=by
 intro n
 induction n using Nat.strongRecOn with
 |_ n ih=>
  intro ls ms hl hm h;by_cases h2:2<=n
  ·have h1:=qf (n:=n) zo;have h0:=nO n;rw[jP ls zo,jP ms zo,hl,hm]at h;injection h with _ h;have t1:(ls.take (half n)).length=half n:=zw;have t2:(ms.take (half n)).length=half n:=zw;have t3:(ls.drop (half n)).length=n-half n:=zw;have t4:(ms.drop (half n)).length=n-half n:=zw;have hsp:=ni h (by rw[fM (half n) _ t1 zo,fM (half n) _ t2 zo]);rw[<-di (half n) ls,<-di (half n) ms,ih (half n) zo _ _ t1 t2 hsp.1,ih (n-half n) zo _ _ t3 t4 hsp.2]
  ·match ls,ms,hl,hm with
   | [],[],_,_=>rfl
   | [x],[y],_,_=>
     rw[mO,mO]at h
     grind
   | [],_::_,h1,h3=>grind
   |_::_,[],h1,h3=>grind
   | [_],_::_::_,h1,h3=>grind
   |_::_::_,_,h,_=>grind
def eU:List (List UInt8):=t.ops.map fp
def dK:List UInt8:=entry n (be 8 t.time) t.ops.length (root (eU t))
def ed(k:Nat):fh:=P.getD k ⟨0,[]⟩
def fG:List (List UInt8):=[dK (3*i+1) (ed P (3*i)),dK (3*i+2) (ed P (3*i+1)),dK (3*i+3) (ed P (3*i+2))]
def cK(P:List fh):Nat->Nat
 |0=>0
 |i+1=>iZ (header (i+1) (cK P i) (root (fG P i)))
def nE:List UInt8:=header (i+1) (cK P i) (root (fG P i))
theorem mZ:cK P (i+1)=iZ (nE P i):=rfl
theorem qp:∀i,cK P i<4294967291
 |0=>by show 0<4294967291;decide
 |i+1=>uV _
def kA(k:Nat):Option (List UInt8×List UInt8):=parts (cH (eU (ed P k))) (cH (eU (ed Q k)))
def mB:Option (List UInt8×List UInt8):=
 if nE P i=nE Q i then
  match parts (cH (fG P i)) (cH (fG Q i))with
  |some x=>some x
  |none=>match kA P Q (3*i)with
   |some x=>some x
   |none=>match kA P Q (3*i+1)with
    |some x=>some x
    |none=>kA P Q (3*i+2)
 else some (nE P i,nE Q i)
def dG(P Q:List fh):Nat->Option (List UInt8×List UInt8)
 |0=>none
 |i+1=>match mB P Q i with
  |some x=>some x
  |none=>dG P Q i
def Bq(x:List UInt8):Prop:=(∃i,i<n/\(x=nE P i\/x∈cH (fG P i)))\/∃k,k<3*n/\x∈cH (eU (ed P k))
def MO:Prop:=∀k,k<3*n->nz (ed P k)
theorem VO{b h r h' r':Nat}(h1:h<4294967296)(h2:h'<4294967296)(r1:r<4294967296)(r2:r'<4294967296)(e:header b h r=header b h' r'):h=h'/\r=r':=by unfold header at e;injection e with _ e;have e1:=ni e (by simp[aG]);have e2:=ni e1.1 (by simp[aG]);exact⟨sH h1 h2 e2.2,sH r1 r2 e1.2⟩
theorem wY{n:Nat}{t t':fh}(h:nz t)(h':nz t')(e:dK n t=dK n t'):t.time=t'.time/\t.ops.length=t'.ops.length/\root (eU t)=root (eU t'):=by
 unfold dK entry at e;have e1:=ni e (by simp[aG]);have e2:=ni e1.1 (by simp[aG]);have e3:=ni e2.1 (by simp[aG]);have r1:=kx (eU t);have r2:=kx (eU t');refine⟨?_,?_,sH zo zo e1.2⟩
 ·rw[<-kq 8 t.time h.1,<-kq 8 t'.time h'.1,e3.2]
 ·have h1:=h.2.1.2;have h2:=h'.2.1.2;have e4:num [UInt8.ofNat t.ops.length]=num [UInt8.ofNat t'.ops.length]:=zw;rwa [num_ofNat zo,num_ofNat zo]at e4
theorem aaC{o o':jb}(h:p8 o)(h':p8 o')(e:fp o=fp o'):o=o':=by
 have h1:=Ck (r:=[]) h;have h2:=Ck (r:=[]) h'
 grind
theorem X0:∀(l m:List jb),(∀o∈l,p8 o)->(∀o∈m,p8 o)->l.map fp=m.map fp->l=m
 | [],[],_,_,_=>rfl
 | [],_::_,_,_,h=>by grind
 |_::_,[],_,_,h=>by grind
 |a::l,b::m,h1,h2,h=>by simp only[jf,uM]at h;rw[aaC zw zw h.1,X0 l m zS zS h.2]
theorem vA{P Q:List fh}{y:List UInt8}(hl:(ed P k).ops.length=(ed Q k).ops.length)(hr:root (eU (ed P k))=root (eU (ed Q k)))(h:kA P Q k=some (x,y)):
 x≠y/\iZ x=iZ y/\x∈cH (eU (ed P k))/\y∈cH (eU (ed Q k)):=
 Mq _ _ (by unfold eU;grind) hr x y h
theorem uv{P Q:List fh}(hp:nz (ed P k))(hq:nz (ed Q k))(ht:(ed P k).time=(ed Q k).time)(hl:(ed P k).ops.length=(ed Q k).ops.length)(h:kA P Q k=none):ed P k=ed Q k:=by
 have h1:(eU (ed P k)).length=(eU (ed Q k)).length:=by unfold eU;grind
 have NW:=hp.2.1.1;have bU:1<=(eU (ed P k)).length:=by unfold eU;grind
 have h2:=Bo _ _ (by rw[fM _ _ rfl bU,fM _ _ rfl zo,h1]) h;have h3:=Jl _ _ _ rfl h1.symm h2;have h4:=X0 _ _ hp.2.2 hq.2.2 h3;cases hP:ed P k;simp_all
theorem sE:(fG P i).length=3:=rfl
theorem Sd{P Q:List fh}{i:Nat}(hP:MO P (i+1))(hQ:MO Q (i+1))(hh:cK P (i+1)=cK Q (i+1)):
 (∃x y,mB P Q i=some (x,y)/\x≠y/\iZ x=iZ y/\Bq P (i+1) x/\Bq Q (i+1) y)\/
 (mB P Q i=none/\cK P i=cK Q i/\∀k,3*i<=k->k<3*(i+1)->ed P k=ed Q k):=by
 unfold mB;by_cases he:nE P i=nE Q i
 ·rw[ah he];have a1:=qp P i;have a2:=qp Q i;have a3:=kx (fG P i);have a4:=kx (fG Q i);obtain⟨g1,g2⟩:=VO zo zo zo zo he;cases hp:parts (cH (fG P i)) (cH (fG Q i))with
  |some x=>obtain⟨x,y⟩:=x;obtain⟨b1,b2,b3,b4⟩:=Mq (fG P i) (fG Q i) rfl g2 x y hp;exact .inl ⟨x,y,rfl,b1,b2,.inl ⟨i,zo,.inr b3⟩,.inl ⟨i,zo,.inr b4⟩⟩
  |none=>
   have hq:=Jl 3 (fG P i) (fG Q i) rfl rfl (Bo _ _ (by rw[fM 3 (fG P i) rfl zj,fM 3 (fG Q i) rfl zj]) hp);unfold fG at hq;simp only[uM,and_true]at hq;obtain⟨q0,q1,q2⟩:=hq;have p0:=hP (3*i) zo;have p1:=hP (3*i+1) zo;have p2:=hP (3*i+2) zo;have o0:=hQ (3*i) zo;have o1:=hQ (3*i+1) zo;have o2:=hQ (3*i+2) zo;obtain⟨u0,v0,w0⟩:=wY p0 o0 q0;obtain⟨u1,v1,w1⟩:=wY p1 o1 q1;obtain⟨u2,v2,w2⟩:=wY p2 o2 q2;cases c0:kA P Q (3*i)with
   |some x=>obtain⟨x,y⟩:=x;obtain⟨b1,b2,b3,b4⟩:=vA v0 w0 c0;exact .inl ⟨x,y,rfl,b1,b2,.inr ⟨_,zo,b3⟩,.inr ⟨_,zo,b4⟩⟩
   |none=>
    cases c1:kA P Q (3*i+1)with
    |some x=>obtain⟨x,y⟩:=x;obtain⟨b1,b2,b3,b4⟩:=vA v1 w1 c1;exact .inl ⟨x,y,rfl,b1,b2,.inr ⟨_,zo,b3⟩,.inr ⟨_,zo,b4⟩⟩
    |none=>
     cases c2:kA P Q (3*i+2)with
     |some x=>obtain⟨x,y⟩:=x;obtain⟨b1,b2,b3,b4⟩:=vA v2 w2 c2;exact .inl ⟨x,y,rfl,b1,b2,.inr ⟨_,zo,b3⟩,.inr ⟨_,zo,b4⟩⟩
     |none=>
      refine .inr ⟨rfl,g1,λk h1 h2=>?_⟩;obtain rfl|rfl|rfl:k=3*i\/k=3*i+1\/k=3*i+2:=zo
      ·exact uv p0 o0 u0 v0 c0
      ·exact uv p1 o1 u1 v1 c1
      ·exact uv p2 o2 u2 v2 c2
 ·rw[aj he];exact .inl ⟨_,_,rfl,he,hh,.inl ⟨i,zo,.inl rfl⟩,.inl ⟨i,zo,.inl rfl⟩⟩
theorem Bq.mono{P:List fh}{n n':Nat}(h:Bq P n x)(hn:n<=n'):Bq P n' x:=by
 rcases h with⟨i,h1,h2⟩|⟨k,h1,h2⟩
 ·exact .inl ⟨i,zo,h2⟩
 ·exact .inr ⟨k,zo,h2⟩
theorem LH{P Q:List fh}:∀(n:Nat),MO P n->MO Q n->cK P n=cK Q n->
 (∃x y,dG P Q n=some (x,y)/\x≠y/\iZ x=iZ y/\Bq P n x/\Bq Q n y)\/
 (dG P Q n=none/\∀k,k<3*n->ed P k=ed Q k)
 |0,_,_,_=> .inr ⟨rfl,zu⟩
 |i+1,hP,hQ,hh=>by
  rcases Sd hP hQ hh with⟨x,y,h1,h2,h3,h4,h5⟩|⟨h1,h2,h3⟩
  ·exact .inl ⟨x,y,by rw[dG,h1],h2,h3,h4,h5⟩
  ·rcases LH i (λk hk=>hP k zo) (λk hk=>hQ k zo) h2 with⟨x,y,g1,g2,g3,g4,g5⟩|⟨g1,g2⟩
   ·exact .inl ⟨x,y,by rw[dG,h1];exact g1,g2,g3,g4.mono zo,g5.mono zo⟩
   ·refine .inr ⟨by rw[dG,h1];exact g1,λk hk=>?_⟩
    grind
end Pl
variable (g n:Nat) (l:List UInt8) (bad:Bool) (w:World) (s:ByteArray)
theorem Qr(x:Nat)(h:x<4294967296):bits .and .u32 (x:Int) 1=((x%2:Nat):Int):=by
 have:=u32_and_nat x 1 h zj
 grind
theorem agv{k:IntKind}{a b:Int}(h:a=b):Ending.returned (.int k a)= .returned (.int k b):=by rw[h]
theorem afJ(h:n<4294967296):4294967295^^^n=4294967295-n:=by
 have e:4294967295-n=2^32-(n+1):=zo;rw[e];apply Nat.eq_of_testBit_eq;intro i;rw[Nat.testBit_xor,Nat.testBit_two_pow_sub_succ zo,show(4294967295:Nat)=2^32-1 from rfl,Nat.testBit_two_pow_sub_one];by_cases hi:i<32
 ·grind
 ·have hp:2^32<=2^i:=jG zj zo;have:n.testBit i=false:=Ay zo
  grind
theorem afZ(h:n<4294967296):bits .xor .u32 IntKind.u32.max (n:Int)=((4294967295-n:Nat):Int):=by have:=u32_xor_nat 4294967295 n zj h;rw[afJ n h]at this;exact this
theorem abf(v:Nat)(w:World)(hv:v<4294967296):
 bG 184 #[.int .u32 v] w λe w'=>e= .returned (.int .u32 (Pl.aep v))/\w=w':=by
 go_enter Tryz.func184,Tryz.ntmps184;go_wp2
 go_loop [0,3] (λh i=>∃k:Nat,k<=8/\i= .int .i64 k/\∃x:Nat,x<4294967296/\h= .int .u32 x/\Hid (Pl.Zo k v=x)) (λ_ i=>8-(intOf i).toNat)
 case atStart=>exact⟨0,zo,rfl,v,hv,rfl,rfl⟩
 case round=>
  obtain⟨k,hk,rfl,x,hx,rfl,HX⟩:=hrel;have ha:=Qr x hx;have hxx:=u32_xor_nat (x/2) 3988292384 zo zj;have hn:=Pl.Ic hx;by_cases hk8:k<8
  ·by_cases amq:x%2=1
   ·have ht:(bits .and .u32 (x:Int) 1==1)=true:=by rw[ha];simp;omega
    have HB:(Pl.uw x=x/2^^^3988292384):=by simp[Hid,Pl.uw,amq]
    have qG:bits .xor .u32 ((x:Int)/2) 3988292384=((x/2^^^3988292384:Nat):Int):=hxx;go_wp2
    go_round
    case rel=>exact⟨k+1,zo,by go_num,_,(by rw[<-HB];exact hn),rfl,by rw[Hid,Pl.Zo,HX.out,HB]⟩
    case measure=>simp[intOf];omega
   ·have ht:(bits .and .u32 (x:Int) 1==1)=false:=by rw[ha];simp;omega
    have HB:(Pl.uw x=x/2):=by simp[Hid,Pl.uw,amq]
    go_wp2
    go_round
    case rel=>exact⟨k+1,zo,by go_num,x/2,zo,by go_num,by rw[Hid,Pl.Zo,HX.out,HB]⟩
    case measure=>simp[intOf];omega
  ·obtain rfl:k=8:=zo;go_wp2;go_ret;exact⟨by rw[Pl.aep,HX.out];rfl,rfl⟩
theorem Mc(A:Option Addr)(aB:Nat)(l:List UInt8)(w:World)(hb:aw w A l)(hm:l.length<=9223372036854775807):
 bG 124 #[.slice A l.length aB] w λe w'=>e= .returned (.int .u32 (4294967295-Pl.nM l:Nat))/\w=w':=by
 go_enter Tryz.func124,Tryz.ntmps124;go_wp2
 go_loop [3,8] (λh i=>∃k:Nat,k<=l.length/\i= .int .i64 k/\h= .int .u32 (Pl.nM (l.take k))) (λ_ i=>l.length-(intOf i).toNat)
 case atStart=>exact⟨0,aM _,rfl,rfl⟩
 case round=>
  obtain⟨k,hk,rfl,rfl⟩:=hrel;have hlt:=Pl.abd (l.take k);by_cases Sa:k<l.length
  ·obtain⟨b,off,rfl,hc⟩:=hb.dm k Sa;have CC:(l[k].toNat:Int)<256:=zA (l[k].toNat_lt);have hx:=u32_xor_nat (Pl.nM (l.take k)) l[k].toNat hlt zo;have hn:=Co (n:=32) hlt (show l[k].toNat<2^32 by omega);go_wp2_with fail;refine(abf _ _ hn).mono ?_;rintro e w' ⟨rfl,rfl⟩;go_wp2
   go_round
   case rel=>refine⟨k+1,zo,by go_num,?_⟩;rw[yw l k Sa,Pl.P1];rfl
   case measure=>simp[intOf];omega
  ·have yX:k=l.length:=zo;subst yX;rw[gN]at hlt;simp only[gN];go_wp2;go_ret;exact⟨agv (afZ _ hlt),rfl⟩
def pF(aB:Nat):Obj:= .cells (bytesRow s aB) 5 ((bytesRow s aB).size,(bytesRow s aB).size+1)
theorem rZ:(convert 9 29 (.string s)).run Tryz.prog w= .ok (.slice (some ⟨w.heap.size,0,none⟩) s.size (grownCap w s.size 0 5)) (w.drew.alloc (pF s (grownCap w s.size 0 5))):=
 run_bytes_of_string w 9 29 5 s Tryz.underlying9 Tryz.underlying29 Tryz.underlying5
theorem sj{w:World}{g aB:Nat}{s:ByteArray}(h:w.heap[g]?=some (pF s aB)):aw w (some ⟨g,0,none⟩) s.data.toList:=by refine .inr ⟨g,0,rfl,λi hi=>?_⟩;have Pk:i<s.data.size:=zo;rw[bZ,mF w g i _ _ _ h,bytesRow_at s aB i Pk];simp
theorem mh(b:Bool)(w:World)(h:rL w g l bad):
 bG 122 #[.pointer (some ⟨g,0,none⟩),.bool b] w λe w'=>e= .returned (.tuple #[])/\rL w' g l (bad||!b)/\ag (·=g) w w':=by
 obtain⟨A,aB,hc,hm,hB,hb,hA⟩:=h;have hlt:=hB.lt;have c1:=hB.cell 1;have f1:=hB.frozen 1;simp only[au,aL]at c1;have ho:∀x:Value,ag (·=g) w (w.setCell ⟨g,1,none⟩ x):=λx=>(ag.refl (·=g) w).setCell (p:=⟨g,1,none⟩) (.inl rfl) x;have pA:∀x:Bool,rL (w.setCell ⟨g,1,none⟩ (.bool x)) g l x:=λx=>rL.put hlt (ho _) (hB.bw 1 (.bool x)) rfl hc hm hb hA;clear hB hb hA hc hm;cases bad with
 |true=>go_enter Tryz.func122,Tryz.ntmps122;go_wp2_with fail;go_end0;exact⟨rfl,pA true,ho _⟩
 |false=>
  cases b with
  |true=>go_enter Tryz.func122,Tryz.ntmps122;go_wp2_with fail;go_end0;exact⟨rfl,pA false,ho _⟩
  |false=>go_enter Tryz.func122,Tryz.ntmps122;go_wp2_with fail;go_end0;exact⟨rfl,pA true,ho _⟩
theorem WR:Pl.iy s.data.toList↔(1<=s.size/\s.size<=8)/\∀k (h:k<s.size),97<=s[k].toNat/\s[k].toNat<=122:=by
 unfold Pl.iy;have hl:s.data.toList.length=s.size:=by simp
 rw[hl];refine and_congr_right λ_=>⟨λh k hk=>h _ ?_,λh c hc=>?_⟩
 ·have:s[k]=s.data.toList[k]'zo:=rfl
  grind
 ·obtain⟨k,hk,rfl⟩:=List.getElem_of_mem hc;exact h k (by rw[<-hl];exact hk)
theorem AL(w:World)(hs:s.size<=140737488351232):
 bG 167 #[.string s] w λe w'=>e= .returned (.bool (decide (Pl.iy s.data.toList)))/\dP w w':=by
 have hd:∀b:Bool,(b=true↔(1<=s.size/\s.size<=8)/\∀k (h:k<s.size),97<=s[k].toNat/\s[k].toNat<=122)->decide (Pl.iy s.data.toList)=b:=by intro b hb;rw[qZ,hb,oP,WR]
 have HD:=zi hd;have hcv:=rZ w s;obtain⟨aB,fo⟩:=ze (grownCap w s.size 0 5);rw[fo]at hcv;obtain⟨w1,dj⟩:=ze (w.drew.alloc (pF s aB));rw[dj]at hcv;have aI:Below w.heap.size w w1:=by rw[<-dj];exact(ak _ _).drew.alloc (ai _) _
 have fJ:=zi aI;have tA:aw w1 (some ⟨w.heap.size,0,none⟩) s.data.toList:=sj (aB:=aB) (by rw[<-dj];exact heap_alloc_new w.drew _);have U9:=zi tA;clear hd aI tA fo dj;go_enter Tryz.func167,Tryz.ntmps167;go_wp2_with fail
 go_loopw [8] (λi W=>∃k:Nat,k<=s.size/\i= .int .i64 (k:Int)/\Hid (∀j (h:j<s.size),j<k->97<=s[j].toNat/\s[j].toNat<=122)/\w1=W) (λi _=>s.size-(intOf i).toNat)
 case atStart=>exact⟨0,aM _,rfl,λj _ h=>by omega,rfl⟩
 case round=>
  obtain⟨k,hk,rfl,HJ,rfl⟩:=hrel;by_cases TR:k<s.size
  ·obtain⟨c,hc⟩:=ze (s[k]);have HC:=zi hc;have cB:w1.cell? ⟨w.heap.size,k,none⟩=some (.int .u8 ((c.toNat:Nat):Int)):=by obtain⟨b,off,e,h9⟩:=U9.out.dm k (by simpa using TR);injection e with e;injection e with e1 e2 _;subst e1 e2;rw[bZ]at h9;rw[h9,<-hc];rfl
   have q1:((k:Nat):Int)<((s.size:Nat):Int):=zo;by_cases fu:c.toNat<97
   ·have q2:((c.toNat:Nat):Int)<97:=zo;have q3:decide (((c.toNat:Nat):Int)<97)=true:=aQ q2;obtain⟨yy,HK⟩:=dz fu TR;clear fu;go_wp2_with fail;go_ret;have hn:=HD.out false ⟨(λh=>by cases h),λh=>by
     have h5:=h.2 k HK.out;rw[HC.out]at h5;have h6:=yy.out;omega⟩
    exact⟨by rw[hn];rfl,fJ.out⟩
   ·have q2:¬((c.toNat:Nat):Int)<97:=zo;have q3:decide (((c.toNat:Nat):Int)<97)=false:=aH q2;by_cases hhi:122<c.toNat
    ·have q4:(122:Int)<((c.toNat:Nat):Int):=zo;have q5:decide ((122:Int)<((c.toNat:Nat):Int))=true:=aQ q4;obtain⟨HHI,HK⟩:=dz hhi TR;clear fu hhi;go_wp2_with fail;go_ret;have hn:=HD.out false ⟨(λh=>by cases h),λh=>by
      have h5:=h.2 k HK.out;rw[HC.out]at h5;have h6:=HHI.out;omega⟩
     exact⟨by rw[hn];rfl,fJ.out⟩
    ·have q4:¬(122:Int)<((c.toNat:Nat):Int):=zo;have q5:decide ((122:Int)<((c.toNat:Nat):Int))=false:=aH q4;have yy:Hid (97<=c.toNat/\c.toNat<=122):=by rw[Hid];omega
     clear fu hhi;go_wp2_with fail;refine⟨⟨k+1,zo,by go_num,λj hj hjk=>?_,by trivial⟩,by simp[intOf];omega⟩;by_cases atd:j<k
     ·exact HJ.out j hj atd
     ·obtain rfl:j=k:=zo;rw[HC.out];exact yy.out
  ·obtain rfl:k=s.size:=zo;by_cases h1:1<=s.size
   ·have p1:(1:Int)<=((s.size:Nat):Int):=zo;have p2:decide ((1:Int)<=((s.size:Nat):Int))=true:=aQ p1;by_cases h8:s.size<=8
    ·have p3:((s.size:Nat):Int)<=8:=zo;have p4:decide (((s.size:Nat):Int)<=8)=true:=aQ p3;go_wp2_with fail;go_ret;refine⟨by rw[HD.out true ⟨λ_=>⟨⟨h1,h8⟩,λj hj=>HJ.out j hj hj⟩,λ_=>rfl⟩];rfl,fJ.out⟩
    ·have p3:¬((s.size:Nat):Int)<=8:=zo;have p4:decide (((s.size:Nat):Int)<=8)=false:=aH p3;go_wp2_with fail;go_ret;refine⟨by rw[HD.out false ⟨(λh=>by cases h),λh=>absurd h.1.2 h8⟩];rfl,fJ.out⟩
   ·have p1:¬(1:Int)<=((s.size:Nat):Int):=zo;have p2:decide ((1:Int)<=((s.size:Nat):Int))=false:=aH p1;go_wp2_with fail;go_ret;refine⟨by rw[HD.out false ⟨(λh=>by cases h),λh=>absurd h.1.1 h1⟩];rfl,fJ.out⟩
def sig:Int:=if n<9223372036854775808 then(n:Int)else(n:Int)-18446744073709551616
def vlV(v:Pl.Vl):Value:= .agg #[.int .i64 (v.ty:Nat),.int .i64 (sig v.n),.string (ar v.s)]
theorem xY(ty:Int)(n:Int)(s:ByteArray)(w:World)(hs:s.size<=140737488351232):
 bG 245 #[.agg #[.int .i64 ty,.int .i64 n,.string s]] w λe w'=>e= .returned (.bool (if ty=1 then s.data.toList.isEmpty else if ty=2 then(decide (n=0)&&decide (s.size<=16))else false))/\dP w w':=by
 obtain⟨w1,dj,aI⟩:=zF w (.cells #[.int .i64 ty,.int .i64 n,.string s] 88);have B1:ay w1 w.heap.size 88 [.int .i64 ty,.int .i64 n,.string s]:=by rw[<-dj];exact ay.new w 88 _
 have c0:w1.cell? ⟨w.heap.size,0,none⟩=some (.int .i64 ty):=B1.cell 0;have c1:w1.cell? ⟨w.heap.size,1,none⟩=some (.int .i64 n):=B1.cell 1;have c2:w1.cell? ⟨w.heap.size,2,none⟩=some (.string s):=B1.cell 2;clear B1;by_cases h1:ty=1
 ·subst h1;rw[ah rfl];go_enter Tryz.func245,Tryz.ntmps245;go_wp2_with fail;go_ret;refine⟨?_,aI⟩;rw[<-Cb];rfl
 ·rw[aj h1];have q1:(ty==1)=false:=by simpa using h1
  by_cases h2:ty=2
  ·subst h2;rw[ah rfl];by_cases h3:n=0
   ·subst h3;have p3:decide (((s.size:Nat):Int)<=16)=decide (s.size<=16):=by rw[qZ,oP,oP];omega
    go_enter Tryz.func245,Tryz.ntmps245;go_wp2_with fail;go_ret;refine⟨?_,aI⟩;simp
   ·have q3:(n==0)=false:=by simpa using h3
    go_enter Tryz.func245,Tryz.ntmps245;go_wp2_with fail;go_ret;refine⟨?_,aI⟩;simp[h3]
  ·rw[aj h2];have q2:(ty==2)=false:=by simpa using h2
   go_enter Tryz.func245,Tryz.ntmps245;go_wp2_with fail;go_ret;exact⟨rfl,aI⟩
theorem SM(h:rL w g l bad):
 bG 125 #[.pointer (some ⟨g,0,none⟩),.int .i64 8] w λe w'=>e= .returned (.int .i64 (sig (Pl.num (l.take 8))))/\rL w' g (l.drop 8) (bad||decide (l.length<8))/\w.grownBy w' (some g):=by
 have hlt:=Pl.eN l 8;have hp8:(256:Nat)^8=18446744073709551616:=zj;rw[hp8]at hlt;have hl8:(l.take 8).length<=8:=by rw[aP];omega
 obtain⟨t,ht⟩:=ze (l.take 8);obtain⟨v,hv⟩:=ze (Pl.num t);rw[ht]at hl8 hlt|-
 rw[hv]at hlt|-
 have hw:IntKind.i64.wrap ((v:Nat):Int)=sig v:=by rw[IntKind.wrap_i64];unfold sig;split<;>omega
 go_enter Tryz.func125,Tryz.ntmps125;go_wp2_with fail;refine(De g 8 l bad w h zo).mono ?_;rintro e w1 ⟨A,rfl,hb,hA,hR,hg⟩;rw[ht]at hb|-
 go_wp2_with fail;refine(N1 A _ t w1 hb hl8).mono ?_;rintro e w' ⟨rfl,rfl⟩;rw[hv];go_wp2_with fail;go_ret;exact⟨rfl,hR,hg⟩
theorem zZ:Pl.tk n l=if l.length<n then none else some (l.take n,l.drop n):=by
 unfold Pl.tk
 grind
theorem LM:Pl.xR l=if l.length<1\/(l.drop 1).length<Pl.num (l.take 1)then none else some ((l.drop 1).take (Pl.num (l.take 1)),(l.drop 1).drop (Pl.num (l.take 1))):=by
 unfold Pl.xR;rw[zZ];by_cases h:l.length<1
 ·rw[ah h,ah (.inl h)];rfl
 ·rw[aj h];show Pl.tk (Pl.num (l.take 1)) (l.drop 1)=_;rw[zZ];by_cases h2:(l.drop 1).length<Pl.num (l.take 1)
  ·rw[ah h2,ah (.inr h2)]
  ·rw[aj h2,aj zo]
theorem adh:Pl.py l=if(l.length<1\/(l.drop 1).length<Pl.num (l.take 1))\/¬Pl.iy ((l.drop 1).take (Pl.num (l.take 1)))then none else some ((l.drop 1).take (Pl.num (l.take 1)),(l.drop 1).drop (Pl.num (l.take 1))):=by
 unfold Pl.py;rw[LM];by_cases h:l.length<1\/(l.drop 1).length<Pl.num (l.take 1)
 ·rw[ah h,ah (.inl h)];rfl
 ·rw[aj h];show(if Pl.iy _ then _ else _)=_;by_cases h2:Pl.iy ((l.drop 1).take (Pl.num (l.take 1)))
  ·rw[ah h2,aj zw]
  ·rw[aj h2,ah (.inr h2)]
def Rd{α:Type}(o:Option (α×List UInt8))(g:Nat)(bad:Bool)(x:α)(w w':World):Prop:=
 ∃l' rA,rL w' g l' rA/\rA=(bad||o.isNone)/\(∀y r,o=some (y,r)->x=y/\l'=r)/\ag (·=g) w w'
theorem Tj(h:rL w g l bad):
 bG 185 #[.pointer (some ⟨g,0,none⟩)] w λe w'=>∃nm,e= .returned (.string (ar nm))/\nm.length<=255/\Rd (Pl.py l) g bad nm w w':=by
 have hn:=Pl.eN l 1;have yV:=adh l;obtain⟨n,wM⟩:=ze (Pl.num (l.take 1));obtain⟨l1,l7⟩:=ze (l.drop 1);obtain⟨nm,pj⟩:=ze (l1.take n);have yY:=zi (sd g 1 l bad w h zo);rw[wM,l7]at yY yV;rw[wM]at hn;have kG:nm.length<=255:=by rw[<-pj,aP];omega
 rw[pj]at yV;have EX:(ar nm).data.toList=nm:=rfl;go_enter Tryz.func185,Tryz.ntmps185;go_wp2_with fail;refine yY.mono ?_;rintro e w1 ⟨rfl,Px,nY⟩;obtain⟨PA,EB⟩:=dz (De g n l1 _ w1 Px zo) (ag.jk nY);clear Px nY;go_wp2_with fail;refine PA.mono ?_;rintro e w2 ⟨A,rfl,bz,Kd,I5,rQ⟩;rw[pj]at bz;have kJ:=zi (EB.aE (ag.jk rQ));have hcv:=dQ w2 A nm nm.length bz;rw[pj];have HIS:=zi (AL (ar nm) w2 (by rw[bK];omega));clear bz Kd rQ;go_wp2_with fail;refine HIS.mono ?_;rintro e w3 ⟨rfl,bg⟩;obtain⟨Gm,rS⟩:=dz (mh g _ _ (decide (Pl.iy (ar nm).data.toList)) w3 (I5.aa bg)) (kJ.aa bg);clear bg hcv;go_wp2_with fail;refine Gm.mono ?_;rintro e w4 ⟨rfl,Dg,my⟩;have zQ:=zi (rS.aE my);clear my;go_wp2_with fail;go_ret;refine⟨nm,rfl,kG,_,_,Dg,?_,?_,zQ⟩
 ·rw[yV,EX];by_cases c1:l.length<1
  ·simp[c1]
  ·by_cases c2:l1.length<n
   ·simp[c2]
   ·by_cases c3:Pl.iy nm
    ·simp[c1,c2,c3]
    ·simp[c3]
 ·intro y r hy;rw[yV]at hy;split at hy
  ·cases hy
  ·injection hy with hy;injection hy with h1 h2;exact⟨h1,h2⟩
end Go.Proofs.YtbhpofdafhahgaaGreatDoor
