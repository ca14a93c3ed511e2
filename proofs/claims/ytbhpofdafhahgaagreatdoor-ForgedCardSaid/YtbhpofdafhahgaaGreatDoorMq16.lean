/- Part 16: PgX PgZ PiA PhA PhB PhC PhD PlainFree PhE. -/
import Derived.Maps.OwnSet
import Derived.Test.YtbhpofdafhahgaaGreatDoorMq15
set_option linter.all false
set_option maxHeartbeats 8000000
set_option maxRecDepth 100000
namespace Go.Proofs.YtbhpofdafhahgaaGreatDoor
open Go.RowKit
variable [Inhabited eH]
variable {w w' sL w0:World} {A:Option Addr} {ps:List Pl.Pr} {F:Nat->Prop} {n g go:Nat} {rd:Int} {G:Gh} {x:Pl.Any} {none_:Prop} {e:Ending} {k key:Pl.Key} {l:List UInt8}
variable (E:fe) (cg:Array Value) (W:World) (gt gk gv gT:Nat) (m:Tm) (rest:List Value) (vD:Value) (d:Pl.Dk)
theorem dn.at2(h:dn w A (bu ps) 399)(h0:0<ps.length):∃b off,A=some ⟨b,off,none⟩:=h.Jk (by
 intro e;have:=dL ps
 grind)
theorem Ks(ps:List Pl.Pr)(k:Nat)(hk:k<=ps.length):(bu ps).take (k*2)=bu (ps.take k):=by
 conv=>lhs;rw[<-di k ps,cZ]
 rw[ik (by rw[dL,aP,dt hk])]
theorem zK(ps:List Pl.Pr)(k:Nat)(hk:k<=ps.length):(bu ps).drop (k*2)=bu (ps.drop k):=by
 conv=>lhs;rw[<-di k ps,cZ]
 rw[ke (by rw[dL,aP,dt hk])]
def Cs(ps:List Pl.Pr)(k:Pl.Key):Nat:=if Pl.rD k ps then Pl.aR ps k+1 else Pl.aR ps k
theorem ZE(ps:List Pl.Pr)(k:Pl.Key):Pl.sK ps k=ps.drop (Cs ps k):=by
 unfold Pl.sK Cs Pl.rD
 grind
theorem Zl(ps:List Pl.Pr)(k:Pl.Key):Cs ps k<=ps.length:=by
 unfold Cs;split
 ·next h=>have:=Pl.YU h;omega
 ·exact Pl.qV ps k
theorem OX(args:Array Value)(W:World):(callFunc 320 args).run Tryz.prog W= .ok (.enter 320 args) W:=by simp[go_sem]
theorem aay(b:Nat)(k v:Pl.Key)(ps:List Pl.Pr)(w:World)(hk:ay w gk 9 [.string (ar k)])(hv:ay w gv 9 [.string (ar v)])(hl:fZ w b ps)(hn:ps.length<=500):
 bG 320 #[.pointer (some ⟨b,0,none⟩),.int .i64 (Pl.aR ps k:Nat),.bool (Pl.rD k ps),.pointer (some ⟨gk,0,none⟩),.pointer (some ⟨gv,0,none⟩)] w λe w'=>
  (∃A aB,e= .returned (.slice A (Pl.dN k v ps).length aB)/\dn w' A (bu (Pl.dN k v ps)) 399)/\dP w w':=by
 obtain⟨A,ca,hb,GJ,ht⟩:=hl;have aka:=Pl.qV ps k;have ajK:=Zl ps k;have hpu:Pl.dN k v ps=ps.take (Pl.aR ps k)++ [⟨k,v⟩]++ps.drop (Cs ps k):=by rw[Pl.CP,ZE];simp
 have Zs:Cs ps k=if Pl.rD k ps then Pl.aR ps k+1 else Pl.aR ps k:=rfl
 rw[hpu];obtain⟨n,kG⟩:=ze ps.length;obtain⟨i,hi⟩:=ze (Pl.aR ps k);obtain⟨j,hj⟩:=ze (Cs ps k);obtain⟨B,hB⟩:=ze (Pl.rD k ps);rw[hi,hj,hB]at Zs;rw[hi,hj,hB];rw[kG]at aka ajK hn GJ;rw[hi]at aka;rw[hj]at ajK;obtain⟨HB,HK,HV,HN⟩:=yx (show ay w b 346 [.slice A n ca] by rw[<-kG];exact hb) hk hv kG;have PA:Hid (∀W,Below w.heap.size w W->Src W A (bu (ps.take i))):=λW hW=>by have:=((ht.aa hW).take (i*2)).1;rw[Ks ps i zo]at this;exact this
 have HTD:Hid (∀(W:World) (b0 o0:Nat),Below w.heap.size w W->A=some ⟨b0,o0,none⟩->Src W (some ⟨b0,o0+j*2,none⟩) (bu (ps.drop j))):=λW b0 o0 hW hA=>by have h1:=ht.aa hW;rw[hA]at h1;have:=(h1.drop (j*2)).1;rw[zK ps j zo]at this;exact this
 have tG:Hid (i<=n/\j<=n/\n<=500/\n<=ca):=⟨aka,ajK,hn,GJ⟩;obtain⟨c0,_⟩:=bP HB;obtain⟨d0,_⟩:=bP hk;obtain⟨e0,_⟩:=bP hv;have q1:(i:Int)<=(n:Int):=zo;have q2:(i:Int)<=(ca:Int):=zo;have q3:(n:Int)<=(ca:Int):=zo;clear hb hk hv kG hi hj hB hpu;by_cases Ue:n=0
 ·have vS:ps=[]:=Hw.1 (by rw[HN.out];exact Ue);subst Ue;obtain rfl:i=0:=zo;obtain rfl:j=0:=zo;have hB:B=false:=by
   cases B with
   |false=>rfl
   |true=>rw[ah rfl]at Zs;omega
  subst hB;have Pn:Hid (∀(W:World) (A:Option Addr),Src W A (bu (ps.drop 0))):=λW A=> .inl (by rw[vS];rfl);clear vS Zs;rcases A with _|a
  all_goals
   by_cases fo:ca=0
   ·subst fo;go_enter Tryz.func320,Tryz.ntmps320;go_wp2_with (first
     |(at_builtin
       refine du Tryz.gn rfl (.const (.slice none 0 0)) (.tmp 15) rfl rfl (Rw.nil w w.heap.size) _ 0 _ (bu (ps.take 0)) rfl (by rw[dL,aP,HN.out,dt (zA tG.out)]) (PA.out w (ak _ _)) (dp _) (zA tG.out) (ai _) ?_;intro v1 w1 r1 m1;rw[bZ,aX]at r1;obtain⟨R1,fJ⟩:=dz r1 (Mv.fresh m1);obtain⟨Av1,cv1,rfl,_,_,_⟩:=r1.eo;obtain⟨d0,_⟩:=bP (HK.out.aa fJ.out HK.out.lt);obtain⟨e0,_⟩:=bP (HV.out.aa fJ.out HV.out.lt);obtain⟨c0,_⟩:=bP (HB.out.aa fJ.out HB.out.lt);obtain⟨gs,ui⟩:=ze w1.heap.size;obtain⟨w2,iA,bz⟩:=zF w1 (.cells #[.string (ar k),.string (ar v)] 399);have sZ:Hid (Src w2 (some ⟨gs,0,none⟩) (bu [⟨k,v⟩])):=by rw[<-iA,<-ui];exact pB w1 ⟨k,v⟩
       obtain⟨R2,eY⟩:=dz (R1.out.aa bz) (fJ.out.trans (bz.mono fJ.out.size));clear r1 m1 bz)
     |(at_builtin
       refine du Tryz.gn rfl (.tmp 17) (.tmp 21) rfl rfl R2.out (some ⟨gs,0,none⟩) 1 1 (bu [⟨k,v⟩]) rfl rfl sZ.out (dp _) (zA tG.out) eY.out.size ?_;intro v3 w3 r3 m3;have R3:=zi r3;obtain⟨Av3,cv3,rfl,_,_,_⟩:=r3.eo;have eI:=zi (Mv.since eY.out R2.out m3);obtain⟨c0,_⟩:=bP (HB.out.aa eI.out HB.out.lt);clear r3 m3)
     |(at_builtin
       refine du Tryz.gn rfl (.tmp 26) (.tmp 32) rfl rfl R3.out _ (0-0) _ (bu (ps.drop 0)) rfl (by rw[dL,bT,HN.out]) (Pn.out _ _) (dp _) (zA tG.out) eI.out.size ?_;intro v4 w4 r4 m4;obtain⟨R4,ib⟩:=dz r4 (Mv.since eI.out R3.out m4);clear r4 m4)
     |fail)
    go_ret;obtain⟨A4,qi,e4,_,h4,_⟩:=R4.eo;rw[<-cZ,<-cZ]at h4;have bU:(ps.take 0++ [(⟨k,v⟩:Pl.Pr)]++ps.drop 0).length=0+1+(0-0):=by rw[ax,ax,aP,bT,HN.out,dt (zA tG.out)];rfl
    rw[bU];exact⟨⟨A4,qi,by show Ending.returned v4=_;rw[e4],h4⟩,ib.out⟩
   ·have X5:0<ca:=zo;go_enter Tryz.func320,Tryz.ntmps320;go_wp2_with (first
     |(at_builtin
       refine du Tryz.gn rfl (.const (.slice none 0 0)) (.tmp 15) rfl rfl (Rw.nil w w.heap.size) _ 0 _ (bu (ps.take 0)) rfl (by rw[dL,aP,HN.out,dt (zA tG.out)]) (PA.out w (ak _ _)) (dp _) (zA tG.out) (ai _) ?_;intro v1 w1 r1 m1;rw[bZ,aX]at r1;obtain⟨R1,fJ⟩:=dz r1 (Mv.fresh m1);obtain⟨Av1,cv1,rfl,_,_,_⟩:=r1.eo;obtain⟨d0,_⟩:=bP (HK.out.aa fJ.out HK.out.lt);obtain⟨e0,_⟩:=bP (HV.out.aa fJ.out HV.out.lt);obtain⟨c0,_⟩:=bP (HB.out.aa fJ.out HB.out.lt);obtain⟨gs,ui⟩:=ze w1.heap.size;obtain⟨w2,iA,bz⟩:=zF w1 (.cells #[.string (ar k),.string (ar v)] 399);have sZ:Hid (Src w2 (some ⟨gs,0,none⟩) (bu [⟨k,v⟩])):=by rw[<-iA,<-ui];exact pB w1 ⟨k,v⟩
       obtain⟨R2,eY⟩:=dz (R1.out.aa bz) (fJ.out.trans (bz.mono fJ.out.size));clear r1 m1 bz)
     |(at_builtin
       refine du Tryz.gn rfl (.tmp 17) (.tmp 21) rfl rfl R2.out (some ⟨gs,0,none⟩) 1 1 (bu [⟨k,v⟩]) rfl rfl sZ.out (dp _) (zA tG.out) eY.out.size ?_;intro v3 w3 r3 m3;have R3:=zi r3;obtain⟨Av3,cv3,rfl,_,_,_⟩:=r3.eo;have eI:=zi (Mv.since eY.out R2.out m3);obtain⟨c0,_⟩:=bP (HB.out.aa eI.out HB.out.lt);clear r3 m3)
     |(at_builtin
       refine du Tryz.gn rfl (.tmp 26) (.tmp 32) rfl rfl R3.out _ (0-0) _ (bu (ps.drop 0)) rfl (by rw[dL,bT,HN.out]) (Pn.out _ _) (dp _) (zA tG.out) eI.out.size ?_;intro v4 w4 r4 m4;obtain⟨R4,ib⟩:=dz r4 (Mv.since eI.out R3.out m4);clear r4 m4)
     |fail)
    go_ret;obtain⟨A4,qi,e4,_,h4,_⟩:=R4.eo;rw[<-cZ,<-cZ]at h4;have bU:(ps.take 0++ [(⟨k,v⟩:Pl.Pr)]++ps.drop 0).length=0+1+(0-0):=by rw[ax,ax,aP,bT,HN.out,dt (zA tG.out)];rfl
    rw[bU];exact⟨⟨A4,qi,by show Ending.returned v4=_;rw[e4],h4⟩,ib.out⟩
 ·obtain⟨b0,o0,rfl⟩:=ht.at2 (by rw[HN.out];omega);cases B with
  |true=>
   rw[ah rfl]at Zs;subst Zs;have q5:(i:Int)+1<=(n:Int):=zo;have q6:(i:Int)+1<=(ca:Int):=zo;by_cases fo:ca=i+1
   ·have Pn:Hid (∀(W:World) (A:Option Addr),Src W A (bu (ps.drop (i+1)))):=λW A=> .inl (by
     rw[nd.2 (by rw[HN.out];omega)];rfl)
    have q7:(n:Int)<=(i:Int)+1:=zo;subst fo;go_enter Tryz.func320,Tryz.ntmps320;go_wp2_with (first
     |(at_builtin
       refine du Tryz.gn rfl (.const (.slice none 0 0)) (.tmp 15) rfl rfl (Rw.nil w w.heap.size) _ i _ (bu (ps.take i)) rfl (by rw[dL,aP,HN.out,dt (zA tG.out)]) (PA.out w (ak _ _)) (dp _) (zA tG.out) (ai _) ?_;intro v1 w1 r1 m1;rw[bZ,aX]at r1;obtain⟨R1,fJ⟩:=dz r1 (Mv.fresh m1);obtain⟨Av1,cv1,rfl,_,_,_⟩:=r1.eo;obtain⟨d0,_⟩:=bP (HK.out.aa fJ.out HK.out.lt);obtain⟨e0,_⟩:=bP (HV.out.aa fJ.out HV.out.lt);obtain⟨c0,_⟩:=bP (HB.out.aa fJ.out HB.out.lt);obtain⟨gs,ui⟩:=ze w1.heap.size;obtain⟨w2,iA,bz⟩:=zF w1 (.cells #[.string (ar k),.string (ar v)] 399);have sZ:Hid (Src w2 (some ⟨gs,0,none⟩) (bu [⟨k,v⟩])):=by rw[<-iA,<-ui];exact pB w1 ⟨k,v⟩
       obtain⟨R2,eY⟩:=dz (R1.out.aa bz) (fJ.out.trans (bz.mono fJ.out.size));clear r1 m1 bz)
     |(at_builtin
       refine du Tryz.gn rfl (.tmp 17) (.tmp 21) rfl rfl R2.out (some ⟨gs,0,none⟩) 1 1 (bu [⟨k,v⟩]) rfl rfl sZ.out (dp _) (zA tG.out) eY.out.size ?_;intro v3 w3 r3 m3;have R3:=zi r3;obtain⟨Av3,cv3,rfl,_,_,_⟩:=r3.eo;have eI:=zi (Mv.since eY.out R2.out m3);obtain⟨c0,_⟩:=bP (HB.out.aa eI.out HB.out.lt);clear r3 m3)
     |(at_builtin
       refine du Tryz.gn rfl (.tmp 26) (.tmp 32) rfl rfl R3.out _ 0 _ (bu (ps.drop (i+1))) rfl (by rw[dL,bT,HN.out];have:=tG.out;omega) (Pn.out _ _) (dp _) (zA tG.out) eI.out.size ?_;intro v4 w4 r4 m4;obtain⟨R4,ib⟩:=dz r4 (Mv.since eI.out R3.out m4);clear r4 m4)
     |fail)
    go_ret;obtain⟨A4,qi,e4,_,h4,_⟩:=R4.eo;rw[<-cZ,<-cZ]at h4;have bU:(ps.take i++ [(⟨k,v⟩:Pl.Pr)]++ps.drop (i+1)).length=i+1+0:=by rw[ax,ax,aP,bT,HN.out,dt (zA tG.out),dy];have:=tG.out;omega
    rw[bU];exact⟨⟨A4,qi,by show Ending.returned v4=_;rw[e4],h4⟩,ib.out⟩
   ·go_enter Tryz.func320,Tryz.ntmps320;go_wp2_with (first
     |(at_builtin
       refine du Tryz.gn rfl (.const (.slice none 0 0)) (.tmp 15) rfl rfl (Rw.nil w w.heap.size) _ i _ (bu (ps.take i)) rfl (by rw[dL,aP,HN.out,dt (zA tG.out)]) (PA.out w (ak _ _)) (dp _) (zA tG.out) (ai _) ?_;intro v1 w1 r1 m1;rw[bZ,aX]at r1;obtain⟨R1,fJ⟩:=dz r1 (Mv.fresh m1);obtain⟨Av1,cv1,rfl,_,_,_⟩:=r1.eo;obtain⟨d0,_⟩:=bP (HK.out.aa fJ.out HK.out.lt);obtain⟨e0,_⟩:=bP (HV.out.aa fJ.out HV.out.lt);obtain⟨c0,_⟩:=bP (HB.out.aa fJ.out HB.out.lt);obtain⟨gs,ui⟩:=ze w1.heap.size;obtain⟨w2,iA,bz⟩:=zF w1 (.cells #[.string (ar k),.string (ar v)] 399);have sZ:Hid (Src w2 (some ⟨gs,0,none⟩) (bu [⟨k,v⟩])):=by rw[<-iA,<-ui];exact pB w1 ⟨k,v⟩
       obtain⟨R2,eY⟩:=dz (R1.out.aa bz) (fJ.out.trans (bz.mono fJ.out.size));clear r1 m1 bz)
     |(at_builtin
       refine du Tryz.gn rfl (.tmp 17) (.tmp 21) rfl rfl R2.out (some ⟨gs,0,none⟩) 1 1 (bu [⟨k,v⟩]) rfl rfl sZ.out (dp _) (zA tG.out) eY.out.size ?_;intro v3 w3 r3 m3;have R3:=zi r3;obtain⟨Av3,cv3,rfl,_,_,_⟩:=r3.eo;have eI:=zi (Mv.since eY.out R2.out m3);obtain⟨c0,_⟩:=bP (HB.out.aa eI.out HB.out.lt);clear r3 m3)
     |(at_builtin
       refine du Tryz.gn rfl (.tmp 26) (.tmp 32) rfl rfl R3.out _ (n-(i+1)) _ (bu (ps.drop (i+1))) rfl (by rw[dL,bT,HN.out]) (HTD.out _ b0 o0 eI.out rfl) (dp _) (zA tG.out) eI.out.size ?_;intro v4 w4 r4 m4;obtain⟨R4,ib⟩:=dz r4 (Mv.since eI.out R3.out m4);clear r4 m4)
     |fail)
    go_ret;obtain⟨A4,qi,e4,_,h4,_⟩:=R4.eo;rw[<-cZ,<-cZ]at h4;have bU:(ps.take i++ [(⟨k,v⟩:Pl.Pr)]++ps.drop (i+1)).length=i+1+(n-(i+1)):=by rw[ax,ax,aP,bT,HN.out,dt (zA tG.out)];rfl
    rw[bU];exact⟨⟨A4,qi,by show Ending.returned v4=_;rw[e4],h4⟩,ib.out⟩
  |false=>
   rw[aj zj]at Zs;subst Zs;by_cases fo:ca=j
   ·have Pn:Hid (∀(W:World) (A:Option Addr),Src W A (bu (ps.drop j))):=λW A=> .inl (by
     rw[nd.2 (by rw[HN.out];omega)];rfl)
    subst fo;go_enter Tryz.func320,Tryz.ntmps320;go_wp2_with (first
     |(at_builtin
       refine du Tryz.gn rfl (.const (.slice none 0 0)) (.tmp 15) rfl rfl (Rw.nil w w.heap.size) _ ca _ (bu (ps.take ca)) rfl (by rw[dL,aP,HN.out,dt (zA tG.out)]) (PA.out w (ak _ _)) (dp _) (zA tG.out) (ai _) ?_;intro v1 w1 r1 m1;rw[bZ,aX]at r1;obtain⟨R1,fJ⟩:=dz r1 (Mv.fresh m1);obtain⟨Av1,cv1,rfl,_,_,_⟩:=r1.eo;obtain⟨d0,_⟩:=bP (HK.out.aa fJ.out HK.out.lt);obtain⟨e0,_⟩:=bP (HV.out.aa fJ.out HV.out.lt);obtain⟨c0,_⟩:=bP (HB.out.aa fJ.out HB.out.lt);obtain⟨gs,ui⟩:=ze w1.heap.size;obtain⟨w2,iA,bz⟩:=zF w1 (.cells #[.string (ar k),.string (ar v)] 399);have sZ:Hid (Src w2 (some ⟨gs,0,none⟩) (bu [⟨k,v⟩])):=by rw[<-iA,<-ui];exact pB w1 ⟨k,v⟩
       obtain⟨R2,eY⟩:=dz (R1.out.aa bz) (fJ.out.trans (bz.mono fJ.out.size));clear r1 m1 bz)
     |(at_builtin
       refine du Tryz.gn rfl (.tmp 17) (.tmp 21) rfl rfl R2.out (some ⟨gs,0,none⟩) 1 1 (bu [⟨k,v⟩]) rfl rfl sZ.out (dp _) (zA tG.out) eY.out.size ?_;intro v3 w3 r3 m3;have R3:=zi r3;obtain⟨Av3,cv3,rfl,_,_,_⟩:=r3.eo;have eI:=zi (Mv.since eY.out R2.out m3);obtain⟨c0,_⟩:=bP (HB.out.aa eI.out HB.out.lt);clear r3 m3)
     |(at_builtin
       refine du Tryz.gn rfl (.tmp 26) (.tmp 32) rfl rfl R3.out _ 0 _ (bu (ps.drop ca)) rfl (by rw[dL,bT,HN.out];have:=tG.out;omega) (Pn.out _ _) (dp _) (zA tG.out) eI.out.size ?_;intro v4 w4 r4 m4;obtain⟨R4,ib⟩:=dz r4 (Mv.since eI.out R3.out m4);clear r4 m4)
     |fail)
    go_ret;obtain⟨A4,qi,e4,_,h4,_⟩:=R4.eo;rw[<-cZ,<-cZ]at h4;have bU:(ps.take ca++ [(⟨k,v⟩:Pl.Pr)]++ps.drop ca).length=ca+1+0:=by rw[ax,ax,aP,bT,HN.out,dt (zA tG.out),dy];have:=tG.out;omega
    rw[bU];exact⟨⟨A4,qi,by show Ending.returned v4=_;rw[e4],h4⟩,ib.out⟩
   ·go_enter Tryz.func320,Tryz.ntmps320;go_wp2_with (first
     |(at_builtin
       refine du Tryz.gn rfl (.const (.slice none 0 0)) (.tmp 15) rfl rfl (Rw.nil w w.heap.size) _ j _ (bu (ps.take j)) rfl (by rw[dL,aP,HN.out,dt (zA tG.out)]) (PA.out w (ak _ _)) (dp _) (zA tG.out) (ai _) ?_;intro v1 w1 r1 m1;rw[bZ,aX]at r1;obtain⟨R1,fJ⟩:=dz r1 (Mv.fresh m1);obtain⟨Av1,cv1,rfl,_,_,_⟩:=r1.eo;obtain⟨d0,_⟩:=bP (HK.out.aa fJ.out HK.out.lt);obtain⟨e0,_⟩:=bP (HV.out.aa fJ.out HV.out.lt);obtain⟨c0,_⟩:=bP (HB.out.aa fJ.out HB.out.lt);obtain⟨gs,ui⟩:=ze w1.heap.size;obtain⟨w2,iA,bz⟩:=zF w1 (.cells #[.string (ar k),.string (ar v)] 399);have sZ:Hid (Src w2 (some ⟨gs,0,none⟩) (bu [⟨k,v⟩])):=by rw[<-iA,<-ui];exact pB w1 ⟨k,v⟩
       obtain⟨R2,eY⟩:=dz (R1.out.aa bz) (fJ.out.trans (bz.mono fJ.out.size));clear r1 m1 bz)
     |(at_builtin
       refine du Tryz.gn rfl (.tmp 17) (.tmp 21) rfl rfl R2.out (some ⟨gs,0,none⟩) 1 1 (bu [⟨k,v⟩]) rfl rfl sZ.out (dp _) (zA tG.out) eY.out.size ?_;intro v3 w3 r3 m3;have R3:=zi r3;obtain⟨Av3,cv3,rfl,_,_,_⟩:=r3.eo;have eI:=zi (Mv.since eY.out R2.out m3);obtain⟨c0,_⟩:=bP (HB.out.aa eI.out HB.out.lt);clear r3 m3)
     |(at_builtin
       refine du Tryz.gn rfl (.tmp 26) (.tmp 32) rfl rfl R3.out _ (n-j) _ (bu (ps.drop j)) rfl (by rw[dL,bT,HN.out]) (HTD.out _ b0 o0 eI.out rfl) (dp _) (zA tG.out) eI.out.size ?_;intro v4 w4 r4 m4;obtain⟨R4,ib⟩:=dz r4 (Mv.since eI.out R3.out m4);clear r4 m4)
     |fail)
    go_ret;obtain⟨A4,qi,e4,_,h4,_⟩:=R4.eo;rw[<-cZ,<-cZ]at h4;have bU:(ps.take j++ [(⟨k,v⟩:Pl.Pr)]++ps.drop j).length=j+1+(n-j):=by rw[ax,ax,aP,bT,HN.out,dt (zA tG.out)];rfl
    rw[bU];exact⟨⟨A4,qi,by show Ending.returned v4=_;rw[e4],h4⟩,ib.out⟩
theorem Ow(K:FuncId)(cg:Array Value)(w:World)(h:ny w gT m)(hb:m.bad=false)(Q:Nat->World->Prop)(hK:∀W,(callFunc K cg).run Tryz.prog W= .ok (.enter K cg) W)
 (hQ:∀k w',Q k w'->∃c0 c1 c2 c3 c4 c5 c6,ay w' gT 242 [c0,c1,c2,c3,c4,c5,c6,.bool false])
 (hc:bG K cg (w.alloc (.cells #[.nilIface] 73)) λe w'=>ay w' w.heap.size 73 [.nilIface]/\∃k,Xt k e/\Q k w'):
 bG 202 #[.pointer (some ⟨gT,0,none⟩),.func (.func K) #[] cg] w λe sL=>∃k w',Q k w'/\e= .returned (oT k)/\ag (λb=>b=w.heap.size\/b=gT) w' sL/\
  ∀c0 c1 c2 c3 c4 c5 c6 c7,ay w' gT 242 [c0,c1,c2,c3,c4,c5,c6,c7]->ay sL gT 242 [c0,c1,c2,c3,c4,c5,c6,.bool (k==3)]:=by
 obtain⟨a0,a1,a2,a3,a4,a5,a6,a7,af⟩:=VD h;rw[hb]at a7;have hlt:=h.lt;have HG:=ER K cg w Q hK hc;go_enter Tryz.func202,Tryz.ntmps202;go_wp2_with fail;refine HG.mono ?_;rintro e w2 ⟨k,w1,hk,hq,pQ,rfl⟩;obtain⟨c0,c1,c2,c3,c4,c5,c6,hB⟩:=hQ k w1 hq;have EC:=pQ.aC hB (λe=>by have:=hlt;omega);have HE:=lz w2 k;have f7:=EC.frozen 7;have d7:=EC.cell 7;simp only[au,aL]at d7;obtain⟨ev,yR⟩:=ze (oT k);rw[yR]at HE|-
 obtain⟨q,hqk⟩:=ze (((k:Int)==3));go_wp2_with fail;refine(Vi ev k ⟨#[]⟩ 3 w2 HE zo).mono ?_;rintro e w' ⟨rfl,rfl⟩;rw[hqk];have hqq:(k==3)=q:=by
  rw[<-hqk];by_cases h3:k=3
  ·subst h3;rfl
  ·rw[b9.2 h3,b9.2 zo]
 cases q
 ·go_wp2_with fail;go_ret;refine⟨k,w1,hq,by rw[yR];rfl,pQ.mono (λ_ _ h=> .inl h),?_⟩;intro x0 x1 x2 x3 x4 x5 x6 x7 hx;have hu:=(hx.cell 7).symm.trans (hB.cell 7);simp only[au,aL,uH]at hu;subst hu;rw[hqq];exact pQ.aC hx (λe=>by have:=hlt;omega)
 ·go_wp2_with fail;go_ret;refine⟨k,w1,hq,by rw[yR];rfl,?_,?_⟩
  ·exact(pQ.mono (λ_ _ h=> .inl h)).setCell (p:=⟨gT,7,none⟩) (.inl (.inr rfl)) _
  ·intro x0 x1 x2 x3 x4 x5 x6 x7 hx;rw[hqq];exact(pQ.aC hx (λe=>by have:=hlt;omega)).bw 7 (.bool true)
theorem F5.since{gT:Nat}{a b:World}(h:F5 gT w a)(k:ag F a b)(hF:∀x,x<w.heap.size->F x->x=gT/\Zn x)(hT:jh w gT 242):F5 gT w b:=by
 obtain⟨F',h1,h2⟩:=h.only;refine⟨⟨λx=>F' x\/(x<w.heap.size/\F x),(h1.mono zS).trans k zS,?_⟩,λp s hp hs hc=>k.cell (h.ev p s hp hs hc) (λhf=>hp (hF _ (dC _ _ hc) hf).1),h.low.trans k zS,λr x v hr=>by
  obtain⟨v',e1,e2⟩:=h.refs r x v hr;refine⟨v',k.aC e1 (λhf=>?_),e2⟩;have e3:=(hF r hr.lt hf).1;subst e3;exact absurd (hr.dV.dv hT) zj⟩
 rintro x (hx|⟨hx,hf⟩)
 ·exact h2 x hx
 grind
def ChQ(n:Nat)(rd:Int)(G:Gh)(x:Pl.Any)(none_:Prop)(b:Bool)(w:World)(k:Nat)(w':World):Prop:=
 F5 E.gT w w'/\((k=0/\∃G' cO r' fr,TW (E.to r') w' cO G'/\Ext G G'/\G' r'=some x/\yo w' x.1 x.2 r' fr/\fr+E.m.ej+2<=E.m.n/\tF n rd cO/\¬none_)
 \/(k=5/\∃G' cO fr,TW E w' cO G'/\Ext G G'/\tF n rd cO/\fr<=Pl.GI x.1 x.2/\E.m.n<fr+E.m.ej+2/\¬none_)
 \/(k=3/\E.d.aW=0/\(∃cO,aJ w' E.m.g E.vD E.d cO)/\ny w' E.gT {E.m with bad:=b})
 \/(k=8/\none_/\∃G' cO,TW E w' cO G'/\Ext G G'/\tF n rd cO))
theorem Tm.eta{m:Tm}(h:m.bad=false):{m with bad:=false}=m:=by obtain⟨a,b,c,d,e,f,g,i⟩:=m;grind
theorem OJ.q{E:fe}(hb:E.m.bad=false)(h:OJ E n rd G x none_ w e w'):∃k,Xt k e/\ChQ E n rd G x none_ false w k w':=by
 rcases h with⟨G',cO,r',fr,rfl,h1,h2,h3,h4,h5,h6,h7⟩|⟨G',cO,fr,rfl,h1,h2,h3,h4,h5,h6⟩|⟨h1,rfl,h2,h3,h4⟩|⟨h0,rfl,G',cO,h1,h2,h3,h4⟩
 ·exact⟨0,.inl ⟨rfl,rfl⟩,h6,.inl zw⟩
 ·exact⟨5,.inr ⟨zo,zo,rfl⟩,h3,.inr (.inl ⟨rfl,G',cO,fr,h1,h2,h4,h5,h6⟩)⟩
 ·exact⟨3,.inr ⟨zo,zo,rfl⟩,h3,.inr (.inr (.inl ⟨rfl,h1,h2,by rw[Tm.eta hb];exact h4⟩))⟩
 ·exact⟨8,.inr ⟨zo,zo,rfl⟩,h3,.inr zw⟩
theorem ChQ.tree{E:fe}{n:Nat}{rd:Int}{G:Gh}{x:Pl.Any}{none_:Prop}{w:World}{k:Nat}{w':World}(hb:E.m.bad=false)(h:ChQ E n rd G x none_ false w k w'):∃m:Tm,m.bad=false/\ny w' E.gT m:=by
 obtain⟨_,⟨_,G',cO,r',fr,h1,_⟩|⟨_,G',cO,fr,h1,_⟩|⟨_,_,_,h1⟩|⟨_,_,G',cO,h1,_⟩⟩:=h
 ·exact⟨(E.to r').m,hb,h1.tree⟩
 ·exact⟨_,hb,h1.tree⟩
 ·grind
 ·exact⟨_,hb,h1.tree⟩
theorem TW.do{E:fe}(h:TW E w rd G)(ho:ag F w w')(hk:bR F w [73,242])(ht:ny w' E.gT E.m):TW E w' rd G:=
 ⟨ht,h.gq.iC ho hk zj zj,h.inv.only ho hk zj zj,h.aA,h.low,ao h.aq ho.size⟩
theorem ChQ.done{E:fe}{k:Nat}(hT:ny w E.gT E.m)(fu:Zn E.gT)(hb:E.m.bad=false)(he:ay w' w.heap.size 73 [.nilIface])(h:ChQ E n rd G x none_ false (w.alloc (.cells #[.nilIface] 73)) k w')
 (ho:ag (λb=>b=w.heap.size\/b=E.gT) w' sL) (ht:∀c0 c1 c2 c3 c4 c5 c6 c7,ay w' E.gT 242 [c0,c1,c2,c3,c4,c5,c6,c7]->ay sL E.gT 242 [c0,c1,c2,c3,c4,c5,c6,.bool (k==3)]):ChQ E n rd G x none_ true w k sL:=by
 obtain⟨m,hm,hmt⟩:=h.tree hb;have hk:bR (λb=>b=w.heap.size\/b=E.gT) w' [73,242]:=by
  rintro b (rfl|rfl)
  ·exact⟨_,zu,he.dV⟩
  ·exact⟨_,zu,hmt.dV⟩
 have fK:Below w.heap.size w (w.alloc (.cells #[.nilIface] 73)):=(ak _ _).alloc zo _;have XJ:∀m':Tm,ny w' E.gT m'->ny sL E.gT {m' with bad:=(k==3)}:=λm' hm'=>ht _ _ _ _ _ _ _ _ hm';obtain⟨h0,h1⟩:=h;refine⟨((iu.ae fK).Q4.trans h0).since ho (λx hx hf=>by grind) hT.dV,?_⟩;rcases h1 with⟨rfl,G',cO,r',fr,h1,h2,h3,h4,h5,h6⟩|⟨rfl,G',cO,fr,h1,h2⟩|⟨rfl,h1,⟨cO,h2⟩,h3⟩|⟨rfl,h0',G',cO,h1,h2⟩
 ·refine .inl ⟨rfl,G',cO,r',fr,h1.do ho hk ?_,h2,h3,h4.only ho hk zj zj,h5,h6⟩;have:=XJ _ h1.tree;rwa [show((0:Nat)==3)=false from rfl,Tm.eta (m:=(E.to r').m) hb]at this
 ·refine .inr (.inl ⟨rfl,G',cO,fr,h1.do ho hk ?_,h2⟩);have:=XJ _ h1.tree;rwa [show((5:Nat)==3)=false from rfl,Tm.eta hb]at this
 ·exact .inr (.inr (.inl ⟨rfl,h1,⟨cO,h2.iC ho hk zj zj⟩,zw⟩))
 ·refine .inr (.inr (.inr ⟨rfl,h0',G',cO,h1.do ho hk ?_,h2⟩));have:=XJ _ h1.tree;rwa [show((8:Nat)==3)=false from rfl,Tm.eta hb]at this
theorem abP(key v:Pl.Key)(tE:Pl.ey key)(hvf:v.length<=100)(hn:E.m.n<=4096)(Mf:E.m.ej<=4096)(h:Nat)(t:Pl.Tr h)(w:World)(rd:Int)(G:Gh)(hw:TW E w rd G)(hG:G E.m.root=some ⟨h,t⟩)(gP:Pl.ix ⟨h,t⟩)(hh:h<=62)
 (UM:Pl.GI (Pl.iB (Pl.dN key v) key ⟨h,t⟩).1 (Pl.iB (Pl.dN key v) key ⟨h,t⟩).2<=50000) (yR:pz w)
 (ht:ay w gt 140 [.pointer (some ⟨E.gT,0,none⟩)]) (hk:ay w gk 9 [.string (ar key)]) (hv:ay w gv 9 [.string (ar v)]):
 bG 319 #[.pointer (some ⟨gt,0,none⟩),.pointer (some ⟨gk,0,none⟩),.pointer (some ⟨gv,0,none⟩)] w (OJ E (2*(h+1)) rd G (Pl.iB (Pl.dN key v) key ⟨h,t⟩) False w):=by
 have JJ:=zf Tryz.prog
 have HC:=(Ur E 320 #[.pointer (some ⟨gk,0,none⟩),.pointer (some ⟨gv,0,none⟩)] (Pl.dN key v) (λ_=>False) key OX (λps hp=>Pl.Tp tE hvf hp) hn Mf h t w rd G hw hG gP hh UM
  (λW b ps hW hl hr=>(aay gk gv b key v ps W (hW.aC hk zj zj) (hW.aC hv zj zj) hl (zC (iP ps) hr.1)).mono (λe w' hq=>⟨.inl (by obtain⟨A,aB,e1,e2⟩:=hq.1;exact⟨A,aB,e1,e2,λh=>h⟩),hq.2⟩)) yR)
 have c0:w.cell? ⟨gt,0,none⟩=some (.pointer (some ⟨E.gT,0,none⟩)):=ht.cell 0;have c1:w.cell? ⟨gk,0,none⟩=some (.string (ar key)):=hk.cell 0;go_enter Tryz.func319,Tryz.ntmps319;go_wp2_with fail;refine HC.mono ?_;rintro e w1 h1;have H1:=h1;rcases h1 with⟨G',cO,r',fr,rfl,_⟩|⟨G',cO,fr,rfl,_⟩|⟨_,rfl,_⟩|⟨_,rfl,_⟩
 ·go_wp2_with fail;go_end0;exact H1
 all_goals
  have H2:=H1;unfold gU;go_wp2_with fail
  try exact⟨rfl,H2⟩
theorem yE(w:World)(x y:Value):ay ((w.alloc (.cells #[x] 9)).alloc (.cells #[y] 9)).drew w.heap.size 9 [x]/\ay ((w.alloc (.cells #[x] 9)).alloc (.cells #[y] 9)).drew (w.heap.size+1) 9 [y]/\
 dP w ((w.alloc (.cells #[x] 9)).alloc (.cells #[y] 9)).drew:=by
 have h1:ay (w.alloc (.cells #[x] 9)) w.heap.size 9 [x]:=ay.new w 9 _;have h2:ay ((w.alloc (.cells #[x] 9)).alloc (.cells #[y] 9)) (w.alloc (.cells #[x] 9)).heap.size 9 [y]:=ay.new _ 9 _;have hs:(w.alloc (.cells #[x] 9)).heap.size=w.heap.size+1:=by simp
 rw[hs]at h2;have hb:Below (w.alloc (.cells #[x] 9)).heap.size (w.alloc (.cells #[x] 9)) ((w.alloc (.cells #[x] 9)).alloc (.cells #[y] 9)).drew:=((ak _ _).alloc zo _).drew;exact⟨h1.aa hb h1.lt,h2,((ak w.heap.size w).alloc zo _).trans (hb.mono zo)⟩
theorem Ta:(callFunc 319 cg).run Tryz.prog W= .ok (.enter 319 cg) W:=by simp[go_sem]
theorem aeg(A B:Option Addr)(ca cb:Nat)(key v:Pl.Key)(tE:Pl.ey key)(hvf:v.length<=100)(hn:E.m.n<=4096)(Mf:E.m.ej<=4096)(jO:E.m.bad=false)(h:Nat)(t:Pl.Tr h)(w:World)(rd:Int)(G:Gh)(hw:TW E w rd G)(hG:G E.m.root=some ⟨h,t⟩)(gP:Pl.ix ⟨h,t⟩)(hh:h<=62)
 (UM:Pl.GI (Pl.iB (Pl.dN key v) key ⟨h,t⟩).1 (Pl.iB (Pl.dN key v) key ⟨h,t⟩).2<=50000) (yR:pz w) (hA:aw w A key) (hB:aw w B v):
 bG 311 #[.pointer (some ⟨E.gT,0,none⟩),.slice A key.length ca,.slice B v.length cb] w λe w'=>∃k,e= .returned (oT k)/\ChQ E (2*(h+1)) rd G (Pl.iB (Pl.dN key v) key ⟨h,t⟩) False true w k w':=by
 obtain⟨gt,Ub⟩:=ze w.heap.size;obtain⟨w1,dj,aI⟩:=zF w (.cells #[.pointer (some ⟨E.gT,0,none⟩)] 140);have BT:(ay w1 gt 140 [.pointer (some ⟨E.gT,0,none⟩)]):=by rw[<-dj,<-Ub];exact ay.new w 140 _
 obtain⟨x9,Yz⟩:=ze (Pl.iB (Pl.dN key v) key ⟨h,t⟩);have HK:(∀W,Below w.heap.size w W->aw W A key):=λW hW=>aw.bQ hA hW;have HV:(∀W,Below w.heap.size w W->aw W B v):=λW hW=>aw.bQ hB hW
 have HP1:(∀(W:World) (gk gv:Nat),Below w.heap.size w W->ay W gt 140 [.pointer (some ⟨E.gT,0,none⟩)]->ay W gk 9 [.string (ar key)]->ay W gv 9 [.string (ar v)]->
  bG 202 #[.pointer (some ⟨E.gT,0,none⟩),.func (.func 319) #[] #[.pointer (some ⟨gt,0,none⟩),.pointer (some ⟨gk,0,none⟩),.pointer (some ⟨gv,0,none⟩)]] W λe w'=>∃k,e= .returned (oT k)/\ChQ E (2*(h+1)) rd G x9 False true w k w'):=by
  intro W gk gv hW h1 h2 h3;have hwW:=hw.aa hW;obtain⟨W1,tC,ja⟩:=zF W (.cells #[.nilIface] 73);have he:ay W1 W.heap.size 73 [.nilIface]:=by rw[<-tC];exact ay.new W 73 _
  have hp:=abP E gt gk gv key v tE hvf hn Mf h t W1 rd G (hwW.aa ja) hG gP hh UM (yR.Ir ((iu.ae hW).aa ja)) (h1.aa ja h1.lt) (h2.aa ja h2.lt) (h3.aa ja h3.lt);rw[Yz]at hp
  have hd:=Ow E.gT E.m 319 #[.pointer (some ⟨gt,0,none⟩),.pointer (some ⟨gk,0,none⟩),.pointer (some ⟨gv,0,none⟩)] W hwW.tree jO (λk w'=>ay w' W.heap.size 73 [.nilIface]/\ChQ E (2*(h+1)) rd G x9 False false W1 k w') (Ta _)
   (λk w' hq=>by
     obtain⟨m,hm,ht⟩:=hq.2.tree jO;obtain⟨m0,m1,m2,m3,m4,m5,m6,m7⟩:=m;dsimp only at hm;subst hm;exact⟨_,_,_,_,_,_,_,ht⟩)
   (by
     rw[tC];exact hp.mono λe w' hc=>by
      obtain⟨k,hk,hq⟩:=hc.q jO;have jM:=hq.1.aC he zj;exact⟨jM,k,hk,jM,hq⟩)
  refine hd.mono ?_;rintro e sL ⟨k,w',⟨jM,hq⟩,he',ho,hx⟩;rw[<-tC]at hq;have pA:=ChQ.done hwW.tree hwW.low.t jO jM hq ho hx;exact⟨k,he',((iu.ae hW).Q4.trans pA.1),pA.2⟩
 have JJ:=zf Tryz.prog;have ck:∀W,Below w.heap.size w W->(convert 29 9 (.slice A key.length ca)).run Tryz.prog W= .ok (.string (ar key)) W:=λW hW=>dQ W A key ca (HK W hW);have cv:∀W,Below w.heap.size w W->(convert 29 9 (.slice B v.length cb)).run Tryz.prog W= .ok (.string (ar v)) W:=λW hW=>dQ W B v cb (HV W hW);obtain⟨nk,CF⟩:=ze key.length;obtain⟨nv,wP⟩:=ze v.length;rw[Yz];rw[CF]at ck|-
 rw[wP]at cv|-
 go_enter Tryz.func311,Tryz.ntmps311
 go_upto_region 1 with fail
 go_cut [7,8]from 9 (λs7 s8 wx=>∃gk gv,s7= .pointer (some ⟨gk,0,none⟩)/\s8= .pointer (some ⟨gv,0,none⟩)/\Hid (ay wx gk 9 [.string (ar key)])/\Hid (ay wx gv 9 [.string (ar v)])/\Hid (Below w1.heap.size w1 wx))
 case first=>
  have Am:(∀W,Below w1.heap.size w1 W->Below w.heap.size w W):=λW hW=>aI.trans (hW.mono aI.size);have f1:=ck (w1.drew) (Am _ (by first|exact(ak w1.heap.size w1).drew|exact((ak w1.heap.size w1).alloc (ai _) _).drew|exact(((ak w1.heap.size w1).alloc (ai _) _).alloc zu _).drew));have f2:=ck ((w1.alloc (.cells #[.string ⟨#[]⟩] 9)).drew) (Am _ (by first|exact(ak w1.heap.size w1).drew|exact((ak w1.heap.size w1).alloc (ai _) _).drew|exact(((ak w1.heap.size w1).alloc (ai _) _).alloc zu _).drew));have f3:=ck ((w1.alloc (.cells #[.string (ar v)] 9)).drew) (Am _ (by first|exact(ak w1.heap.size w1).drew|exact((ak w1.heap.size w1).alloc (ai _) _).drew|exact(((ak w1.heap.size w1).alloc (ai _) _).alloc zu _).drew));have f4:=ck (((w1.alloc (.cells #[.string ⟨#[]⟩] 9)).alloc (.cells #[.string ⟨#[]⟩] 9)).drew) (Am _ (by first|exact(ak w1.heap.size w1).drew|exact((ak w1.heap.size w1).alloc (ai _) _).drew|exact(((ak w1.heap.size w1).alloc (ai _) _).alloc zu _).drew));have f5:=ck (((w1.alloc (.cells #[.string ⟨#[]⟩] 9)).alloc (.cells #[.string (ar v)] 9)).drew) (Am _ (by first|exact(ak w1.heap.size w1).drew|exact((ak w1.heap.size w1).alloc (ai _) _).drew|exact(((ak w1.heap.size w1).alloc (ai _) _).alloc zu _).drew));have f6:=ck (((w1.alloc (.cells #[.string (ar v)] 9)).alloc (.cells #[.string ⟨#[]⟩] 9)).drew) (Am _ (by first|exact(ak w1.heap.size w1).drew|exact((ak w1.heap.size w1).alloc (ai _) _).drew|exact(((ak w1.heap.size w1).alloc (ai _) _).alloc zu _).drew));have f7:=ck (((w1.alloc (.cells #[.string (ar v)] 9)).alloc (.cells #[.string (ar v)] 9)).drew) (Am _ (by first|exact(ak w1.heap.size w1).drew|exact((ak w1.heap.size w1).alloc (ai _) _).drew|exact(((ak w1.heap.size w1).alloc (ai _) _).alloc zu _).drew));have f8:=cv (w1.drew) (Am _ (by first|exact(ak w1.heap.size w1).drew|exact((ak w1.heap.size w1).alloc (ai _) _).drew|exact(((ak w1.heap.size w1).alloc (ai _) _).alloc zu _).drew));have f9:=cv ((w1.alloc (.cells #[.string ⟨#[]⟩] 9)).drew) (Am _ (by first|exact(ak w1.heap.size w1).drew|exact((ak w1.heap.size w1).alloc (ai _) _).drew|exact(((ak w1.heap.size w1).alloc (ai _) _).alloc zu _).drew));have f10:=cv ((w1.alloc (.cells #[.string (ar key)] 9)).drew) (Am _ (by first|exact(ak w1.heap.size w1).drew|exact((ak w1.heap.size w1).alloc (ai _) _).drew|exact(((ak w1.heap.size w1).alloc (ai _) _).alloc zu _).drew));have f11:=cv (((w1.alloc (.cells #[.string ⟨#[]⟩] 9)).alloc (.cells #[.string ⟨#[]⟩] 9)).drew) (Am _ (by first|exact(ak w1.heap.size w1).drew|exact((ak w1.heap.size w1).alloc (ai _) _).drew|exact(((ak w1.heap.size w1).alloc (ai _) _).alloc zu _).drew));have f12:=cv (((w1.alloc (.cells #[.string ⟨#[]⟩] 9)).alloc (.cells #[.string (ar key)] 9)).drew) (Am _ (by first|exact(ak w1.heap.size w1).drew|exact((ak w1.heap.size w1).alloc (ai _) _).drew|exact(((ak w1.heap.size w1).alloc (ai _) _).alloc zu _).drew));have f13:=cv (((w1.alloc (.cells #[.string (ar key)] 9)).alloc (.cells #[.string ⟨#[]⟩] 9)).drew) (Am _ (by first|exact(ak w1.heap.size w1).drew|exact((ak w1.heap.size w1).alloc (ai _) _).drew|exact(((ak w1.heap.size w1).alloc (ai _) _).alloc zu _).drew));have f14:=cv (((w1.alloc (.cells #[.string (ar key)] 9)).alloc (.cells #[.string (ar key)] 9)).drew) (Am _ (by first|exact(ak w1.heap.size w1).drew|exact((ak w1.heap.size w1).alloc (ai _) _).drew|exact(((ak w1.heap.size w1).alloc (ai _) _).alloc zu _).drew))
  go_region
  all_goals
   go_wp2_with fail;go_meet
   case rel=>
    first
    |exact⟨_,_,rfl,rfl,(yE w1 (.string (ar key)) (.string (ar v))).1,(yE w1 (.string (ar key)) (.string (ar v))).2.1,(yE w1 (.string (ar key)) (.string (ar v))).2.2⟩
    |exact⟨_,_,rfl,rfl,(yE w1 (.string (ar v)) (.string (ar key))).2.1,(yE w1 (.string (ar v)) (.string (ar key))).1,(yE w1 (.string (ar v)) (.string (ar key))).2.2⟩
 case rest=>obtain⟨gk,gv,rfl,rfl,jM,Rq,J3⟩:=hcut;obtain⟨wx,Vq,BK,BV,xC⟩:∃x,x=wc/\Hid (ay x gk 9 [.string (ar key)])/\Hid (ay x gv 9 [.string (ar v)])/\Hid (Below w1.heap.size w1 x):=⟨wc,rfl,jM,Rq,J3⟩;subst Vq;have c1:wx.cell? ⟨gk,0,none⟩=some (.string (ar key)):=BK.cell 0;have c2:wx.cell? ⟨gv,0,none⟩=some (.string (ar v)):=BV.cell 0;have c3:wx.cell? ⟨gt,0,none⟩=some (.pointer (some ⟨E.gT,0,none⟩)):=(BT.aa xC BT.lt).cell 0;have Mj:(Below w.heap.size w wx):=aI.trans (xC.mono aI.size);have XI:=HP1 wx gk gv Mj (BT.aa xC BT.lt) BK BV;go_wp2_with fail;refine(sD key _ tE).mono ?_;rintro e w' ⟨rfl,rfl⟩;go_wp2_with fail;refine(FW v _ hvf).mono ?_;rintro e w' ⟨rfl,rfl⟩;go_wp2_with fail;refine XI.mono ?_;rintro e w' ⟨k,rfl,hq⟩;go_wp2_with fail;go_ret;exact⟨k,rfl,hq⟩
theorem F5.apa{gT:Nat}(h:F5 gT w w'):w.heap.size<=w'.heap.size:=by obtain⟨F,ho,_⟩:=h.only;exact ho.size
def Wc(n:Nat)(rd:Int)(G:Gh)(key:Pl.Key)(ps:List Pl.Pr)(go:Nat)(w0 w:World)(e:Ending)(w':World):Prop:=
 F5 E.gT w0 w'/\(∀b cs,ay w b 73 cs->ay w' b 73 cs)/\((∃G' cO A aB l,e= .returned (.tuple #[])/\Pl.dI key ps=some l/\TW E w' cO G'/\Ext G G'/\tF n rd cO/\ay w' go 29 [.slice A l.length aB]/\aw w' A l/\(∀q,A=some q->jh w' q.block 5)/\l.length<=aB/\∀q,A=some q->w0.heap.size<=q.block)
 \/(E.d.aW=0/\e=gU 3/\(∃cO,aJ w' E.m.g E.vD E.d cO)/\ny w' E.gT E.m/\ay w' go 29 [.slice none 0 0])
 \/(Pl.dI key ps=none/\e=gU 8/\ay w' go 29 [.slice none 0 0]/\∃G' cO,TW E w' cO G'/\Ext G G'/\tF n rd cO))
theorem YX(h:Pl.rD k ps=true):∃p,ps[Pl.aR ps k]?=some p/\Pl.dI k ps=some p.val:=by
 unfold Pl.rD at h;unfold Pl.dI
 grind
theorem aaF(h:Pl.rD k ps=false):Pl.dI k ps=none:=by have:=Pl.CI k ps;simp_all
theorem adz(h:aw w (some ⟨g,0,none⟩) l)(ho:ag F w w')(hg:¬F g):aw w' (some ⟨g,0,none⟩) l:=by
 rcases h with h|⟨b,off,e,h⟩
 ·exact .inl h
 ·injection e with e;injection e with e1 e2;subst e1;exact .inr ⟨_,off,by rw[e2],λi hi=>ho.cell (h i hi) hg⟩
theorem adK(go:Nat)(key:Pl.Key)(hn:E.m.n<=4096)(h:Nat)(t:Pl.Tr h)(w0 w:World)(rd:Int)(G:Gh)(hw:TW E w rd G)(hG:G E.m.root=some ⟨h,t⟩)(gP:Pl.ix ⟨h,t⟩)(hh:h<=62)(yR:pz w)
 (ht:ay w gt 140 [.pointer (some ⟨E.gT,0,none⟩)]) (hk:ay w gk 9 [.string (ar key)]) (ho:ay w go 29 [.slice none 0 0]) (h0:F5 E.gT w0 w) (hT0:jh w0 E.gT 242) (hgo:w0.heap.size<=go):
 bG 316 #[.pointer (some ⟨gt,0,none⟩),.pointer (some ⟨gk,0,none⟩),.pointer (some ⟨go,0,none⟩)] w (Wc E (h+1) rd G key (Pl.fP h t key) go w0 w):=by
 have yl:Pl.Hc [] none key:=⟨Pl.afX key,λy hy=>by cases hy⟩;obtain⟨hrf,hsp⟩:=gP;obtain⟨root,Aq⟩:=ze E.m.root;have c3:w.cell? ⟨E.gT,3,none⟩=some (.pointer (some ⟨root,0,none⟩)):=Aq▸hw.tree.cell 3;rw[Aq]at hG;obtain⟨v0,v1,v2⟩:=yR;have c0:w.cell? ⟨gt,0,none⟩=some (.pointer (some ⟨E.gT,0,none⟩)):=ht.cell 0;have CU:=(ak w.heap.size w).alloc (ai _) (.cells #[.string ⟨#[]⟩,.string ⟨#[]⟩,.bool false] 368);have z0:=(CU.cell (dC _ _ v0)).trans v0;have z1:=(CU.cell (dC _ _ v1)).trans v1;have z2:=(CU.cell (dC _ _ v2)).trans v2;have z3:=(CU.cell (dC _ _ c3)).trans c3;have z4:=(CU.cell (dC _ _ c0)).trans c0;obtain⟨LF,hLF⟩:=ze (Pl.fP h t key);rw[hLF];have BK:=hk;have BO:=ho;have aow:(jh w0 E.gT 242):=hT0;obtain⟨gs,ui⟩:=ze w.heap.size;obtain⟨w1,dj⟩:=ze ((w.alloc (.cells #[.string (ar []),.string (ar []),.bool true] 368)).drew);have aI:Below w.heap.size w w1:=by rw[<-dj];exact(za _ _).drew
 have BS1:(ay w1 gs 368 (MK [] none)):=by rw[<-dj,<-ui];exact ay.new w 368 _
 have apZ:=zi dj;have arY:∀(b:Nat) (W:World),(Instr.typeAssert (.iface 343 (.pointer (some ⟨b,0,none⟩))) 263 343 true).run Tryz.prog W= .ok (.tuple #[.pointer (some ⟨b,0,none⟩),.bool true]) W:=λb W=>by kernel_rfl
 have arL:∀(b:Nat) (W:World),(Instr.typeAssert (.iface 377 (.pointer (some ⟨b,0,none⟩))) 263 343 true).run Tryz.prog W= .ok (.tuple #[.pointer none,.bool false]) W:=λb W=>by kernel_rfl
 have aqE:∀(b:Nat) (W:World),(Instr.typeAssert (.iface 377 (.pointer (some ⟨b,0,none⟩))) 263 377 true).run Tryz.prog W= .ok (.tuple #[.pointer (some ⟨b,0,none⟩),.bool true]) W:=λb W=>by kernel_rfl
 clear dj;go_enter Tryz.func316,Tryz.ntmps316
 go_upto_region 0 with fail
 go_cut [3,4]from 11 (λs3 s4 wx=>s3= .pointer (some ⟨root,0,none⟩)/\s4= .pointer (some ⟨gs,0,none⟩)/\w1=wx)
 case first=>
  go_region
  all_goals
   go_wp2_with fail;go_meet
   case rel=>exact⟨rfl,rfl,apZ.symm⟩
 case rest=>
  obtain⟨rfl,rfl,rfl⟩:=hcut;have HGS:(w.heap.size<=gs):=gF ui;go_wp2_with fail
  go_loopw [3,5] (λr i wr=>∃(j hc:Nat) (tc:Pl.Tr hc) (lo:Pl.Key) (hi:Option Pl.Key) (rr:Nat) (G1:Gh) (Fv:Int),hc+j=h/\r= .pointer (some ⟨rr,0,none⟩)/\i= .int .i64 (j:Int)/\Hid (ay wr gs 368 (MK lo hi))/\Hid (TW E wr Fv G1)/\Hid (Ext G G1)/\Hid (iu w wr)/\Hid (tF j rd Fv)/\Hid (G1 rr=some ⟨hc,tc⟩)/\Hid (Pl.yK (decide (j=0)) hc tc)/\Hid (Pl.yA hc lo hi tc)/\Hid (Pl.Hc lo hi key)/\Hid (Pl.fP hc tc key=LF)) (λ_ i _=>h+1-(intOf i).toNat)
  case atStart=>exact⟨0,h,t,[],none,root,G,rd,zo,rfl,rfl,BS1,hw.aa aI,Ext.refl G,iu.ae aI,tF.refl 0 rd,hG,hrf,hsp,yl,hLF⟩
  case round=>
   obtain⟨j,hc,tc,lo,hi,rr,G1,Fv,hjh,rfl,rfl,HS,HWr,HEr,HTr,HRr,K0,HPF,acJ,ajB,aoB⟩:=hrel;have HPG:=xU E rr hc j tc lo hi wr Fv G1 HWr K0 HPF acJ zo hn;obtain⟨sl,yZ⟩:=ze (ar lo);obtain⟨sh,CD⟩:=ze (ar (hi.getD []));obtain⟨bn,J9⟩:=ze hi.isNone;have es:iR lo hi= .agg #[.string sl,.string sh,.bool bn]:=by unfold iR;rw[yZ,CD,J9]
   have es':MK lo hi=[.string sl,.string sh,.bool bn]:=by unfold MK;rw[yZ,CD,J9]
   rw[es]at HPG;rw[es']at HS;have ES:=es;unfold dJ at HPG;have d0:wr.cell? ⟨gt,0,none⟩=some (.pointer (some ⟨E.gT,0,none⟩)):=(HTr.aC ht zj zj).cell 0;obtain⟨e0,e1,e2,_,_,_⟩:=iY HS;go_wp2_with fail;refine HPG.mono ?_;rintro e w2 h2;rcases h2 with⟨v2,G2,rR,rfl,hW2,hE2,Qi,I5,hP2,a2,Kd⟩|⟨fK,rfl,⟨J7,Kf⟩,mm⟩;rotate_left
   ·have Oh:=HTr.trans mm;unfold gU;go_wp2_with fail;exact⟨rfl,h0.trans Oh.Q4,(λb cs hb=>Oh.aC hb zj zj),.inr (.inl ⟨fK,rfl,⟨J7,Kf⟩,Oh.aC hw.tree zj zj,Oh.aC BO zj zj⟩)⟩
   have Pw:=HEr.trans hE2;have tl:(iu w w2):=HTr.trans Qi;have CQ:=HRr.trans I5 (ai _);have sZ:=Qi.aC HS zj zj;have d1:w2.cell? ⟨gk,0,none⟩=some (.string (ar key)):=(tl.aC BK zj zj).cell 0;cases hc with
   |zero=>
    obtain⟨b,rfl,rJ⟩:=hP2;have hLt:tc=LF:=aoB;subst hLt;have GY:=ET b tc key w2 rJ acJ.1 (by have:=iP tc;have h9:=Pl.yK.root HPF;have:=h9.1;omega);unfold fR;go_wp2_with fail;refine GY.mono ?_;rintro e w3 ⟨rfl,bg⟩;have HW3:=hW2.aa bg;have Wo:=tl.aa bg;have rN:=rJ.aa bg;have BO3:=Wo.aC BO zj zj;obtain⟨Bh,hBh⟩:=ze (Pl.rD key tc);rw[hBh];cases Bh
    ·have HGN:=aaF hBh;go_wp2_with fail;refine(oy 8 _).mono ?_;rintro e w' ⟨rfl,rfl⟩;unfold gU;go_wp2_with fail;exact⟨rfl,h0.trans Wo.Q4,(λb cs hb=>Wo.aC hb zj zj),.inr (.inr ⟨HGN,rfl,BO3,G2,rR,HW3,Pw,CQ.mono zo⟩)⟩
    ·obtain⟨p,hp,hg⟩:=YX hBh;obtain⟨A,ca,yg,GJ,Er⟩:=rN;have dm:=jB (f:=gQ) (s:=2) (λ_=>rfl) tc (Pl.aR tc key) p hp;obtain⟨b2,off,rfl,g0⟩:=Er.1.dm _ _ (dm 1 zo);obtain⟨f0,_⟩:=bP yg;have hlt:=Pl.YU hBh;obtain⟨i,Pk⟩:=ze (Pl.aR tc key);obtain⟨m,hm⟩:=ze (List.length tc);rw[Pk]at g0 hlt|-
     rw[hm]at f0 hlt;have q1:(i:Int)<(m:Int):=zo;have hpv:(gQ p)[1]?=some (.string (ar p.val)):=rfl;obtain⟨sv,hsv⟩:=ze (ar p.val);rw[hsv]at hpv;have jz:w3.cell? ⟨b2,off+(i*2+1),none⟩=some (.string sv):=by rw[<-hsv];exact g0
     rw[<-ew]at jz;have hcv:=rZ w3 sv;obtain⟨cz,hcz⟩:=ze (grownCap w3 sv.size 0 5);rw[hcz]at hcv;have Xq:(p.val.length<=cz):=by rw[<-hcz,show p.val.length=sv.size by rw[<-hsv,bK]];exact qS _ _ _ _
     obtain⟨w4,qz⟩:=ze (w3.drew.alloc (pF sv cz));obtain⟨gz,hgz⟩:=ze w3.heap.size;have cj:Below w3.heap.size w3 w4:=by rw[<-qz];exact((ak w3.heap.size w3).drew).alloc (ai _) _
     have CK:aw w4 (some ⟨gz,0,none⟩) sv.data.toList:=by refine sj (aB:=cz) ?_;rw[<-qz,<-hgz];exact heap_alloc_new w3.drew _
     rw[qz,hgz]at hcv;have HTZ:(jh w4 gz 5):=by rw[<-qz,<-hgz];exact⟨_,_,heap_alloc_new w3.drew _⟩
     have apw:(w0.heap.size<=gz):=by rw[<-hgz];exact(h0.trans Wo.Q4).apa
     have HGZ:(gz≠go):=λe=>by have:=BO3.lt;omega
     have HW4:=HW3.aa cj;have F0:=Wo.aa cj;have BO4:=BO3.aa cj BO3.lt;have nQ:=BO4.cell 0;have kK:=BO4.frozen 0;simp only[au]at nQ;go_wp2_with fail;go_end0;have ho:ag (·=go) w4 (w4.setCell ⟨go,0,none⟩ (.slice (some ⟨gz,0,none⟩) sv.size cz)):=(ag.refl (·=go) w4).zs 0;have hk:=aD BO4;have hsz:sv.size=p.val.length:=by rw[<-hsv,bK]
     have pr:sv.data.toList=p.val:=by rw[<-hsv];simp[ar]
     refine⟨(h0.trans F0.Q4).since ho (λx hx e=>by have:=hgo;omega) (aow),(λb cs hb=>ho.cY hk (F0.aC hb zj zj) zj),.inl ⟨G2,rR,some ⟨gz,0,none⟩,cz,p.val,rfl,hg,HW4.only ho hk zj zj zj zj zj,Pw,CQ.mono zo,?_,?_,λq hq=>by injection hq with hq;subst hq;exact HTZ.only ho hk zj,Xq,λq hq=>by injection hq with hq;subst hq;exact apw⟩⟩
     ·rw[<-hsz];exact BO4.bw 0 _
     ·rw[<-pr];exact adz CK ho HGZ
   |succ hc=>
    obtain⟨rs,⟨b,rfl,hi2⟩,s9,hgk,_⟩:=hP2;have jn:Pl.Fit (hc+1) tc:=Pl.yK.root HPF;have TR:=jr tc.1;have acu:tc.1.length<=60:=zA jn.2.2.1;have P2:=Pl.tQ tc.1 key;obtain⟨i,Pk⟩:=ze (Pl.gY tc.1 key);rw[Pk]at P2;obtain⟨c,hcc⟩:∃c,tc.2[i]?=some c:=⟨_,aF (zA jn.1)⟩;have rJ:Pl.fP (hc+1) tc key=Pl.fP hc c key:=Pl.uU (by rw[Pk];exact hcc);have Mn:=jn.2.2.2.2 c (bO hcc);have hcs:=Pl.ff.dm i c acJ hcc;have akz:Pl.Hc (Pl.DW lo tc.1 i) (Pl.wW hi tc.1 i) key:=by have:=Pl.ff.way key acJ ajB;rw[Pk]at this;exact this
    have HWY:=OQ b tc.1 rs key w2 hi2 (Pl.ff.keys acJ).1 zo;rw[Pk]at HWY;have HCF:(Pl.yK (decide (j+1=0)) hc c):=by rw[aH zo];exact Mn
    have HLC:(Pl.fP hc c key=LF):=rJ.symm.trans aoB;obtain⟨n,kG⟩:=ze tc.1.length;have Dx:(rs.length=n+1):=by rw[s9,jn.1,kG]
    obtain⟨rk,JY⟩:∃r,rs[i]?=some r:=⟨_,aF (by rw[Dx];omega)⟩;have TZ:(G2 rk=some ⟨hc,c⟩):=hgk i rk c JY hcc;have HWL:(i<=tc.1.length/\tc.1.length<=1000):=⟨P2,zo⟩;rw[kG]at P2;unfold eG;go_wp2_with fail;refine HWY.mono ?_;rintro e w3 ⟨rfl,bg⟩;have HW3:=hW2.aa bg;have Wo:=tl.aa bg;have Je:=sZ.aa bg sZ.lt;have HI3:=hi2.aa bg;have E6:=GD lo hi b tc.1 rs i w3 HI3 HWL.1 HWL.2;rw[ES]at E6;obtain⟨e0,e1,e2,_,_,_⟩:=iY Je;go_wp2_with fail;refine E6.mono ?_;rintro e w4 ⟨rfl,cj⟩;have HW4:=HW3.aa cj;have F0:=Wo.aa cj;have HS4:=Je.aa cj Je.lt;have hi4:=HI3.aa cj;obtain⟨A,ca,A',vR,dM,_,_,hsa,PG⟩:=hi4;obtain⟨bk,ok,rfl,g0⟩:=PG.1.dm _ _ (iX JY);unfold dJ at g0;have aoW:b≠gs:=dM.ne HS4 zj;have afG:bk≠gs:=λe=>absurd ((PG.2 _ rfl).dv (e▸HS4.dV)) zj;obtain⟨_,x1,_,_⟩:=aO dM;rw[Dx]at x1;obtain⟨f0,f1,f2,f3,f4,f5⟩:=iY HS4;obtain⟨sl',apo⟩:=ze (ar (Pl.DW lo tc.1 i));obtain⟨sh',aoI⟩:=ze (ar ((Pl.wW hi tc.1 i).getD []));obtain⟨bn',amH⟩:=ze ((Pl.wW hi tc.1 i).isNone);have es:iR (Pl.DW lo tc.1 i) (Pl.wW hi tc.1 i)= .agg #[.string sl',.string sh',.bool bn']:=by unfold iR;rw[apo,aoI,amH]
    have es':MK (Pl.DW lo tc.1 i) (Pl.wW hi tc.1 i)=[.string sl',.string sh',.bool bn']:=by unfold MK;rw[apo,aoI,amH]
    rw[es];have q1:(i:Int)<(n:Int)+1:=zo;have hwr:IntKind.i64.wrap ((j:Int)+1)=(j:Int)+1:=aY _ zo;go_wp2_with fail;have ho:ag (·=gs) w4 (((w4.setCell ⟨gs,0,none⟩ (.string sl')).setCell ⟨gs,1,none⟩ (.string sh')).setCell ⟨gs,2,none⟩ (.bool bn')):=
     (((ag.refl (·=gs) w4).zs 0).zs 1).zs 2
    have hk:=aD HS4;exact⟨⟨j+1,hc,c,Pl.DW lo tc.1 i,Pl.wW hi tc.1 i,rk,G2,rR,zo,rfl,by go_num,by rw[es'];exact((HS4.bw 0 _).bw 1 _).bw 2 _,HW4.only ho hk zj zj zj zj zj,Pw,F0.since ho (λx hx e=>by have:=HGS;omega),CQ,TZ,HCF,hcs,akz,HLC⟩,by simp[intOf];omega⟩
theorem Ms{ts:List TypeId}(h:aw w A l)(ht:∀q,A=some q->jh w q.block 5)(ho:ag F w w')(hk:bR F w ts)(h1:5∉ts):aw w' A l:=by
 rcases h with h|⟨b,off,rfl,h⟩
 ·exact .inl h
 ·refine .inr ⟨b,off,rfl,λi hi=>ho.cell (h i hi) (λhf=>?_)⟩;obtain⟨t,h2,h3⟩:=hk _ hf;exact h1 ((ht _ rfl).dv h3▸h2)
def GQ(n:Nat)(rd:Int)(G:Gh)(key:Pl.Key)(ps:List Pl.Pr)(go:Nat)(b:Bool)(w0:World)(k:Nat)(w':World):Prop:=
 F5 E.gT w0 w'/\((k=0/\∃G' cO A aB l,Pl.dI key ps=some l/\TW E w' cO G'/\Ext G G'/\tF n rd cO/\ay w' go 29 [.slice A l.length aB]/\aw w' A l/\(∀q,A=some q->jh w' q.block 5)/\l.length<=aB/\∀q,A=some q->w0.heap.size<=q.block)
 \/(k=3/\E.d.aW=0/\(∃cO,aJ w' E.m.g E.vD E.d cO)/\ny w' E.gT {E.m with bad:=b}/\ay w' go 29 [.slice none 0 0])
 \/(k=8/\Pl.dI key ps=none/\ay w' go 29 [.slice none 0 0]/\∃G' cO,TW E w' cO G'/\Ext G G'/\tF n rd cO))
theorem Wc.q{E:fe}(hb:E.m.bad=false)(h:Wc E n rd G key ps go w0 w e w'):∃k,Xt k e/\GQ E n rd G key ps go false w0 k w':=by
 obtain⟨h0,_,⟨G',cO,A,aB,l,rfl,h1⟩|⟨h1,rfl,h2,h3,h4⟩|⟨h1,rfl,h2,h3⟩⟩:=h
 ·exact⟨0,.inl ⟨rfl,rfl⟩,h0,.inl zw⟩
 ·exact⟨3,.inr ⟨zo,zo,rfl⟩,h0,.inr (.inl ⟨rfl,h1,h2,by rw[Tm.eta hb];exact h3,h4⟩)⟩
 ·exact⟨8,.inr ⟨zo,zo,rfl⟩,h0,.inr zw⟩
theorem GQ.tree{E:fe}{n:Nat}{rd:Int}{G:Gh}{key:Pl.Key}{ps:List Pl.Pr}{go:Nat}{w0:World}{k:Nat}{w':World}(hb:E.m.bad=false)(h:GQ E n rd G key ps go false w0 k w'):∃m:Tm,m.bad=false/\ny w' E.gT m:=by
 obtain⟨h0,⟨rfl,G',cO,A,aB,l,_,h1,_⟩|⟨rfl,_,_,h3,_⟩|⟨rfl,_,_,G',cO,h1,_⟩⟩:=h
 ·exact⟨_,hb,h1.tree⟩
 ·grind
 ·exact⟨_,hb,h1.tree⟩
theorem GQ.done{E:fe}{k:Nat}(hT:jh w0 E.gT 242)(fu:Zn E.gT)(hb:E.m.bad=false)(hle:w0.heap.size<=w.heap.size)(he:ay w' w.heap.size 73 [.nilIface])(h:GQ E n rd G key ps go false w0 k w')
 (ho:ag (λb=>b=w.heap.size\/b=E.gT) w' sL) (ht:∀c0 c1 c2 c3 c4 c5 c6 c7,ay w' E.gT 242 [c0,c1,c2,c3,c4,c5,c6,c7]->ay sL E.gT 242 [c0,c1,c2,c3,c4,c5,c6,.bool (k==3)]):GQ E n rd G key ps go true w0 k sL:=by
 obtain⟨m,hm,hmt⟩:=h.tree hb;have hk:bR (λb=>b=w.heap.size\/b=E.gT) w' [73,242]:=by
  rintro b (rfl|rfl)
  ·exact⟨_,zu,he.dV⟩
  ·exact⟨_,zu,hmt.dV⟩
 have XJ:∀m':Tm,ny w' E.gT m'->ny sL E.gT {m' with bad:=(k==3)}:=λm' hm'=>ht _ _ _ _ _ _ _ _ hm';obtain⟨h0,h1⟩:=h;refine⟨h0.since ho (λx hx hf=>by grind) hT,?_⟩;rcases h1 with⟨rfl,G',cO,A,aB,l,h1,h2,h3,h4,h5,h6,h7,h8⟩|⟨rfl,h1,⟨cO,h2⟩,h3,h4⟩|⟨rfl,h1,h2,G',cO,h3,h4⟩
 ·refine .inl ⟨rfl,G',cO,A,aB,l,h1,h2.do ho hk ?_,h3,h4,ho.cY hk h5 zj,Ms h6 h7 ho hk zj,λq hq=>(h7 q hq).only ho hk zj,h8⟩;have:=XJ _ h2.tree;rwa [show((0:Nat)==3)=false from rfl,Tm.eta hb]at this
 ·exact .inr (.inl ⟨rfl,h1,⟨cO,h2.iC ho hk zj zj⟩,zw,ho.cY hk h4 zj⟩)
 ·refine .inr (.inr ⟨rfl,h1,ho.cY hk h2 zj,G',cO,h3.do ho hk ?_,h4⟩);have:=XJ _ h3.tree;rwa [show((8:Nat)==3)=false from rfl,Tm.eta hb]at this
theorem RT:(callFunc 316 cg).run Tryz.prog W= .ok (.enter 316 cg) W:=by simp[go_sem]
theorem adi(A:Option Addr)(ca:Nat)(key:Pl.Key)(tE:Pl.ey key)(hn:E.m.n<=4096)(jO:E.m.bad=false)(h:Nat)(t:Pl.Tr h)(w:World)(rd:Int)(G:Gh)(hw:TW E w rd G)(hG:G E.m.root=some ⟨h,t⟩)(gP:Pl.ix ⟨h,t⟩)(hh:h<=62)(yR:pz w)(hA:aw w A key):
 bG 310 #[.pointer (some ⟨E.gT,0,none⟩),.slice A key.length ca] w λe w'=>∃k go v,e= .returned (.tuple #[v,oT k])/\w.heap.size<=go/\w'.cell? ⟨go,0,none⟩=some v/\GQ E (h+1) rd G key (Pl.fP h t key) go true w k w':=by
 obtain⟨gt,w1,Ub,dj,aI,B1⟩:=zE w 140 [.pointer (some ⟨E.gT,0,none⟩)];obtain⟨gk,w2,hgk,iA,bz,B2⟩:=zE w1 9 [.string (ar key)];obtain⟨go,w3,hgo,fX,bg,B3⟩:=zE w2 29 [.slice none 0 0];have eC:=aI.trans (bz.mono aI.size);have jv:=eC.trans (bg.mono eC.size);have agN:w.heap.size<=go:=by rw[<-hgo];exact eC.size
 have c0:=(B1.aa (bz.trans (bg.mono bz.size)) B1.lt);have BK2:=B2.aa bg B2.lt;have cv1:=dQ (w1.alloc (.cells #[.string ⟨#[]⟩] 9)) A key ca (aw.bQ hA (aI.alloc aI.size _));have cv2:=dQ w1 A key ca (aw.bQ hA aI);obtain⟨LF,hLF⟩:=ze (Pl.fP h t key);have XI:(bG 202 #[.pointer (some ⟨E.gT,0,none⟩),.func (.func 316) #[] #[.pointer (some ⟨gt,0,none⟩),.pointer (some ⟨gk,0,none⟩),.pointer (some ⟨go,0,none⟩)]] w3 λe w'=>∃k,e= .returned (oT k)/\GQ E (h+1) rd G key LF go true w k w'):=by
  have alI:=hw.aa jv;obtain⟨W1,tC,ja⟩:=zF w3 (.cells #[.nilIface] 73);have he:ay W1 w3.heap.size 73 [.nilIface]:=by rw[<-tC];exact ay.new w3 73 _
  have hp:=adK E gt gk go key hn h t w W1 rd G (alI.aa ja) hG gP hh (yR.Ir ((iu.ae jv).aa ja)) (c0.aa ja c0.lt) (BK2.aa ja BK2.lt) (B3.aa ja B3.lt) ((iu.ae jv).aa ja).Q4 hw.tree.dV agN;rw[hLF]at hp
  have hd:=Ow E.gT E.m 316 #[.pointer (some ⟨gt,0,none⟩),.pointer (some ⟨gk,0,none⟩),.pointer (some ⟨go,0,none⟩)] w3 alI.tree jO (λk w'=>ay w' w3.heap.size 73 [.nilIface]/\GQ E (h+1) rd G key LF go false w k w') (RT _)
   (λk w' hq=>by
     obtain⟨m,hm,ht⟩:=hq.2.tree jO;obtain⟨m0,m1,m2,m3,m4,m5,m6,m7⟩:=m;dsimp only at hm;subst hm;exact⟨_,_,_,_,_,_,_,ht⟩)
   (by
     rw[tC];exact hp.mono λe w' hc=>by
      obtain⟨k,hk,hq⟩:=hc.q jO;have jM:=hc.2.1 _ _ he;exact⟨jM,k,hk,jM,hq⟩)
  refine hd.mono ?_;rintro e sL ⟨k,w',⟨jM,hq⟩,he',ho,hx⟩;exact⟨k,he',hq.done hw.tree.dV hw.low.t jO jv.size jM ho hx⟩
 have JJ:=zf Tryz.prog;obtain⟨nk,CF⟩:=ze key.length;rw[CF]at cv1 cv2|-
 rw[hLF];have d0:=c0.cell 0;have d1:=BK2.cell 0;have d1':=B2.cell 0;have d2:=B3.cell 0;simp only[au]at d0 d1 d1' d2;go_enter Tryz.func310,Tryz.ntmps310;go_wp2_with fail;refine(sD key _ tE).mono ?_;rintro e w' ⟨rfl,rfl⟩;go_wp2_with fail;refine XI.mono ?_;rintro e w' ⟨k,rfl,hq⟩;obtain⟨v,hv⟩:∃v,w'.cell? ⟨go,0,none⟩=some v:=by
  obtain⟨_,⟨_,_,_,_,_,_,_,_,_,_,h5,_⟩|⟨_,_,_,_,h4⟩|⟨_,_,h2,_⟩⟩:=hq
  ·exact⟨_,h5.cell 0⟩
  ·exact⟨_,h4.cell 0⟩
  ·exact⟨_,h2.cell 0⟩
 go_wp2_with fail;go_ret2;exact⟨k,go,v,rfl,agN,hv,hq⟩
theorem pz.mK{v:Value}{d:Pl.Dk}(h:pz w)(hd:aJ w g v d rd)(h0:0<d.aV.length):v.ownBlock≠some 1:=by
 intro e;obtain⟨s,hs⟩:∃s,d.aV[0]?=some s:=zS;have h1:=jB (f:=eO) (s:=5) (λ_=>rfl) d.aV 0 s hs 0 zo;have h2:=hd.own.cells e 0 (.string (ar s.now)) (by simpa [cu,eO] using h1);have h3:=h.1;rw[nJ]at h2;have h4:some (Value.string (ar s.now))=some (Value.string (ar [])):=zw;injection h4 with h4;injection h4 with h4;have h5:=congrArg ByteArray.size h4;rw[bK,bK,(hd.sized s zw).1]at h5
 grind
theorem Oo(rd:Int)(i:Nat)(t:List UInt8)(w:World)(hT:ay w gT 242 (.pointer (some ⟨m.g,0,none⟩):: .int .i64 (m.first:Nat)::rest))(h:aJ w m.g vD d rd)(hi:m.first+i<d.aV.length)(ht:t.length<=256):
 bG 232 #[.pointer (some ⟨gT,0,none⟩),.int .i64 (i:Nat),.string (ar t)] w λe w'=>rY d.alive 3 e/\aJ w' m.g vD (d.change (.wr (m.first+i) t)) rd/\ag (dF m.g vD) w w':=by
 have yd:=h.pU;have hk:=h.kinds;obtain⟨g,first,n,root,saved,seq,ej,bad⟩:=m;dsimp only at h hi hT hk;have c0:w.cell? ⟨gT,0,none⟩=some (.pointer (some ⟨g,0,none⟩)):=hT.cell 0;have c1:w.cell? ⟨gT,1,none⟩=some (.int .i64 (first:Nat)):=hT.cell 1;have H:=λW hW=>JF g vD d rd (first+i) t W hW hi ht;obtain⟨x,hx⟩:=ze (first+i);have hxi:(first:Int)+(i:Int)=(x:Int):=zo;have HX:=zi hx;have Vq:IntKind.i64.wrap (x:Int)=x:=aY _ zo;rw[hx]at hi H;have HT:=zi hT;have HNF:Hid (¬dF g vD gT):=λhf=>by obtain⟨t',k1,k2⟩:=hk gT hf;obtain rfl:=k2.dv hT.dV;exact absurd k1 zj
 obtain⟨z,hz⟩:=ze (ar t);rw[hz]at H|-
 clear hT hx;have qG:(x:Int)<=4096:=zo;have S0:=And.intro c0 c1;go_enter Tryz.func232,Tryz.ntmps232;go_wp2_with fail
 go_region_held3 (λW:World=>W.cell? ⟨gT,0,none⟩=some (.pointer (some ⟨g,0,none⟩))/\W.cell? ⟨gT,1,none⟩=some (.int .i64 (first:Nat))) (first|exact S0|exact S1) (first
  |(go_at_call 258
    refine(H _ (h.only ((ag.refl (λ_=>False) w).drew) (λ_ _=>id))).mono ?_;rintro e w1 ⟨rfl,h1,SA⟩;have h3:ag (dF g vD) w w1:=SA.im;obtain⟨H1,H3,BT⟩:=kt h1 h3 (h3.aC HT HNF);have S1:=zi (And.intro (BT.cell 0) (BT.cell 1));clear h1 h3)
  |fail)
 cases fK:d.alive
 all_goals
  have wE:=zi fK;clear fK
 ·go_wp2_with fail;refine(oy 3 _).mono ?_;rintro e w' ⟨rfl,rfl⟩;unfold gU;go_wp2_with fail;exact⟨rfl,by rw[wE.out];exact rY.no 3,by rw[HX.out];exact H1,H3⟩
 ·go_wp2_with fail;go_end0;exact⟨by rw[wE.out];exact rY.rM 3,by rw[HX.out];exact H1,H3⟩
theorem aeY(rd:Int)(w:World)(hT:ay w gT 242 (.pointer (some ⟨m.g,0,none⟩)::rest))(h:aJ w m.g vD d rd):
 bG 233 #[.pointer (some ⟨gT,0,none⟩)] w λe w'=>rY d.alive 3 e/\aJ w' m.g vD (d.change .sy) rd/\ag (dF m.g vD) w w':=by
 have hm:w.cell? ⟨gT,0,none⟩=some (.pointer (some ⟨m.g,0,none⟩)):=hT.cell 0;obtain⟨g,hg⟩:=ze m.g;rw[hg]at hm h|-
 have H:=zi (ML g vD d rd w h);go_enter Tryz.func233,Tryz.ntmps233;go_wp2_with fail;refine H.mono ?_;rintro e w1 ⟨rfl,h1,h2⟩;obtain⟨H1,H2⟩:=dz h1 h2;clear h1 h2 H;cases fK:d.alive
 all_goals
  have wE:=zi fK;clear fK
 ·go_wp2_with fail;refine(oy 3 _).mono ?_;rintro e w' ⟨rfl,rfl⟩;unfold gU;go_wp2_with fail;exact⟨rfl,by rw[wE.out];exact rY.no 3,H1,H2⟩
 ·go_wp2_with fail;go_end0;exact⟨by rw[wE.out];exact rY.rM 3,H1,H2⟩
theorem IW(rd:Int)(i:Nat)(t:List UInt8)(w:World)(hT:ny w gT m)(h:aJ w m.g vD d rd)(hi:m.first+i<d.aV.length)(ht:t.length<=256):
 bG 232 #[.pointer (some ⟨gT,0,none⟩),.int .i64 (i:Nat),.string (ar t)] w λe w'=>rY d.alive 3 e/\aJ w' m.g vD (d.change (.wr (m.first+i) t)) rd/\ag (dF m.g vD) w w':=Oo gT m _ vD d rd i t w hT h hi ht
theorem LN(rd:Int)(w:World)(hT:ny w gT m)(h:aJ w m.g vD d rd):
 bG 233 #[.pointer (some ⟨gT,0,none⟩)] w λe w'=>rY d.alive 3 e/\aJ w' m.g vD (d.change .sy) rd/\ag (dF m.g vD) w w':=aeY gT m _ vD d rd w hT h
end Go.Proofs.YtbhpofdafhahgaaGreatDoor
namespace Go.Proofs.Pl
variable (n:Nat) (js:List Nat)
def fc:Nat:=(List.range n).countP (λj=>decide (j∈js))
theorem FD:fc (n+1) js=fc n js+if n∈js then 1 else 0:=by unfold fc;rw[jK,List.countP_append,List.countP_singleton];simp
theorem xF(js:List Nat)(j:Nat):∀n,fc n (js++ [j])=fc n js+if j<n/\j∉js then 1 else 0
 |0=>by simp[fc]
 |n+1=>by
  rw[FD,FD,xF js j n];by_cases h1:n∈js
  ·by_cases h2:j∈js
   ·simp[h1,h2]
   ·have:j≠n:=λe=>zw;by_cases h3:j<n
    ·simp[h1,h2,h3,Nat.lt_succ_of_lt h3]
    ·have:¬j<n+1:=zo;simp[h1,h2,h3,this]
  ·by_cases h2:n=j
   ·subst h2;simp[h1]
   ·have h4:j<n+1↔j<n:=zo;simp[h1,h2,h4]
theorem Mo:fc n js<=n:=by have:=List.countP_le_length (p:=λj=>decide (j∈js)) (l:=List.range n);rwa [ru]at this
theorem WV{n j:Nat}{js:List Nat}(h:j∈js)(hn:j<n):0<fc n js:=
 List.countP_pos_iff.2 zw
end Go.Proofs.Pl
namespace Go.Proofs.YtbhpofdafhahgaaGreatDoor
open Go.RowKit Go.Maps Go.WideMaps
variable [Inhabited eH]
variable {w w':World} {b k:Nat} {js:List Nat}
theorem Tryz.VT:Keyed Tryz.prog 3:=int_keyed Tryz.underlying3
theorem Tryz.amQ(w:World):(zeroValue 3).run Tryz.prog w= .ok (.int .i64 0) w:=by simp
theorem abW(j:Nat)(hj:j<=100000):(Lit.int .i64 (j:Int)).wf=true:=by
 simp only[Lit.wf,IntKind.min,IntKind.max,IntKind.signed,IntKind.bits]
 first|(simp;omega)|(simp[IntKind.i64];omega)|omega
def eW(w:World)(b k:Nat)(js:List Nat):Prop:=
 ∃D:DataW Unit,w.ownsMap Tryz.prog 3 (plainElem Tryz.prog 3) b k D/\(∀j:Nat,D.atKey (.int .i64 (j:Int)) (.lit (.int .i64 0))= .lit (.int .i64 ((js.count j:Nat):Int)))/\(∀n,(∀j∈js,j<n)->Maps.size D=Pl.fc n js)/\∀j:Nat,Maps.has D (.int .i64 (j:Int))=decide (j∈js)
theorem eW.heap(h:eW w b k js)(hh:w'.heap[b]?=w.heap[b]?):eW w' b k js:=by obtain⟨D,⟨es,clock,h1,h2⟩,h3⟩:=h;exact⟨D,⟨es,clock,hh.trans h1,h2⟩,h3⟩
theorem eW.made(w:World):eW (w.alloc (.map #[] 0)) w.heap.size 0 []:=⟨.map [],World.ownsMap_made _ _ _ _,λs=>rfl,λn _=>by simp[Pl.fc,Maps.size],λ_=>rfl⟩
theorem eW.lt{w:World}{b k:Nat}{js:List Nat}(h:eW w b k js):b<w.heap.size:=by
 obtain⟨D,⟨es,clock,h1,h2⟩,h3⟩:=h
 grind
theorem eW.ne{g:Nat}{t:TypeId}{cs:List Value}(h:eW w b k js)(hb:ay w g t cs):b≠g:=by
 rintro rfl;obtain⟨D,⟨es,clock,h1,h2⟩,h3⟩:=h;unfold ay at hb
 grind
theorem eW.only{F:Nat->Prop}{ts:List TypeId}(h:eW w b k js)(ho:ag F w w')(hk:bR F w ts):eW w' b k js:=by
 refine h.heap (ho.block b h.lt (λhf=>?_));obtain⟨t,_,cs,fz,hb⟩:=hk b hf;obtain⟨D,⟨es,clock,h1,h2⟩,h3⟩:=h
 grind
theorem eW.look(h:eW w b k js)(j:Nat)(hj:j<=100000):
 (Instr.lookup 365 (.map (some b)) (.int .i64 (j:Int)) false).run Tryz.prog w= .ok (.int .i64 ((js.count j:Nat):Int)) w:=by
 obtain⟨D,bI,h3,_⟩:=h;have tZ:keyOf Tryz.prog 3 (.int .i64 (j:Int))=some (.int .i64 (j:Int)):=keyOf_int_mk Tryz.underlying3 (abW j hj);obtain⟨c,hrun,yT,_⟩:=bI.lookup_int Tryz.VT Tryz.underlying365 Tryz.underlying3 zu tZ
 grind
theorem acR(gu gx gt gT b k:Nat)(m:Tm)(js:List Nat)(x y:Nat)(w:World)(hu:ay w gu 365 [.map (some b)])(hx:ay w gx 3 [.int .i64 (x:Nat)])(ht:ay w gt 140 [.pointer (some ⟨gT,0,none⟩)])(hT:ny w gT m)(hU:eW w b k js)
 (hxy:x<=y) (hy:y<m.n) (hn:m.n<=4096) (Lq:y∉js) (fj:∀j,x<=j->j<y->j∈js):
 bG 257 #[.pointer (some ⟨gu,0,none⟩),.pointer (some ⟨gx,0,none⟩),.pointer (some ⟨gt,0,none⟩)] w λe w'=>e= .returned (.int .i64 (y:Nat))/\ag (·=gx) w w'/\ay w' gx 3 [.int .i64 ((y+1:Nat):Int)]:=by
 have aoW:gu≠gx:=hu.ne hx zj;have afG:gt≠gx:=ht.ne hx zj;have agw:gT≠gx:=hT.ne hx zj;have apQ:b≠gx:=hU.ne hx;obtain⟨n,wM⟩:=ze m.n;rw[wM]at hy hn;go_enter Tryz.func257,Tryz.ntmps257;go_wp2_with fail
 go_loopw [] (λwr=>∃j:Nat,x<=j/\j<=y/\Hid (ay wr gx 3 [.int .i64 (j:Nat)])/\Hid (ag (·=gx) w wr)) (λwr=>y+1-(match wr.cell? ⟨gx,0,none⟩with|some v=>(intOf v).toNat|none=>0))
 case atStart=>exact⟨x,ai _,hxy,hx,ag.refl _ _⟩
 case round=>
  obtain⟨j,hj1,hj2,HJ,HO⟩:=hrel;obtain⟨c0,f0⟩:=bP HJ;have d0:wr.cell? ⟨gu,0,none⟩=some (.map (some b)):=(HO.aC hu aoW).cell 0;have hU2:=hU.heap (HO.block b hU.lt apQ);have mW:=hU2.look j zo;by_cases hjy:j<y
  ·have hc:0<js.count j:=List.count_pos_iff.2 (fj j hj1 hjy);obtain⟨c,hcc⟩:=ze (js.count j);rw[hcc]at mW hc;have q1:(0:Int)<(c:Int):=zo;have hwr:IntKind.i64.wrap ((j:Int)+1)=(j:Int)+1:=aY _ zo;go_wp2_with fail;have aI:ay (wr.setCell ⟨gx,0,none⟩ (.int .i64 ((j:Int)+1))) gx 3 [.int .i64 ((j+1:Nat):Int)]:=HJ.bw 0 _;have e1:(wr.setCell ⟨gx,0,none⟩ (.int .i64 ((j:Int)+1))).cell? ⟨gx,0,none⟩=some (.int .i64 ((j+1:Nat):Int)):=aI.cell 0;refine⟨⟨j+1,zo,zo,aI,HO.setCell (p:=⟨gx,0,none⟩) (.inl rfl) _⟩,?_⟩;rw[e1,c0];simp[intOf];omega
  ·obtain rfl:j=y:=zo;have hc:js.count j=0:=List.count_eq_zero.2 Lq;rw[hc]at mW;have d1:wr.cell? ⟨gt,0,none⟩=some (.pointer (some ⟨gT,0,none⟩)):=(HO.aC ht afG).cell 0;have d2:wr.cell? ⟨gT,2,none⟩=some (.int .i64 (n:Nat)):=by rw[<-wM];exact(HO.aC hT agw).cell 2
   have q1:(j:Int)<(n:Int):=zo;have q2:decide ((j:Int)>=(n:Int))=false:=aH zo;have hwr:IntKind.i64.wrap ((j:Int)+1)=(j:Int)+1:=aY _ zo;have atM:IntKind.i64.wrap ((j:Int)+1-1)=(j:Int):=by rw[aY _ zo];omega
   have atI:IntKind.i64.wrap (j:Int)=(j:Int):=aY _ zo;go_wp2_with fail
   go_region
   all_goals
    go_wp2_with fail;go_ret;exact⟨rfl,(HO.setCell (p:=⟨gx,0,none⟩) (.inl rfl) _).drew,HJ.bw 0 _⟩
end Go.Proofs.YtbhpofdafhahgaaGreatDoor
