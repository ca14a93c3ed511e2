/- Part 4: ReadA ReadB OwnFull ChainA ChainB ReadC ChainC ReadD ChainE DiskB WalA WalB. -/
import Derived.Deep.Cut
import Derived.Deep.CutRange
import Derived.Outline
import Derived.Defers
import Derived.Recover
import Derived.Laws.Pointers
import Derived.Test.YtbhpofdafhahgaaGreatDoorMq3
set_option linter.all false
set_option maxHeartbeats 8000000
set_option maxRecDepth 100000
namespace Go.Proofs.YtbhpofdafhahgaaGreatDoor
open Go.RowKit
variable {w w':World} {A:Option Addr} {l:List UInt8} {g:Nat} {bad:Bool} {F:Nat->Prop}
def rL(w:World)(g:Nat)(l:List UInt8)(bad:Bool):Prop:=
 ∃A aB,l.length<=aB/\l.length<=140737488351232/\ay w g 210 [.slice A l.length aB,.bool bad]/\aw w A l/\∀p,A=some p->p.block<g
theorem aw.cut(h:aw w A l)(n aB:Nat)(hn:n<=l.length)(hc:l.length<=aB):aw w (if aB=n then A else A.map (·.add n)) (l.drop n):=by
 by_cases Fi:aB=n
 ·rw[ah Fi];exact .inl (uE zo)
 ·rw[aj Fi];rcases h with rfl|⟨b,off,rfl,h⟩
  ·exact .inl zu
  ·refine .inr ⟨b,off+n,by simp[nJ],λi hi=>?_⟩;rw[bT]at hi;rw[List.getElem_drop,ew];exact h (n+i) zo
theorem aw.head(h:aw w A l)(n:Nat):aw w A (l.take n):=by
 rcases h with rfl|⟨b,off,rfl,h⟩
 ·exact .inl zu
 ·refine .inr ⟨b,off,rfl,λi hi=>?_⟩;rw[aP]at hi;rw[List.getElem_take];exact h i zo
theorem Mr{n aB:Nat}(h:∀p,A=some p->p.block<g):∀p,(if aB=n then A else A.map (·.add n))=some p->p.block<g:=by
 intro p hp;split at hp
 ·grind
 ·cases A with
  |none=>grind
  |some q=>
   simp only[AY,uH]at hp;subst hp;obtain⟨b,o,pt⟩:=q;have:=h _ rfl;unfold Addr.add
   grind
theorem xE(hl:g<w.heap.size)(h:ag (·=g) w w')(hb:aw w A l)(hA:∀p,A=some p->p.block<g):aw w' A l:=
 h.bytes hb (λp hp he=>by grind)
theorem rL.put{m aB:Nat}(hlt:g<w.heap.size)(h:ag (·=g) w w')(hB:ay w' g 210 [.slice A m aB,.bool bad])(hm:l.length=m)(hc:m<=aB)(YY:m<=140737488351232)
 (hb:aw w A l) (hA:∀p,A=some p->p.block<g):rL w' g l bad:=by
 subst hm;exact⟨A,aB,hc,YY,hB,xE hlt h hb hA,hA⟩
theorem QU(g n:Nat)(l:List UInt8)(bad:Bool)(w:World)(h:rL w g l bad)(hn:n<=l.length):
 bG 137 #[.pointer (some ⟨g,0,none⟩),.int .i64 n] w λe w'=>∃A,e= .returned (.slice A n n)/\aw w' A (l.take n)/\(∀p,A=some p->p.block<g)/\rL w' g (l.drop n) bad/\w.grownBy w' (some g):=by
 obtain⟨A,aB,hc,hm,hB,hb,hA⟩:=h;obtain⟨m,hlm⟩:=ze l.length;have hlt:=hB.lt;rw[hlm]at hB hc hm hn;obtain⟨hcut,EU⟩:=dz (hb.cut n aB zo zo) (Mr (n:=n) (aB:=aB) hA);have c0:=hB.cell 0;have f0:=hB.frozen 0;simp only[au]at c0;have HL:=zi (show(l.drop n).length=m-n by rw[bT,hlm]);have vL:¬(m:Int)<n:=zo;have qG:¬m<n:=zo;have hx3:(0:Int)<=(n:Int):=zo;have hx4:(n:Int)<=(m:Int):=zo;have hx5:(n:Int)<=(aB:Int):=zo;have pA:∀A',(∀p,A'=some p->p.block<g)->aw w A' (l.drop n)->rL (w.setCell ⟨g,0,none⟩ (.slice A' (m-n) (aB-n))) g (l.drop n) bad/\w.grownBy (w.setCell ⟨g,0,none⟩ (.slice A' (m-n) (aB-n))) (some g)/\aw (w.setCell ⟨g,0,none⟩ (.slice A' (m-n) (aB-n))) A (l.take n):=by intro A' h1 h2;have ho:=(ag.refl (·=g) w).setCell (p:=⟨g,0,none⟩) (.inl rfl) (.slice A' (m-n) (aB-n));exact⟨rL.put hlt ho (hB.bw 0 _) HL zo zo h2 h1,ho.I8,xE hlt ho (hb.head n) hA⟩
 clear hB hlm hb;go_enter Tryz.func137,Tryz.ntmps137;go_wp2_with fail
 all_goals
  go_ret;have h1:=hcut.out;have h2:=EU.out
  first
   |(rw[aj (by assumption)]at h1 h2
     obtain⟨k1,k2,k3⟩:=pA _ h2 h1;exact⟨A,rfl,k3,hA,k1,k2⟩)
   |(rw[ah zo]at h1 h2
     obtain⟨k1,k2,k3⟩:=pA _ h2 h1;rw[show aB-n=0 by omega]at k1 k2 k3;exact⟨A,rfl,k3,hA,k1,k2⟩)
theorem Ul(g n:Nat)(l:List UInt8)(bad:Bool)(w:World)(h:rL w g l bad)(hn:l.length<n)(mV:n<=9223372036854775807):
 bG 137 #[.pointer (some ⟨g,0,none⟩),.int .i64 n] w λe w'=>∃A,e= .returned (.slice A l.length l.length)/\aw w' A l/\(∀p,A=some p->p.block<g)/\rL w' g [] true/\w.grownBy w' (some g):=by
 obtain⟨A,aB,hc,hm,hB,hb,hA⟩:=h;obtain⟨m,hlm⟩:=ze l.length;have hlt:=hB.lt;rw[hlm]at hB hc hm hn|-
 have EU:=zi (Mr (n:=m) (aB:=aB) hA);have c0:=hB.cell 0;have f0:=hB.frozen 0;have c1:=hB.cell 1;have f1:=hB.frozen 1;simp only[au,aL]at c0 c1;have vL:(m:Int)<n:=zo;have qG:m<n:=zo;have hx5:(m:Int)<=(aB:Int):=zo
 have pA:∀A',(∀p,A'=some p->p.block<g)->rL ((w.setCell ⟨g,1,none⟩ (.bool true)).setCell ⟨g,0,none⟩ (.slice A' 0 (aB-m))) g [] true/\w.grownBy ((w.setCell ⟨g,1,none⟩ (.bool true)).setCell ⟨g,0,none⟩ (.slice A' 0 (aB-m))) (some g)/\
  aw ((w.setCell ⟨g,1,none⟩ (.bool true)).setCell ⟨g,0,none⟩ (.slice A' 0 (aB-m))) A l:=by
  intro A' h1;have ho:=((ag.refl (·=g) w).setCell (p:=⟨g,1,none⟩) (.inl rfl) (.bool true)).setCell (p:=⟨g,0,none⟩) (.inl rfl) (.slice A' 0 (aB-m));exact⟨rL.put hlt ho ((hB.bw 1 _).bw 0 _) rfl zo zo (.inl rfl) h1,ho.I8,xE hlt ho hb hA⟩
 clear hB hlm hb;go_enter Tryz.func137,Tryz.ntmps137;go_wp2_with fail
 all_goals
  go_ret;have h2:=EU.out
  first
   |(rw[aj (by assumption)]at h2
     obtain⟨k1,k2,k3⟩:=pA _ h2;exact⟨A,rfl,k3,hA,k1,k2⟩)
   |(rw[ah zo]at h2
     obtain⟨k1,k2,k3⟩:=pA _ h2;rw[show aB-m=0 by omega]at k1 k2 k3;exact⟨A,rfl,k3,hA,k1,k2⟩)
theorem De(g n:Nat)(l:List UInt8)(bad:Bool)(w:World)(h:rL w g l bad)(mV:n<=9223372036854775807):
 bG 137 #[.pointer (some ⟨g,0,none⟩),.int .i64 n] w λe w'=>∃A,e= .returned (.slice A (l.take n).length (l.take n).length)/\aw w' A (l.take n)/\(∀p,A=some p->p.block<g)/\rL w' g (l.drop n) (bad||decide (l.length<n))/\w.grownBy w' (some g):=by
 by_cases hn:n<=l.length
 ·refine(QU g n l bad w h hn).mono ?_
  grind
 ·refine(Ul g n l bad w h zo mV).mono ?_;rintro e w' ⟨A,rfl,h1,h2,h3,h4⟩;have ht:l.take n=l:=dx zo
  grind
theorem Xz(a c:Nat)(h:a<72057594037927936)(hc:c<256):bits .or .u64 ((a:Int)*256) (c:Int)=((256*a+c:Nat):Int):=by rw[bits_join .u64 64 zj (λn h0 h1=>by rw[lE];omega) 8 _ _ zo zo zo zo zo zo];omega
theorem N1(A:Option Addr)(aB:Nat)(l:List UInt8)(w:World)(hb:aw w A l)(hl:l.length<=8):
 bG 123 #[.slice A l.length aB] w λe w'=>e= .returned (.int .u64 (Pl.num l:Nat))/\w=w':=by
 go_enter Tryz.func123,Tryz.ntmps123;go_wp2_with fail
 go_loop [3,7] (λv i=>∃k:Nat,k<=l.length/\i= .int .i64 k/\v= .int .u64 (Pl.num (l.take k):Nat)) (λ_ i=>l.length-(intOf i).toNat)
 case atStart=>exact⟨0,aM _,rfl,rfl⟩
 case round=>
  obtain⟨k,hk,rfl,rfl⟩:=hrel;by_cases hlt:k<l.length
  ·obtain⟨b,off,rfl,pH⟩:∃b off,A=some ⟨b,off,none⟩/\w.cell? ⟨b,off+k,none⟩=some (.int .u8 (l[k].toNat:Int)):=by
    rcases hb with h|⟨b,off,e,h⟩
    ·subst h;simp at hlt
    ·exact⟨b,off,e,h k hlt⟩
   have uc:=Pl.eN l k;have mV:Pl.num (l.take k)<72057594037927936:=aK uc (jG (n:=256) (j:=7) zj zo);have hc:=l[k].toNat_lt;have Yy:Hid (Pl.num (l.take (k+1))=256*Pl.num (l.take k)+l[k].toNat):=by rw[Hid,yw l k hlt,Pl.wU]
   obtain⟨c,hcc⟩:=ze (l[k].toNat);obtain⟨v,hv⟩:=ze (Pl.num (l.take k));have Vw:Hid (Pl.num (l.take (k+1))=256*v+c):=by rw[<-hv,<-hcc];exact Yy
   rw[hcc]at pH hc;rw[hv]at mV|-
   clear uc Yy hcc hv;go_wp2_with fail;refine⟨⟨k+1,zo,zu,?_⟩,by simp[intOf];omega⟩;rw[Vw.out,Xz v c mV zo]
  ·obtain rfl:k=l.length:=zo;rw[gN];go_wp2_with fail;go_ret;exact⟨rfl,rfl⟩
theorem rL.lt{w:World}{g:Nat}{l:List UInt8}{bad:Bool}(h:rL w g l bad):g<w.heap.size:=by obtain⟨A,aB,_,_,hB,_⟩:=h;exact hB.lt
theorem rL.only(h:rL w g l bad)(ho:ag F w w')(hF:∀x,x<=g->¬F x):rL w' g l bad:=by obtain⟨A,aB,h1,h2,hB,hb,hA⟩:=h;exact⟨A,aB,h1,h2,ho.aC hB zw,ho.bytes hb (λp hp=>zw),hA⟩
theorem rL.aa(h:rL w g l bad)(hb:dP w w'):rL w' g l bad:=h.only (ag.ae hb (λ_=>False)) zu
theorem MN{a:World}(h:ag F a w)(hg:F g\/a.heap.size<=g)(x0 x1 x2 x3:Value):
 ag F a ((((w.setCell ⟨g,0,none⟩ x0).setCell ⟨g,1,none⟩ x1).setCell ⟨g,2,none⟩ x2).setCell ⟨g,3,none⟩ x3):=
 (((h.setCell hg x0).setCell hg x1).setCell hg x2).setCell hg x3
theorem sd(g n:Nat)(l:List UInt8)(bad:Bool)(w:World)(h:rL w g l bad)(hn:n<=7):
 bG 125 #[.pointer (some ⟨g,0,none⟩),.int .i64 n] w λe w'=>e= .returned (.int .i64 (Pl.num (l.take n):Nat))/\rL w' g (l.drop n) (bad||decide (l.length<n))/\w.grownBy w' (some g):=by
 have hlt:=Pl.eN l n;have Gt:Pl.num (l.take n)<72057594037927936:=aK hlt (jG (n:=256) (j:=7) zj hn);have hl8:(l.take n).length<=8:=by rw[aP];omega
 obtain⟨t,ht⟩:=ze (l.take n);obtain⟨v,hv⟩:=ze (Pl.num t);rw[ht]at hl8 Gt|-
 rw[hv]at Gt|-
 clear hlt;go_enter Tryz.func125,Tryz.ntmps125;go_wp2_with fail;refine(De g n l bad w h zo).mono ?_;rintro e w1 ⟨A,rfl,hb,hA,hR,hg⟩;rw[ht]at hb|-
 go_wp2_with fail;refine(N1 A _ t w1 hb hl8).mono ?_;rintro e w' ⟨rfl,rfl⟩;rw[hv];go_wp2_with fail;go_ret;exact⟨rfl,hR,hg⟩
theorem qY(w:World)(A:Option Addr)(n aB k:Nat)(ki:Int)(hki:ki=k)(hk:k<=n):
 (Instr.slice 29 (.slice A n aB) (some (.int .i64 ki)) none none).run Tryz.prog w= .ok (.slice (if aB=k then A else A.map (·.add k)) (n-k) (aB-k)) w:=by
 obtain⟨i0,hi,nQ,kK,mY⟩:=bV Tryz.jm;subst hki;have he:Tryz.prog.elem 29=5:=zp;rw[run_slice_l (P:=Tryz.prog) w 29 A n aB zS .i64 k zo zo,he];simp[sizeOf,typeInfo,hi,kK,sliced]
def pC(w:World)(aq:Nat)(e:TypeId)(size:Nat)(v:Value)(n:Nat)(xs:List Value):Prop:=
 w.ownsRow aq e size v n xs\/(xs.length=n*size/\∃b off,v= .slice (some ⟨b,off,none⟩) n n/\Src w (some ⟨b,off,none⟩) xs)
theorem pC.own{aq:Nat}{e:TypeId}{size n:Nat}{v:Value}{xs:List Value}(h:w.ownsRow aq e size v n xs):pC w aq e size v n xs:= .inl h
theorem pC.alloc{w:World}{aq:Nat}{e:TypeId}{size n:Nat}{v:Value}{xs:List Value}(h:pC w aq e size v n xs)(o:Obj):pC (w.alloc o) aq e size v n xs:=by
 rcases h with h|⟨hl,b,off,hv,hs⟩
 ·exact .inl (h.alloc o)
 ·exact .inr ⟨hl,b,off,hv,hs.aa ((ak _ _).alloc zo o)⟩
section
variable {P:Program} (w:World)
variable {o:Oper} {a:Act} {Q:Exit->Act->World->Prop}
theorem Ey(aq:Nat)(t ty e:TypeId)(i:TypeInfo)(z:Value)(size bytes:Nat)(ht:P.underlying t=some (.slice e))(hi:P.info? e=some i)(hz:i.zero=some z)
 (jE:i.size=size) (pr:i.bytes=bytes) (Ev:z.cells.size=size) (hsz:0<size)
 (v:Value) (n:Nat) (xs:List Value) (bI:pC w aq e size v n xs)
 (A:Option Addr) (m c:Nat) (news:List Value) (hl:news.length=m*size) (hr:Src w A news) (h1:∀u∈news,u.oneCell'=true) (PH:0<m)
 (vH:n+m<=maxLen) (kS:∀old,old<n+m->Builtin.nextslicecap (n+m) old*bytes<=281474976710656) (de:aq<=w.heap.size):
 ∃v' w',(Builtin.append_ #[t,t] ty #[v,.slice A m c]).run P w= .ok v' w'/\w'.ownsRow aq e size v' (n+m) (xs++news)/\Below aq w w'/\
  (∀k,k<w.heap.size->v.ownBlock≠some k->w'.heap[k]?=w.heap[k]?)/\(v'.ownBlock=v.ownBlock\/v'.ownBlock=some w.heap.size):=by
 rcases bI with bI|⟨ZA,b,off,rfl,tX⟩
 ·obtain⟨v',w',h2,h3,h4,h5⟩:=xt (P:=P) w aq t ty e i z size bytes ht hi hz jE pr Ev hsz v n xs bI A m c news hl hr h1 vH kS de;exact⟨v',w',h2,h3,(ak aq w).grown h4 de (λk hk=>(bI.lt k hk).1),λk hk hne=>h4.block k hk (λe=>zw),h5⟩
 ·subst jE;subst pr;have akC:0<news.length:=zS;obtain⟨b2,Rj,rfl,Cp⟩:∃b2 Rj,A=some ⟨b2,Rj,none⟩/\∀j u,news[j]?=some u->w.cell? ⟨b2,Rj+j,none⟩=some u:=by
   rcases hr with h|h
   ·grind
   grind
  have ajD:n+m<=9223372036854775807:=by simp only[maxLen]at vH;omega
  have hrun:=run_append_grow (P:=P) w t ty e i z ht hi hz ⟨b,off,none⟩ n n xs ZA (λj u hu=>by
   obtain⟨b',Lb,e1,hc⟩:=tX.dm j u hu;cases e1;rw[nJ];exact hc) ⟨b2,Rj,none⟩ m c news hl (λj u hu=>by rw[nJ];grind) zo zo zw
  have Ze:=qS w (n+m) n e;have hcm:grownCap w (n+m) n e<=maxLen:=grownCap_le_maxLen w (n+m) n e vH;have bU:(xs++news).length=(n+m)*i.size:=zw;refine⟨_,_,hrun,⟨bU,.inr ⟨w.heap.size,_,_,rfl,de,heap_alloc_new w.drew _,Ze,hcm,?_,?_⟩⟩,((ak aq w).drew).alloc de _,λk hk _=>mS w.drew _ k hk,.inr rfl⟩
  ·simp only[Array.size_append,List.size_toArray,size_zeroCells,Ev,ZA,hl,<-qH]
   grind
  grind
theorem F4{K:Act->World->Prop}(s x:Operand)(t:TypeId)
 (ho:o.op= .call {callee:= .builtin .append,args:= #[s,x],argTypes:= #[t,t]})
 (aq:Nat) (e:TypeId) (i:TypeInfo) (z:Value) (size bytes:Nat) (ht:P.underlying t=some (.slice e)) (hi:P.info? e=some i) (hz:i.zero=some z)
 (jE:i.size=size) (pr:i.bytes=bytes) (Ev:z.cells.size=size) (hsz:0<size)
 (v:Value) (n:Nat) (xs:List Value) (hs:a.eval s=v) (bI:pC w aq e size v n xs)
 (A:Option Addr) (m c:Nat) (news:List Value) (hx:a.eval x= .slice A m c) (hl:news.length=m*size) (hr:Src w A news) (h1:∀u∈news,u.oneCell'=true) (PH:0<m)
 (vH:n+m<=maxLen) (kS:∀old,old<n+m->Builtin.nextslicecap (n+m) old*bytes<=281474976710656) (de:aq<=w.heap.size)
 (h:∀v' w',w'.ownsRow aq e size v' (n+m) (xs++news)->Below aq w w'->(∀k,k<w.heap.size->v.ownBlock≠some k->w'.heap[k]?=w.heap[k]?)->(v'.ownBlock=v.ownBlock\/v'.ownBlock=some w.heap.size)->K (a.put o.dst v') w'):o.wp P a w K Q:=by
 obtain⟨v',w',hrun,h2,h3,h4,h5⟩:=Ey (P:=P) w aq t o.type e i z size bytes ht hi hz jE pr Ev hsz v n xs bI A m c news hl hr h1 PH vH kS de;unfold Oper.wp execOp;simp only[ho,resolve,invoke,builtin,iL,Sem.run_pure,oN,Cy,jf,qL,hs,hx,hrun];exact h v' w' h2 h3 h4 h5
theorem yO{ops:Array Oper}{rest:List Oper}(qO:o.guard=none)(s x:Operand)(t:TypeId)
 (ho:o.op= .call {callee:= .builtin .append,args:= #[s,x],argTypes:= #[t,t]})
 (aq:Nat) (e:TypeId) (i:TypeInfo) (z:Value) (size bytes:Nat) (ht:P.underlying t=some (.slice e)) (hi:P.info? e=some i) (hz:i.zero=some z)
 (jE:i.size=size) (pr:i.bytes=bytes) (Ev:z.cells.size=size) (hsz:0<size)
 (v:Value) (n:Nat) (xs:List Value) (hs:a.eval s=v) (bI:pC w aq e size v n xs)
 (A:Option Addr) (m c:Nat) (news:List Value) (hx:a.eval x= .slice A m c) (hl:news.length=m*size) (hr:Src w A news) (h1:∀u∈news,u.oneCell'=true) (PH:0<m)
 (vH:n+m<=maxLen) (kS:∀old,old<n+m->Builtin.nextslicecap (n+m) old*bytes<=281474976710656) (de:aq<=w.heap.size)
 (h:∀v' w',w'.ownsRow aq e size v' (n+m) (xs++news)->Below aq w w'->(∀k,k<w.heap.size->v.ownBlock≠some k->w'.heap[k]?=w.heap[k]?)->(v'.ownBlock=v.ownBlock\/v'.ownBlock=some w.heap.size)->wpList P ops Q rest (a.put o.dst v') w'):wpList P ops Q (o::rest) a w:=
 oS qO λ_ hK=>F4 w s x t ho aq e i z size bytes ht hi hz jE pr Ev hsz v n xs hs bI A m c news hx hl hr h1 PH vH kS de λv' w' h2 h3 h4 h5=>hK _ _ (h v' w' h2 h3 h4 h5)
end
variable (w:World) (A:Option Addr) (a b d n aB:Nat) (l:List UInt8)
theorem kO{P:Program}(t e:TypeId)(cs:Array Value)(n:Nat)(ht:P.underlying t=some (.slice e))(he:P.underlying e=some (.int .u8))(hn:n=cs.size):
 (convert t t (.slice (some ⟨w.heap.size,0,none⟩) n n)).run P (w.alloc (.cells cs e))= .ok (.slice (some ⟨w.heap.size,0,none⟩) n n) (w.alloc (.cells cs e (n,n+1))):=by
 subst hn;have CD:(w.alloc (.cells cs e)).shape? w.heap.size=some (e,cs.size):=by unfold World.shape?;rw[heap_alloc_new]
 have tu:(w.alloc (.cells cs e)).freeze ⟨w.heap.size,cs.size,none⟩ 1=w.alloc (.cells cs e (cs.size,cs.size+1)):=by
  have hm:∀(a:Array Obj) (x:Obj) (f:Obj->Obj),(a.push x).modify a.size f=a.push (f x):=by
   grind
  unfold World.freeze;rw[aj zj];show({w.alloc (.cells cs e)with heap:=(w.heap.push (.cells cs e)).modify w.heap.size _}:World)=_;rw[hm];rfl
 simp[convert,gA ht,gA he,markStringish,CD,tu]
theorem aga(c:UInt8):bv (l++ [c])=bv l++ [.int .u8 (c.toNat:Int)]:=by simp[bv]
theorem mw(v:Value)(n:Nat)(l:List UInt8)(x s aq:Nat)(w:World)(bI:pC w aq 5 1 v n (bv l))(de:aq<=w.heap.size)(hx:x<18446744073709551616)(hs:s<=8)(Fl:0<s)(hn:n<=70368744177664):
 bG 132 #[v,.int .u64 x,.int .i64 s] w λe w'=>∃v',e= .returned v'/\w'.ownsRow aq 5 1 v' (n+s) (bv (l++Pl.be s x))/\Below aq w w'/\
  (∀k,k<w.heap.size->v.ownBlock≠some k->w'.heap[k]?=w.heap[k]?/\v'.ownBlock≠some k):=by
 obtain⟨i0,hi,nQ,kK,mY⟩:=bV Tryz.jm;go_enter Tryz.func132,Tryz.ntmps132;go_wp2_with fail
 go_loopw [0,7] (λu i wr=>∃j:Nat,j<=s/\i= .int .i64 ((s:Int)-1-j)/\Hid (pC wr aq 5 1 u (n+j) (bv (l++(Pl.be s x).take j)))/\Hid (0<j->wr.ownsRow aq 5 1 u (n+j) (bv (l++(Pl.be s x).take j)))/\Below aq w wr/\
  Hid (∀k,k<w.heap.size->v.ownBlock≠some k->wr.heap[k]?=w.heap[k]?/\u.ownBlock≠some k)) (λ_ i _=>(intOf i+1).toNat)
 case atStart=>exact⟨0,zo,zu,(by simpa using bI:pC w aq 5 1 v (n+0) (bv (l++(Pl.be s x).take 0))),λh=>absurd h zo,ak _ _,λk hk hne=>⟨rfl,hne⟩⟩
 case round=>
  obtain⟨j,hj,rfl,HO,EB,jN,HF⟩:=hrel;by_cases hjs:j<s
  ·obtain⟨q,hq⟩:∃q:Nat,(s:Int)-1-j=(q:Int):=⟨s-1-j,zo⟩;have hq8:q<=7:=zo;obtain⟨y,hy⟩:∃y:Int,(x:Int)/2^(8*q)%256=y:=⟨_,rfl⟩;have hyv:y=((UInt8.ofNat (x/256^q)).toNat:Int):=by rw[<-hy,show(256:Nat)=2^8 from rfl,<-Nat.pow_mul];simp
   have Ca:Hid (bv (l++(Pl.be s x).take (j+1))=bv (l++(Pl.be s x).take j)++ [.int .u8 y]):=by rw[Hid,Pl.Nk s x j hjs,<-cJ,aga,hyv,show s-1-j=q by omega]
   rw[hq];obtain⟨ee,QX⟩:=dz (HO.alloc (.cells #[.int .u8 y] 5)) (Src.dE (ay.new wr 5 [.int .u8 y]));have tI:=jN.alloc (ao de jN.size) (.cells #[.int .u8 y] 5);have Jc:aq<=(wr.alloc (.cells #[.int .u8 y] 5)).heap.size:=ao (ao de jN.size) zu;obtain⟨hroom,vH⟩:=dz (iK (n:=n+j) (m:=1) zo) (show n+j+1<=maxLen by simp only[maxLen];omega);have Gi:Hid (∀u∈ [Value.int .u8 y],u.oneCell'=true):=by intro u hu;simp at hu;subst hu;rfl
   have atJ:=jN.size;clear hyv jN
   go_wp2_with (at_builtin
                refine yO _ rfl (.tmp 14) (.tmp 20) 29 rfl aq 5 i0 (.int .u8 0) 1 1 Tryz.underlying29 hi nQ kK mY rfl zj u0 (n+j) (bv (l++(Pl.be s x).take j)) rfl ee (some ⟨wr.heap.size,0,none⟩) 1 1 [.int .u8 y] rfl rfl QX Gi zj vH hroom Jc ?_;intro v3 w3 kW vV aiO Zq)
   have hF:=HF.out;have eF:w3.ownsRow aq 5 1 v3 (n+(j+1)) (bv (l++(Pl.be s x).take (j+1))):=by rw[Ca.out];exact kW
   refine⟨⟨j+1,zo,?_,.inl eF,λ_=>eF,tI.trans vV,?_⟩,?_⟩
   ·have:=hq;congr 1;omega
   ·intro k hk hne;obtain⟨h1,h2⟩:=hF k hk hne;refine⟨((aiO k (by simp;omega) h2).trans (mS wr _ k zo)).trans h1,?_⟩;rcases Zq with e|e
    ·rw[e];exact h2
    ·rw[e];simp;omega
   ·simp[intOf]
  ·obtain rfl:j=s:=zo;have aui:¬(0:Int)<=(j:Int)-1-j:=zo;have HF2:=HF.out;have ho:=EB.out Fl;rw[dx (by rw[Pl.aG];exact ai _)]at ho;clear HO EB;go_wp2_with fail;go_ret;exact⟨_,rfl,ho,jN,HF2⟩
theorem ady(hn:n<4294967296):hc n=bv (Pl.be 4 n):=(CT n hn).symm
theorem Su(h r:Nat)(w:World)(hb:b<4294967296)(hh:h<4294967296)(hr:r<4294967296):
 bG 142 #[.int .i64 b,bM h,bM r] w λe w'=>∃A' cap',e= .returned (.slice A' 13 cap')/\aw w' A' (Pl.header b h r)/\dP w w'/\13<=cap'/\∀p,A'=some p->w.heap.size<=p.block/\p.block<w'.heap.size:=by
 obtain⟨i0,hi,nQ,kK,mY⟩:=bV Tryz.jm;obtain⟨w0,Lt⟩:=ze ((w.alloc (.cells (hc h).toArray 80)).alloc (.cells (hc r).toArray 80));have alk:w0.heap.size=w.heap.size+1+1:=by rw[<-Lt];simp
 have B1:ay w0 w.heap.size 80 (hc h):=by rw[<-Lt];exact(ay.new _ _ _).alloc _
 have B2:ay w0 (w.heap.size+1) 80 (hc r):=by rw[<-Lt];exact ay.newAt _ _ _ _ zu
 have hm:=kO (P:=Tryz.prog) w0 29 5 #[.int .u8 66] 1 Tryz.underlying29 Tryz.underlying5 rfl;have MC:Below w.heap.size w w0:=by rw[<-Lt];exact(za _ _).alloc zu _
 have tK:=MC.alloc MC.size (.cells #[.int .u8 66] 5 (1,2));have Dt:pC (w0.alloc (.cells #[.int .u8 66] 5 (1,2))) w.heap.size 5 1 (.slice (some ⟨w.heap.size+1+1,0,none⟩) 1 1) 1 (bv [66]):=by refine .inr ⟨rfl,_,_,rfl,.inr ⟨_,_,rfl,λj u hu=>?_⟩⟩;rw[<-alk,bZ,mF _ _ _ _ _ _ (heap_alloc_new w0 _)];simpa [bv] using hu
 obtain⟨fJ,eY,HH,HR⟩:=yx ((mS w0 (.cells #[.int .u8 66] 5 (1,2)) _ B1.lt).trans B1) ((mS w0 (.cells #[.int .u8 66] 5 (1,2)) _ B2.lt).trans B2) (ady h hh) (ady r hr);rw[alk]at hm;unfold hc at Lt;unfold bM;clear B1 B2 MC;go_enter Tryz.func142,Tryz.ntmps142;go_wp2_with fail;refine(mw (.slice (some ⟨w.heap.size+1+1,0,none⟩) 1 1) 1 [66] b 4 w.heap.size _ Dt tK.size zo zo zo zo).mono ?_;rintro e w1 ⟨v1,rfl,mU,aI,Sn⟩;obtain⟨k1,n1⟩:=Sn w.heap.size (by simp;omega) (λe=>by have:=fB (show some (w.heap.size+1+1)=some w.heap.size from e);omega);obtain⟨k2,n2⟩:=Sn (w.heap.size+1) (by simp;omega) (λe=>by have:=fB (show some (w.heap.size+1+1)=some (w.heap.size+1)from e);omega);have Fb:ay w1 w.heap.size 80 (hc h):=k1.trans fJ;have EC:ay w1 (w.heap.size+1) 80 (hc r):=k2.trans eY;have S1:=zi (Src.dE Fb);have tI:=tK.trans (aI.mono (ai _));have pT:=tI.size;have Gt:=EC.lt;clear Sn k1 k2 Fb aI hm Lt alk;go_wp2_with fail
 go_region_held3 (λ_=>True) (trivial) (first
  |(refine fY _ rfl (.tmp 13) (.tmp 14) 29 rfl w.heap.size 5 i0 (.int .u8 0) 1 1 Tryz.underlying29 hi nQ kK mY rfl zj v1 5 _ rfl mU (some ⟨w.heap.size,0,none⟩) 4 4 (hc h) rfl rfl S1 (JR h) ?_ (iK ?_) pT ?_
    ·simp only[maxLen];omega
    ·omega
    intro v2 w2 ee rQ Fk;have vV:=tI.drew.grown rQ pT (λg hg=>(mU.lt g hg).1);have uB:=vV.size;have S2:=zi (Src.dE (EC.drew.grown rQ (λe=>n2 e.symm))))
  |(refine fY _ rfl (.tmp 15) (.tmp 16) 29 rfl w.heap.size 5 i0 (.int .u8 0) 1 1 Tryz.underlying29 hi nQ kK mY rfl zj v2 9 _ rfl ee (some ⟨w.heap.size+1,0,none⟩) 4 4 (hc r) rfl rfl S2 (JR r) ?_ (iK ?_) uB ?_
    ·simp only[maxLen];omega
    ·omega
    intro v3 w3 kW Cr Zq;have MA:=vV.grown Cr uB (λg hg=>(ee.lt g hg).1))
  |fail)
 go_wp2_with fail;obtain⟨A1,yL,rfl,fo,tX,Zq⟩:=bJ kW;obtain⟨agT,ahR⟩:=dz (λp hp=>kW.lt _ (Zq p hp)) fo;go_ret;refine⟨A1,yL,rfl,Src.bytes ?_,MA,ahR,agT⟩;have:bv (Pl.header b h r)=bv ([66]++Pl.be 4 b)++hc h++hc r:=by rw[HH.out,HR.out,<-nu,<-nu];simp[Pl.header]
 rw[this];exact tX
theorem dQ(aB:Nat)(h:aw w A l):
 (convert 29 9 (.slice A l.length aB)).run Tryz.prog w= .ok (.string (ar l)) w:=by
 cases A with
 |none=>
  have:l=[]:=by
   rcases h with h|⟨_,_,e,_⟩
   ·exact h
   grind
  subst this;exact run_convert_bytes_nil w 29 5 Tryz.underlying29 Tryz.underlying5 0 aB 9 Tryz.underlying9
 |some a=>refine run_convert_bytes_back (P:=Tryz.prog) w 29 9 5 a aB l Tryz.underlying29 Tryz.underlying5 Tryz.underlying9 (λj hj=>?_);obtain⟨b,off,e,hc⟩:=h.dm j hj;cases e;rw[nJ];exact hc
theorem qU(a b:List UInt8):((ar a).toList==(ar b).toList)=(a==b):=by rw[Cb,Cb,qC,qC]
theorem xj(B:Option Addr)(l m:List UInt8)(c d:Nat)(w:World)(ha:aw w A l)(hb:aw w B m):
 bG 172 #[.slice A l.length c,.slice B m.length d] w λe w'=>e= .returned (.bool (l==m))/\w=w':=by
 have h1:=dQ w A l c ha;have h2:=dQ w B m d hb;have h3:=qU l m;go_enter Tryz.func172,Tryz.ntmps172;go_wp2_with fail;go_ret;exact⟨rfl,rfl⟩
theorem pn(w:World)(hb:aw w A l)(hm:l.length<=9223372036854775807):
 bG 129 #[.slice A l.length aB] w λe w'=>e= .returned (bM (Pl.iZ l))/\dP w w':=by
 have aI:=hb.bQ (w':=w.alloc (.cells #[.int .u8 0,.int .u8 0,.int .u8 0,.int .u8 0] 80)) (za _ _);obtain⟨x,hx⟩:=ze (Pl.iZ l);have hS:=DB A aB l _ aI hm;rw[hx]at hS|-
 clear hx hb aI;go_enter Tryz.func129,Tryz.ntmps129;go_wp2_with fail;refine hS.mono ?_;rintro e w1 ⟨rfl,aI⟩;unfold bM;have hB:=(ay.afa w).aa aI zu;obtain⟨c0,c1,c2,c3,f0,f1,f2,f3⟩:=eh hB;have H':=zi (((ak w.heap.size w).alloc (ai _) _).trans (aI.mono zu));clear aI;go_wp2_with fail;refine bH (v:=bM x) (nD rfl rfl (hB.R0 _ _ _ _)) rfl ⟨rfl,?_⟩;exact rC H' (ai _) _ _ _ _
theorem Zy(x0 x1 x2 x3 y0 y1 y2 y3:Int)(w:World)(h:∀a b w,(Op.equalIn d 5 (.int .u8 a) (.int .u8 b)).run Tryz.prog w= .ok (a==b) w):(Op.equalIn (d+1) 80 (.agg #[.int .u8 x0,.int .u8 x1,.int .u8 x2,.int .u8 x3]) (.agg #[.int .u8 y0,.int .u8 y1,.int .u8 y2,.int .u8 y3])).run Tryz.prog w= .ok (x0==y0&&(x1==y1&&(x2==y2&&x3==y3))) w:=by
 obtain⟨i0,hi,nQ,kK,mY⟩:=bV Tryz.jm;have hs:∀w,(sizeOf 5).run Tryz.prog w= .ok 1 w:=by simp
 have hp:∀(w:World) (i:Nat) (z:Array Value) (v:Value),z[i]?=some v->(part 5 z i).run Tryz.prog w= .ok v w:=by
  intro w i z v hz;have ha:∀w,(isAgg 5).run Tryz.prog w= .ok false w:=by simp
  simp[part,ha,hz]
 simp only[Op.equalIn,iL,gA Tryz.underlying80,oN];simp only[hs,oN,Std.Legacy.Range.forIn_eq_forIn_range'];simp only[show List.range' ([0:4]:Std.Legacy.Range).start ([0:4]:Std.Legacy.Range).size ([0:4]:Std.Legacy.Range).step=[0,1,2,3]from rfl];simp only[List.forIn_cons,List.forIn_nil,iL];have p0:=λ(a b c d:Value) (w:World)=>hp w (0*1) #[a,b,c,d] a rfl;have p1:=λ(a b c d:Value) (w:World)=>hp w (1*1) #[a,b,c,d] b rfl;have p2:=λ(a b c d:Value) (w:World)=>hp w (2*1) #[a,b,c,d] c rfl;have p3:=λ(a b c d:Value) (w:World)=>hp w (3*1) #[a,b,c,d] d rfl;simp only[p0,oN,h];cases h0:x0==y0<;>cases h1:x1==y1<;>cases h2:x2==y2<;>cases h3:x3==y3<;>simp[h1,h2,h3,p1,p2,p3,h]
theorem Kn(ha:a<4294967296)(hb:b<4294967296):(((a:Int)/16777216==(b:Int)/16777216)&&(((a:Int)/65536%256==(b:Int)/65536%256)&&(((a:Int)/256%256==(b:Int)/256%256)&&((a:Int)%256==(b:Int)%256))))=decide (a=b):=by rw[qZ];simp only[oX,uz,qF];omega
theorem DZ(ha:a<4294967296)(hb:b<4294967296)(w:World):(binOp .neq 80 (bM a) (bM b)).run Tryz.prog w= .ok (.bool (!decide (a=b))) w:=by unfold bM;rw[run_neq_struct,Zy 9999 _ _ _ _ _ _ _ _ w (λa b w=>run_equalIn_int w 9998 5 .u8 .u8 a b Tryz.underlying5),Kn a b ha hb];rfl
theorem Vk(t ops r:Nat)(w:World)(hn:n<4294967296)(ht:t<18446744073709551616)(ho:ops<256)(hr:r<4294967296):
 bG 141 #[.int .i64 n,.int .u64 t,.int .i64 ops,bM r] w λe w'=>∃A' cap',e= .returned (.slice A' 17 cap')/\aw w' A' (Pl.entry n (Pl.be 8 t) ops r)/\dP w w'/\17<=cap'/\∀p,A'=some p->w.heap.size<=p.block/\p.block<w'.heap.size:=by
 obtain⟨i0,hi,nQ,kK,mY⟩:=bV Tryz.jm;have hB:=ay.new w 80 (hc r);obtain⟨HR,MC⟩:=dz (ady r hr) ((ak w.heap.size w).alloc (ai _) (.cells (hc r).toArray 80));obtain⟨c,hcc⟩:∃c:UInt8,c.toNat=ops:=⟨UInt8.ofNat ops,by simp;omega⟩;have HC:Hid (UInt8.ofNat ops=c):=by rw[Hid,<-hcc];simp
 unfold bM;unfold hc at hB MC;go_enter Tryz.func141,Tryz.ntmps141;go_wp2_with fail;refine(mw (.slice none 0 0) 0 [] n 4 (w.heap.size+1) _ (by exact .own (dA _ _ _ _)) zu zo zo zo zo).mono ?_;rintro e w1 ⟨v1,rfl,mU,aI,adV⟩;obtain⟨k1,n1⟩:=adV w.heap.size zu (λe=>by cases e);obtain⟨fJ,tK⟩:=dz (k1.trans hB) (MC.trans (aI.mono zu));have pT:=aI.size;simp only[Cn]at pT;clear adV k1 aI;go_wp2_with fail;refine(mw v1 4 (Pl.be 4 n) t 8 (w.heap.size+1) w1 (by exact .own mU) pT zo zo zo zo).mono ?_;rintro e w2 ⟨v2,rfl,ee,bz,acz⟩;obtain⟨k2,n2⟩:=acz w.heap.size zo n1;obtain⟨eY,tI⟩:=dz (k2.trans fJ) ((tK.trans (bz.mono zo)).alloc (ao zo bz.size) (.cells #[.int .u8 (ops:Int)] 5));have uB:w.heap.size+1<=w2.heap.size:=ao pT bz.size;obtain⟨kW,Xs,eI⟩:=kt (ee.alloc (.cells #[.int .u8 (ops:Int)] 5)) (Src.dE (ay.new w2 5 [.int .u8 (ops:Int)])) (ay.alloc eY (.cells #[.int .u8 (ops:Int)] 5));have Gi:Hid (∀u∈ [Value.int .u8 (ops:Int)],u.oneCell'=true):=by intro u hu;simp at hu;subst hu;rfl
 have sM:w.heap.size+1<=(w2.alloc (.cells #[.int .u8 (ops:Int)] 5)).heap.size:=ao uB zu;clear acz k2 bz ee;go_wp2_with (first
  |(at_builtin
    refine cQ _ rfl (.tmp 14) (.tmp 17) 29 rfl (w.heap.size+1) 5 i0 (.int .u8 0) 1 1 Tryz.underlying29 hi nQ kK mY rfl zj v2 12 _ rfl kW (some ⟨w2.heap.size,0,none⟩) 1 1 [.int .u8 (ops:Int)] rfl rfl Xs Gi (by simp only[maxLen];omega) (iK zo) sM ?_;intro v3 w3 eF Cr Zq;have OM:v2.ownBlock≠some w.heap.size:=n2;have ib:=zi (ay.grown eI Cr (λe=>n2 e.symm));obtain⟨amj,vV⟩:=dz (Src.dE ib) (tI.grown Cr (ao zo sM) (λk hk=>by have:=(kW.lt k hk).1;omega));have adw:=ao sM Cr.size)
  |(at_builtin
    refine cQ _ rfl (.tmp 19) (.tmp 20) 29 rfl (w.heap.size+1) 5 i0 (.int .u8 0) 1 1 Tryz.underlying29 hi nQ kK mY rfl zj v3 13 _ rfl eF (some ⟨w.heap.size,0,none⟩) 4 4 (hc r) rfl rfl amj (JR r) (by simp only[maxLen];omega) (iK zo) adw ?_;intro v4 w4 jY TQ CK;have MA:=zi (vV.grown TQ (ao zo adw) (λk hk=>by have:=(eF.lt k hk).1;omega))))
 obtain⟨A1,yL,rfl,fo,tX,ahs⟩:=bJ jY;obtain⟨alY,anz⟩:=dz (λp hp=>jY.lt _ (ahs p hp)) fo;go_wp2;go_ret;refine⟨A1,yL,zu,Src.bytes ?_,MA,anz,λp hp=>⟨by have:=(alY p hp).1;omega,(alY.out p hp).2⟩⟩;have he:bv (Pl.entry n (Pl.be 8 t) ops r)=bv ([]++Pl.be 4 n++Pl.be 8 t)++ [.int .u8 (ops:Int)]++hc r:=by rw[HR.out,<-hcc,show[Value.int .u8 ((c.toNat:Nat):Int)]=bv [c]from rfl,<-nu,<-nu];simp[Pl.entry]
 rw[he];exact tX
namespace Pl
end Pl
variable {s:List UInt8}
variable (p:Addr) (ep gl k g:Nat) (va v:Value) (d:Pl.Dk) (rd:Int) (i:Nat) (l t:List UInt8) (w:World)
theorem kZ(l:List UInt8)(i j:Int)(a n:Nat)(hi:i=a)(hj:j=a+n)(hn:a+n<=l.length):
 (Instr.slice 9 (.string (ar l)) (some (.int .i64 i)) (some (.int .i64 j)) none).run Tryz.prog w= .ok (.string (ar ((l.drop a).take n))) w:=by
 subst hi hj;rw[run_slice_string_if w 9 (ar l) .i64 .i64 a (a+n) Tryz.underlying9,ah ⟨zo,by rw[bK];omega⟩,ah zo];have:(ar l).extract (a:Int).toNat ((a:Int)+n).toNat=ar ((l.drop a).take n):=by
  rw[Bl,show((a:Int)+n).toNat=a+n by omega];have h:((ar l).extract a (a+n)).data=(ar ((l.drop a).take n)).data:=by apply vF.1;simp[qC,ar,List.drop_take]
  cases h1:(ar l).extract a (a+n);simp_all
 grind
theorem P5(n:Nat):aw (w.alloc (.cells (IU n).toArray 5)) (some ⟨w.heap.size,0,none⟩) (List.replicate n 0):=by
 refine Src.bytes ?_;have h:bv (List.replicate n 0)=IU n:=by simp[bv,IU]
 rw[h];exact Src.dE (ay.new _ _ _)
theorem nw(h:aJ w g v d rd):
 bG 98 #[.pointer (some ⟨g,0,none⟩)] w λe w'=>e= .returned (.int .i64 (d.aV.length:Nat))/\w=w':=by
 obtain⟨wr,sy,hb⟩:=h.aC;obtain⟨A,aB,rfl,_⟩:=bJ h.own;obtain⟨c0,c1,c2,c3,c4,f0,f1,f2,f3,f4⟩:=pV hb;clear h hb;go_enter Tryz.func98,Tryz.ntmps98;go_wp2_with fail;go_ret;exact⟨rfl,rfl⟩
theorem tH(h:aJ w g v d rd):
 bG 28 #[.pointer (some ⟨g,0,none⟩)] w λe w'=>e= .returned (.bool (d.aW==0))/\w=w':=by
 obtain⟨wr,sy,hb⟩:=h.aC;obtain⟨c0,c1,c2,c3,c4,f0,f1,f2,f3,f4⟩:=pV hb;clear h hb;go_enter Tryz.func28,Tryz.ntmps28;go_wp2_with fail;go_ret;exact⟨rfl,rfl⟩
theorem FR(h:aJ w g v d rd):
 bG 276 #[.pointer (some ⟨g,0,none⟩)] w λe w'=>e= .returned (.bool d.alive)/\aJ w' g v d.tick rd/\ag (·=g) w w':=by
 obtain⟨wr,sy,hb⟩:=h.aC;obtain⟨c0,c1,c2,c3,c4,f0,f1,f2,f3,f4⟩:=pV hb;obtain⟨aV,aW⟩:=d;have rJ:=h.aW;simp only at rJ c1 hb;by_cases h0:aW=0
 ·subst h0;go_enter Tryz.func276,Tryz.ntmps276;go_wp2_with fail;go_ret;exact⟨rfl,h,ag.refl _ _⟩
 ·have q0:(aW==0)=false:=by simp[h0]
  by_cases h1:0<aW
  ·have ht:Hid (Pl.Dk.tick ⟨aV,aW⟩=⟨aV,aW-1⟩):=by rw[Hid];unfold Pl.Dk.tick;rw[ah h1]
   have hw:IntKind.i64.wrap (aW-1)=aW-1:=aY _ zo;have hd:=ag.setCell (ag.refl (·=g) w) (p:=⟨g,1,none⟩) (.inl rfl) (.int .i64 (aW-1));have fK:Hid (Pl.Dk.alive ⟨aV,aW⟩=decide (0<aW-1)):=by
    rw[Hid];unfold Pl.Dk.alive;by_cases h2:0<aW-1
    ·rw[aQ h2];simp;omega
    ·rw[aH h2];simp;omega
   have HL:=zi rJ;clear hw h0;go_enter Tryz.func276,Tryz.ntmps276;go_wp2_with fail;go_ret;rw[fK.out,ht.out];refine⟨?_,h.Ng hd _ _ wr sy (zA HL.out) (hb.bw 1 _),hd⟩;simp
   try omega
  ·have ht:Hid (Pl.Dk.tick ⟨aV,aW⟩=⟨aV,aW⟩):=by rw[Hid];unfold Pl.Dk.tick;rw[aj h1]
   have fK:Hid (Pl.Dk.alive ⟨aV,aW⟩=true):=by rw[Hid];unfold Pl.Dk.alive;simp;omega
   clear h0;go_enter Tryz.func276,Tryz.ntmps276;go_wp2_with fail;go_ret;rw[fK.out,ht.out];exact⟨rfl,h,ag.refl _ _⟩
def oL:Option (List UInt8):=if d.aW=0 then none else d.look i
theorem Qp(h:aJ w g v d rd)(hi:i<d.aV.length):
 bG 211 #[.pointer (some ⟨g,0,none⟩),.int .i64 (i:Nat)] w λe w'=>e= .returned (.tuple #[.string (ar ((oL d i).getD [])),.bool (oL d i).isSome])/\
  (∃cO,aJ w' g v d cO/\(0<=rd->rd<4611686018427387904->0<=cO/\cO<=rd+1))/\ag (·=g) w w':=by
 obtain⟨wr,sy,hb⟩:=h.aC;obtain⟨s,hs⟩:∃s,d.aV[i]?=some s:=⟨_,aF hi⟩;obtain⟨b,aB,rfl,IH,s0,s1,s2,s3,s4,sf⟩:=h.sec hs;obtain⟨c0,c1,c2,c3,c4,f0,f1,f2,f3,f4⟩:=pV hb;obtain⟨aV,aW⟩:=d;have yd:=h.pU;simp only at c1 hb hi hs c0 yd;clear s1 s3 s4;obtain⟨n,hn⟩:=ze aV.length;rw[hn]at hi yd c0;have hni:¬(n:Int)<=i:=zo;clear hn;by_cases h0:aW=0
 ·subst h0;go_enter Tryz.func211,Tryz.ntmps211;go_wp2_with fail;go_ret2;exact⟨by simp[oL];rfl,⟨rd,h,λh1 h2=>⟨h1,zo⟩⟩,ag.refl _ _⟩
 ·have q0:(aW==0)=false:=by simp[h0]
  have hro:Hid (oL ⟨aV,aW⟩ i=if s.broken then none else some s.now):=by rw[Hid];unfold oL Pl.Dk.look;rw[aj h0];simp only[hs]
  obtain⟨cO,Dt,ajJ⟩:∃cO,IntKind.i64.wrap (rd+1)=cO/\(0<=rd->rd<4611686018427387904->0<=cO/\cO<=rd+1):=⟨_,rfl,λh1 h2=>by rw[aY _ zo];omega⟩;have hd:=λx=>ag.setCell (ag.refl (·=g) w) (p:=⟨g,2,none⟩) (.inl rfl) (.int .i64 x);clear h0;rw[hro.out];cases hbr:s.broken
  all_goals
   rw[hbr]at s2;clear hbr;go_enter Tryz.func211,Tryz.ntmps211;go_wp2_with fail;go_ret2;refine⟨rfl,⟨_,h.Ng (hd _) _ _ wr sy h.aW (hb.bw 2 _),?_⟩,hd _⟩
   exactλh1 h2=>ajJ h1 h2
theorem aaN(s:Pl.jl)(t:List UInt8)(ht:t.length<=256)(hs:s.safe.length=256):(s.put t).now.length=256/\(s.put t).safe.length=256:=by refine⟨?_,hs⟩;simp[Pl.jl.put,Pl.gO];omega
theorem alP(l:List Pl.jl)(i:Nat)(s:Pl.jl)(t:List UInt8)(hs:l[i]?=some s):Pl.Ch.on (.wr i t) l=l.set i (s.put t):=by
 simp only[Pl.Ch.on];apply AU
 grind
theorem JF(h:aJ w g v d rd)(hi:i<d.aV.length)(ht:t.length<=256):
 bG 258 #[.pointer (some ⟨g,0,none⟩),.int .i64 (i:Nat),.string (ar t)] w λe w'=>e= .returned (.bool d.alive)/\aJ w' g v (d.change (.wr i t)) rd/\ag (dF g v) w w':=by
 have yd:=h.pU;have htz:=bK t;obtain⟨z,hz⟩:=ze (ar t);have HZ:=zi hz;rw[hz]at htz|-
 have HH:=zi h;obtain⟨n,hn⟩:=ze d.aV.length;rw[hn]at hi yd;have HN:=zi hn;have hni:¬(n:Int)<=i:=zo;have aqZ:¬(256:Int)<(z.size:Int):=zo;have q1:decide ((i:Int)<0)=false:=aH zo;have q2:decide ((n:Int)<=i)=false:=aH hni;have q2':decide (n<=i)=false:=aH zo;have q3:decide ((256:Int)<(z.size:Int))=false:=aH aqZ;obtain⟨HTZ,HT⟩:=dz htz ht;clear hz hn h htz;go_enter Tryz.func258,Tryz.ntmps258;go_wp2_with fail;refine(FR g v d rd w HH).mono ?_;rintro e w1 ⟨rfl,h1,uX⟩;obtain⟨H1,O1⟩:=dz h1 uX;have Ca:d.tick.aV=d.aV:=rfl;obtain⟨s,hs⟩:∃s,d.tick.aV[i]?=some s:=⟨_,aF (by rw[Ca,HN.out];exact hi)⟩;obtain⟨b,aB,rfl,IH,s0,s1,s2,s3,s4,sf⟩:=h1.sec hs;obtain⟨wr,sy,hb⟩:=h1.aC;obtain⟨c0,c1,c2,c3,c4,f0,f1,f2,f3,f4⟩:=pV hb;have bU:d.tick.aV.length=n:=by rw[Ca];exact HN
 rw[bU]at c0;obtain⟨HB,HS,Bz⟩:=kt hb hs bU;have hk:∀(zs:Array Value) (X:Value),((w1.setCell ⟨g,3,none⟩ X).alloc (.cells zs 5)).ownsRow 0 190 5 (.slice (some ⟨b,0,none⟩) n aB) n (cu d.tick.aV):=by intro zs X;have:=ag.own (((ag.refl (·=g) w1).setCell (p:=⟨g,3,none⟩) (.inl rfl) X).alloc (.cells zs 5)) h1.own (λk hk e=>h1.mK (by rw[hk,e]));rwa [bU]at this
 have rP:∀(zs:Array Value) (X:Value),aJ ((w1.setCell ⟨g,3,none⟩ X).alloc (.cells zs 5)) g (.slice (some ⟨b,0,none⟩) d.tick.aV.length aB) d.tick rd\/True:=λ_ _=> .inr trivial;have HK:=zi hk;clear h1 uX hb hs Ca bU s0 s1 s2 s3 s4 sf hk rP;cases fK:d.alive
 ·have hch:d.change (.wr i t)=d.tick:=by unfold Pl.Dk.change;rw[fK];rfl
  obtain⟨uy,wE⟩:=dz hch fK;clear fK hch;go_wp2_with fail;go_ret;rw[uy.out,wE.out];exact⟨rfl,H1,O1.mono (λ_ _ h=> .inl h)⟩
 ·have hch:d.change (.wr i t)=⟨d.tick.aV.set i (s.put t),d.tick.aW⟩:=by unfold Pl.Dk.change;rw[fK,ah rfl,<-alP _ i s t HS.out];rfl
  obtain⟨uy,wE⟩:=dz hch fK;have hmk:=Jy (256-(z.size:Int)) (256-t.length) (zA HTZ.out) zo
  have hcv:∀X,(convert 29 9 (.slice (some ⟨w1.heap.size,0,none⟩) (256-t.length:Nat) (256-t.length:Nat))).run Tryz.prog ((w1.setCell ⟨g,3,none⟩ X).alloc (.cells (IU (256-t.length)).toArray 5))=
   .ok (.string (ar (Pl.gO (256-t.length)))) ((w1.setCell ⟨g,3,none⟩ X).alloc (.cells (IU (256-t.length)).toArray 5)):=by
   intro X;have:=dQ ((w1.setCell ⟨g,3,none⟩ X).alloc (.cells (IU (256-t.length)).toArray 5)) (some ⟨(w1.setCell ⟨g,3,none⟩ X).heap.size,0,none⟩) (List.replicate (256-t.length) 0) (256-t.length) (P5 _ _);rw[j9,show(w1.setCell ⟨g,3,none⟩ X).heap.size=w1.heap.size by simp[World.setCell]]at this;exact this
  have aly:=λw=>agu w t (Pl.gO (256-t.length)) (by simp[Pl.gO];omega);obtain⟨zs,Ev⟩:=ze ((IU (256-t.length)).toArray);obtain⟨zt,hzt⟩:=ze (ar (Pl.gO (256-t.length)));obtain⟨zz,hzz⟩:=ze (ar (t++Pl.gO (256-t.length)));have HZZ:=zi hzz;obtain⟨m,hm⟩:=ze (256-t.length);rw[Ev]at hmk hcv;rw[hzt]at hcv aly;rw[hzz,HZ.out]at aly;rw[hm]at hmk hcv;have k0:=λX=>(GF (HK zs X) Bz HS).1;have k2:=λX=>(GF (HK zs X) Bz HS).2.2.1;have k4:=λX=>(GF (HK zs X) Bz HS).2.2.2.2.1;have kf:=λX=>(GF (HK zs X) Bz HS).2.2.2.2.2;clear fK hch Ev hzt hzz hm;go_wp2_with fail;go_ret;rw[uy.out,wE.out];have hW:aJ ((w1.setCell ⟨g,3,none⟩ (.int .i64 (wrap64 (wr+1)))).alloc (.cells zs 5)) g (.slice (some ⟨b,0,none⟩) d.tick.aV.length aB) d.tick rd:=
   (H1.Ng ((ag.refl (·=g) w1).zs 3) d.tick.aW rd _ sy H1.aW (HB.bw 3 _)).aa (za _ _)
  have hO:ag (dF g (.slice (some ⟨b,0,none⟩) d.tick.aV.length aB)) w ((w1.setCell ⟨g,3,none⟩ (.int .i64 (wrap64 (wr+1)))).alloc (.cells zs 5)):=
   ((O1.mono (λ_ _ h=> .inl h)).setCell (p:=⟨g,3,none⟩) (.inl (.inl rfl)) _).alloc _
  obtain⟨r1,r2⟩:=hW.qn HS (s.put t) (aaN s t HT (H1.sized s (bO HS)).2) [(0,.string zz),(2,.bool false),(4,.bool true)] zu (by rw[<-HZZ.out];rfl);have hl:(Value.slice (some ⟨b,0,none⟩) (d.tick.aV.set i (s.put t)).length aB)= .slice (some ⟨b,0,none⟩) d.tick.aV.length aB:=by rw[List.length_set]
  exact⟨rfl,r1,hO.trans r2 (λk _ hk=> .inr (by rw[hk];rfl))⟩
theorem acw{α:Type}{l:List α}{i:Nat}{x:α}(h:l[i]?=some x):l.set i x=l:=by
 apply AU
 grind
theorem SP(s:Pl.jl)(h:s.now.length=256/\s.safe.length=256):s.flush.now.length=256/\s.flush.safe.length=256:=by
 unfold Pl.jl.flush
 grind
theorem Vs(l:List Pl.jl)(k:Nat)(s:Pl.jl)(hs:l[k]?=some s):((l.take k).map Pl.jl.flush++l.drop k)[k]?=some s/\((l.take k).map Pl.jl.flush++l.drop k).set k s.flush=(l.take (k+1)).map Pl.jl.flush++l.drop (k+1):=by
 have hk:k<l.length:=zw;have he:l[k]=s:=zw;have hl:((l.take k).map Pl.jl.flush).length=k:=zw;constructor
 ·grind
 ·rw[List.set_append_right _ _ zo,hl,jT,fT hk,he,jC,Bi hk,he];simp
theorem ML(h:aJ w g v d rd):
 bG 259 #[.pointer (some ⟨g,0,none⟩)] w λe w'=>e= .returned (.bool d.alive)/\aJ w' g v (d.change .sy) rd/\ag (dF g v) w w':=by
 have yd:=h.pU;have HH:=zi h;obtain⟨n,hn⟩:=ze d.aV.length;rw[hn]at yd;clear h;go_enter Tryz.func259,Tryz.ntmps259;go_wp2_with fail;refine(FR g v d rd w HH).mono ?_;rintro e w1 ⟨rfl,h1,uX⟩;obtain⟨wr,sy,hb⟩:=h1.aC;obtain⟨A,aB,rfl,_,_,aon⟩:=bJ h1.own;have bU:d.tick.aV.length=n:=hn;rw[bU]at hb;obtain⟨c0,c1,c2,c3,c4,f0,f1,f2,f3,f4⟩:=pV hb;have Ca:Hid (d.tick.aV=d.aV):=rfl;clear aon;cases fK:d.alive
 ·have hch:d.change .sy=d.tick:=by unfold Pl.Dk.change;rw[fK];rfl
  go_wp2_with fail;go_ret;rw[hch,fK];exact⟨rfl,h1,uX.mono (λ_ _ h=> .inl h)⟩
 ·have hch:d.change .sy=⟨d.aV.map Pl.jl.flush,d.tick.aW⟩:=by unfold Pl.Dk.change;rw[fK,ah rfl];rfl
  have oZ:∀X:Int,aJ (w1.setCell ⟨g,4,none⟩ (.int .i64 X)) g (.slice A d.tick.aV.length aB) ⟨d.aV,d.tick.aW⟩ rd:=λX=>
   h1.Ng ((ag.refl (·=g) w1).zs 4) d.tick.aW rd wr X h1.aW (by rw[bU];exact hb.bw 4 _)
  obtain⟨lf,rJ⟩:=ze d.tick.aW;go_wp2_with fail
  go_loopw [4] (λi W=>∃k:Nat,k<=n/\i= .int .i64 (k:Int)/\Hid (aJ W g (.slice A d.tick.aV.length aB) ⟨(d.aV.take k).map Pl.jl.flush++d.aV.drop k,lf⟩ rd)/\Hid (ag (dF g (.slice A d.tick.aV.length aB)) w W)) (λi _=>n-(intOf i).toNat)
  case atStart=>exact⟨0,aM _,rfl,by rw[<-rJ];exact oZ _,(uX.mono (λ_ _ h=> .inl h)).setCell (p:=⟨g,4,none⟩) (.inl (.inl rfl)) _⟩
  case round=>
   obtain⟨k,hk,rfl,HD,HO⟩:=hrel;have mW:((d.aV.take k).map Pl.jl.flush++d.aV.drop k).length=n:=by rw[ax,eT,aP,bT,hn];omega
   obtain⟨wr',sy',SG⟩:=HD.aC;rw[bU]at SG;obtain⟨e0,e1,e2,e3,e4,g0,g1,g2,g3,g4⟩:=pV SG;clear SG e1 e2 e3 e4 g0 g1 g2 g3 g4;by_cases pX:k<n
   ·obtain⟨s,hs⟩:∃s,d.aV[k]?=some s:=⟨_,aF (by rw[hn];exact pX)⟩;obtain⟨ma,nX⟩:=Vs d.aV k s hs;obtain⟨b,cap',hv,IH,s0,s1,s2,s3,s4,sf⟩:=HD.sec ma;injection hv with Uk Kd hA3;subst Uk;subst hA3;have hsz:=zi (HH.sized s (bO hs));clear hs Kd s2;cases tu:s.fresh
    ·rw[tu]at s4;have hfl:s.flush=s:=by unfold Pl.jl.flush;rw[tu];rfl
     clear tu;go_wp2_with fail;refine⟨⟨k+1,zo,by go_num,?_,HO⟩,by simp[intOf];omega⟩;rw[Hid,<-nX,hfl,acw ma];exact HD
    ·rw[tu]at s4;have hfl:s.flush=⟨s.now,s.now,s.broken,false,false⟩:=by unfold Pl.jl.flush;rw[tu,ah rfl]
     clear tu;go_wp2_with fail;have HD3:=HD.out;have hln:d.tick.aV.length=((d.aV.take k).map Pl.jl.flush++d.aV.drop k).length:=by rw[mW,bU]
     rw[hln]at HD3;have he:[(1,Value.string (ar s.now)),(3,Value.bool false),(4,Value.bool false)].foldl (λxs p=>xs.set p.1 p.2) (eO s)=eO s.flush:=by rw[hfl];rfl
     obtain⟨r1,r2⟩:=aJ.qn (d:=⟨(d.aV.take k).map Pl.jl.flush++d.aV.drop k,lf⟩) (i:=k) (s:=s) HD3 ma s.flush (SP s hsz) _ zu he;refine⟨⟨k+1,zo,by go_num,?_,HO.trans r2 (λk _ hk=> .inr (by rw[hk];rfl))⟩,by simp[intOf];omega⟩;rw[nX,<-hln]at r1;exact r1
   ·obtain rfl:k=n:=zo;go_wp2_with fail;go_ret;rw[hch,fK,rJ];refine⟨rfl,?_,HO⟩;have:=HD.out;rw[<-hn,gN,List.drop_length,dH]at this;exact this
def Wt:Value:= .iface 255 (.agg #[v])
def Nw:PanicEntry:={v:=Wt v,recovered:=false}
theorem Ff:(Instr.typeAssert (.iface 255 v) 20 255 true).run Tryz.prog w= .ok (.tuple #[v,.bool true]) w:=by simp[Instr.typeAssert,gA Tryz.underlying255,go_sem,Result.andThen]
theorem Cz(T:TypeId)(y:Value)(TH:List PanicEntry)(w:World)(hc:w.cell? p=some .nilIface)(hz:w.frozen? p=false):
 CallsD Tryz.prog 210 #[.pointer (some p)] (.panicking (Nw (.iface T y)::TH)) w λe u' w'=>
  e= .returned (.tuple #[])/\u'= .panicking ({v:=Wt (.iface T y),recovered:=true}::TH)/\w'=(w.alloc (.cells #[.iface T y] 255)).setCell p (.iface T y):=by
 have hb:=(ak w.heap.size w).alloc (ai _) (.cells #[.iface T y] 255);have hlt:=dC _ _ hc;have hc':=(hb.cell hlt).trans hc;have hz':=(hb.frozen hlt).trans hz;refine vC Tryz.func210 rfl λc₀ cs hu=>?_;unfold Nw Wt at hu;apply fO;apply il;simp[wpOpsS,go_sem,recoverD,hu,Tryz.ntmps210,Exit.thenS];apply fO;apply il;simp[wpOpsS,go_sem,Exit.thenS];refine oG (t:=true) (by simp[Act.eval,Array.replicate]) ?_;simp only[if_true];apply fO;apply il;simp[wpOpsS,go_sem,Exit.thenS,Ff];apply fO;apply fO;apply il;simp[wpOpsS,go_sem,Exit.thenS];refine oG (t:=false) (by simp[Act.eval,Array.replicate]) ?_;simp only[vf,if_false];refine wpS_of_wp (wp_skip ?_);simp only[Exit.thenS];apply il;simp[wpOpsS,go_sem,hc',hz',bodyPostS,results,Tryz.results210];rfl
theorem Kv:
 CallsD Tryz.prog 210 #[.pointer (some p)] .returning w λe u' w'=>e= .returned (.tuple #[])/\u'= .returning/\w'=w:=by
 refine vC Tryz.func210 rfl λc₀ cs hu=>?_;apply fO;apply il;simp[wpOpsS,go_sem,recoverD,hu,Tryz.ntmps210,Exit.thenS];apply fO;apply il;simp[wpOpsS,go_sem,Exit.thenS];refine oG (t:=false) (by simp[Act.eval,Array.replicate]) ?_;simp only[vf,if_false];refine wpS_of_wp (wp_skip ?_);cases c₀;simp_all [bodyPostS,results,Tryz.results210]
theorem PU(K:FuncId)(cg:Array Value)(w:World)(Q:Option Value->World->Prop)(hK:∀W,(callFunc K cg).run Tryz.prog W= .ok (.enter K cg) W)
 (h:bG K cg (w.alloc (.cells #[.nilIface] 73)) λe w'=>ay w' w.heap.size 73 [.nilIface]/\((e= .returned (.tuple #[])/\Q none w')\/∃T y,e= .panicked [Nw (.iface T y)]/\Q (some (.iface T y)) w')):
 bG 154 #[.func (.func K) #[] cg] w λe sL=>∃o w',Q o w'/\ag (·=w.heap.size) w' sL/\e= .returned (o.getD .nilIface):=by
 have JJ:=zf Tryz.prog
 go_enter_defers Tryz.func154,Tryz.ntmps154
 go_wp2_with fail;refine h.mono ?_;rintro e w' ⟨hB,⟨rfl,hQ⟩|⟨T,y,rfl,hQ⟩⟩
 ·have hc:=hB.cell 0;have hf:=hB.frozen 0;simp only[au]at hc;go_wp2_with fail;refine qM (f:=210) (args:= #[.pointer (some ⟨w.heap.size,0,none⟩)]) zu (by simp[go_sem]) ?_;refine(Kv ⟨w.heap.size,0,none⟩ _).mono ?_;rintro e u' sL ⟨rfl,rfl,rfl⟩;have lC:=(hB.bw 0 .nilIface).cell 0;simp only[jC,au]at lC;simp[Leaves,settle,results,Tryz.results154,go_sem];rw[lC];exact⟨_,rfl,none,w',hQ,(ag.refl (·=w.heap.size) w').setCell (p:=⟨w.heap.size,0,none⟩) (.inl rfl) _,rfl⟩
 ·have hc:=hB.cell 0;have hf:=hB.frozen 0;simp only[au]at hc;go_wp2_with fail;refine qM (f:=210) (args:= #[.pointer (some ⟨w.heap.size,0,none⟩)]) zu (by simp[go_sem]) ?_;refine(Cz ⟨w.heap.size,0,none⟩ T y [] _ hc hf).mono ?_;rintro e u' sL ⟨rfl,rfl,rfl⟩;have lC:=((hB.alloc (.cells #[.iface T y] 255)).bw 0 (.iface T y)).cell 0;simp only[jC,au]at lC;simp[Leaves,settle,results,Tryz.results154,go_sem];rw[lC];exact⟨_,rfl,some (.iface T y),w',hQ,((ag.refl (·=w.heap.size) w').alloc _).setCell (p:=⟨w.heap.size,0,none⟩) (.inl rfl) _,rfl⟩
def Di:Value:= .iface 30 (.int .i64 (k:Int))
def xV:Ending:= .panicked [Nw (Di k)]
def Ends(ok:Bool)(k:Nat)(e:Ending):Prop:=(ok=true/\e= .returned (.tuple #[]))\/(ok=false/\e=xV k)
theorem Ends.rM:Ends true k (.returned (.tuple #[])):= .inl ⟨rfl,rfl⟩
theorem Ends.no:Ends false k (xV k):= .inr ⟨rfl,rfl⟩
theorem BH(h:aJ w g v d rd)(hi:i<d.aV.length)(ht:t.length<=256):
 bG 207 #[.pointer (some ⟨g,0,none⟩),.int .i64 (i:Nat),.string (ar t)] w λe w'=>Ends d.alive 3 e/\aJ w' g v (d.change (.wr i t)) rd/\ag (dF g v) w w':=by
 have H:=zi (JF g v d rd i t w h hi ht);go_enter Tryz.func207,Tryz.ntmps207;go_wp2_with fail;refine H.mono ?_;rintro e w1 ⟨rfl,h1,h2⟩;obtain⟨H1,H2⟩:=dz h1 h2;clear h1 h2 H;cases fK:d.alive
 all_goals
  have wE:=zi fK;clear fK;go_wp2_with fail
 ·exact⟨rfl,by rw[wE.out];exact Ends.no 3,H1,H2⟩
 ·go_end0;exact⟨by rw[wE.out];exact Ends.rM 3,H1,H2⟩
theorem yB(h:aJ w g v d rd):
 bG 209 #[.pointer (some ⟨g,0,none⟩)] w λe w'=>Ends d.alive 3 e/\aJ w' g v (d.change .sy) rd/\ag (dF g v) w w':=by
 have H:=zi (ML g v d rd w h);go_enter Tryz.func209,Tryz.ntmps209;go_wp2_with fail;refine H.mono ?_;rintro e w1 ⟨rfl,h1,h2⟩;obtain⟨H1,H2⟩:=dz h1 h2;clear h1 h2 H;cases fK:d.alive
 all_goals
  have wE:=zi fK;clear fK;go_wp2_with fail
 ·exact⟨rfl,by rw[wE.out];exact Ends.no 3,H1,H2⟩
 ·go_end0;exact⟨by rw[wE.out];exact Ends.rM 3,H1,H2⟩
theorem pI(hl:l.length<=8):
 bG 157 #[.string (ar l)] w λe w'=>e= .returned (.int .u64 (Pl.num l:Nat))/\w=w':=by
 obtain⟨s,hs⟩:=ze (ar l);have hsz:s.size=l.length:=by rw[<-hs,bK]
 have asV:∀(k:Nat) (h:k<l.length) (h':k<s.size),s[k]=l[k]:=by intro k h h';subst hs;rfl
 rw[hs];have hsi:(s.size:Int)=l.length:=zo;go_enter Tryz.func157,Tryz.ntmps157;go_wp2_with fail
 go_loop [3,7] (λv i=>∃k:Nat,k<=l.length/\i= .int .i64 k/\v= .int .u64 (Pl.num (l.take k):Nat)) (λ_ i=>l.length-(intOf i).toNat)
 case atStart=>exact⟨0,aM _,rfl,rfl⟩
 case round=>
  obtain⟨k,hk,rfl,rfl⟩:=hrel;by_cases hlt:k<l.length
  ·have ajn:k<s.size:=by rw[hsz];exact hlt
   have uc:=Pl.eN l k;have mV:Pl.num (l.take k)<72057594037927936:=aK uc (jG (n:=256) (j:=7) zj zo);have hc:=l[k].toNat_lt;have Yy:(Pl.num (l.take (k+1))=256*Pl.num (l.take k)+l[k].toNat):=by rw[yw l k hlt,Pl.wU]
   obtain⟨c,hcc⟩:=ze (s[k]);have CC:l[k].toNat=c.toNat:=by rw[<-hcc,asV k hlt ajn]
   obtain⟨v,hv⟩:=ze (Pl.num (l.take k));have Vw:(Pl.num (l.take (k+1))=256*v+c.toNat):=by rw[<-hv,<-CC];exact Yy
   have hc8:=c.toNat_lt;rw[hv]at mV|-
   go_wp2_with fail;refine⟨⟨k+1,zo,zu,?_⟩,by simp[intOf];omega⟩;rw[Vw,Xz v c.toNat mV zo]
  ·obtain rfl:k=l.length:=zo;rw[gN];go_wp2_with fail;go_ret;exact⟨rfl,rfl⟩
def abv(e:Ending):Prop:=(d.aW=0/\e=xV 3)\/(d.aW≠0/\e= .returned (.tuple #[.string (ar ((d.look i).getD [])),.bool (d.look i).isSome]))
def Rds(cO:Int):Prop:=0<=rd->rd<4611686018427387904->0<=cO/\cO<=rd+1
theorem ZH(h:aJ w g v d rd)(hi:i<d.aV.length):
 bG 156 #[.pointer (some ⟨g,0,none⟩),.int .i64 (i:Nat)] w λe w'=>abv d i e/\(∃cO,aJ w' g v d cO/\Rds rd cO)/\ag (·=g) w w':=by
 have H:=Qp g v d rd i w h hi;go_enter Tryz.func156,Tryz.ntmps156;go_wp2_with fail;refine H.mono ?_;rintro e w1 ⟨rfl,⟨cO,h1,h2⟩,h3⟩;by_cases h0:d.aW=0
 ·have hr:oL d i=none:=by unfold oL;rw[ah h0]
  rw[hr];have HD:=tH g v d cO w1 h1;simp only[mE,oB];go_wp2_with fail;refine HD.mono ?_;rintro e w' ⟨rfl,rfl⟩;rw[h0];go_wp2_with fail;exact⟨rfl,.inl ⟨h0,rfl⟩,⟨cO,h1,h2⟩,h3⟩
 ·have hr:oL d i=d.look i:=by unfold oL;rw[aj h0]
  rw[hr];have HD:=tH g v d cO w1 h1;have hq:(d.aW==0)=false:=by simp[h0]
  have HE:(∀o:Option (List UInt8),d.look i=o->abv d i (.returned (.tuple #[.string (ar (o.getD [])),.bool o.isSome]))):=λo ho=> .inr ⟨h0,by rw[ho]⟩;cases mW:d.look i
  ·simp only[mE,oB];go_wp2_with fail;refine HD.mono ?_;rintro e w' ⟨rfl,rfl⟩;rw[hq];go_wp2_with fail;go_ret2;exact⟨HE none mW,⟨cO,h1,h2⟩,h3⟩
  ·rename_i s;simp only[lU,oQ];go_wp2_with fail;go_ret2;exact⟨HE (some s) mW,⟨cO,h1,h2⟩,h3⟩
theorem aeX(hx:ep<18446744073709551616):
 bG 208 #[.int .u64 (ep:Nat)] w λe w'=>e= .returned (.string (ar (Pl.gZ ep)))/\dP w w':=by
 have hm:=kO (P:=Tryz.prog) w 29 5 #[.int .u8 72] 1 Tryz.underlying29 Tryz.underlying5 rfl;have Dt:pC (w.alloc (.cells #[.int .u8 72] 5 (1,2))) w.heap.size 5 1 (.slice (some ⟨w.heap.size,0,none⟩) 1 1) 1 (bv [72]):=by refine .inr ⟨rfl,_,_,rfl,.inr ⟨_,_,rfl,λj u hu=>?_⟩⟩;rw[bZ,mF _ _ _ _ _ _ (heap_alloc_new w _)];simpa [bv] using hu
 have jN:=(ak w.heap.size w).alloc (ai _) (.cells #[.int .u8 72] 5 (1,2));go_enter Tryz.func208,Tryz.ntmps208;go_wp2_with fail;refine(mw (.slice (some ⟨w.heap.size,0,none⟩) 1 1) 1 [72] ep 8 w.heap.size _ Dt jN.size hx zo zo zo).mono ?_;rintro e w1 ⟨v1,rfl,mU,aI,Sn⟩;obtain⟨A1,yL,rfl,fo,tX,_⟩:=bJ mU;have hcv:=dQ w1 A1 ([72]++Pl.be 8 ep) yL (Src.bytes tX);have hl9:([72]++Pl.be 8 ep:List UInt8).length=9:=by simp[Pl.aG]
 have hst:([72]++Pl.be 8 ep:List UInt8)=Pl.gZ ep:=rfl;rw[hl9,hst]at hcv;have fJ:=jN.trans (aI.mono (ai _));go_wp2_with fail;go_ret;exact⟨rfl,fJ⟩
theorem ahn(ei:Int)(w:World)(he:ei=ep)(hx:ep<18446744073709551616):
 bG 208 #[.int .u64 ei] w λe w'=>e= .returned (.string (ar (Pl.gZ ep)))/\dP w w':=by
 subst he;exact aeX ep w hx
def G9(l:Pl.Lg):List Value:=[.pointer (some ⟨g,0,none⟩),.int .i64 (l.first:Nat),.int .i64 (l.data:Nat),.int .u64 (l.eE:Nat),.int .i64 (l.next:Nat),va,.bool l.bad]
theorem gg{w:World}{g:Nat}{t:TypeId}{a0 a1 a2 a3 a4 a5 a6:Value}(h:ay w g t [a0,a1,a2,a3,a4,a5,a6]):
 w.cell? ⟨g,0,none⟩=some a0/\w.cell? ⟨g,1,none⟩=some a1/\w.cell? ⟨g,2,none⟩=some a2/\w.cell? ⟨g,3,none⟩=some a3/\w.cell? ⟨g,4,none⟩=some a4/\w.cell? ⟨g,5,none⟩=some a5/\w.cell? ⟨g,6,none⟩=some a6/\
 w.frozen? ⟨g,0,none⟩=false/\w.frozen? ⟨g,1,none⟩=false/\w.frozen? ⟨g,2,none⟩=false/\w.frozen? ⟨g,3,none⟩=false/\w.frozen? ⟨g,4,none⟩=false/\w.frozen? ⟨g,5,none⟩=false/\w.frozen? ⟨g,6,none⟩=false:=
 ⟨h.cell 0,h.cell 1,h.cell 2,h.cell 3,h.cell 4,h.cell 5,h.cell 6,h.frozen 0,h.frozen 1,h.frozen 2,h.frozen 3,h.frozen 4,h.frozen 5,h.frozen 6⟩
structure dW(w:World)(gl g:Nat)(va:Value)(l:Pl.Lg):Prop where
 aC:ay w gl 252 (G9 g va l)
 small:l.first+2+l.data<=4096/\l.next<=l.data/\l.eE<18446744073709551616
theorem ur(l:Pl.Lg)(i:Nat)(w:World)(h:dW w gl g va l)(hi:i<=4096):
 bG 212 #[.pointer (some ⟨gl,0,none⟩),.int .i64 (i:Nat)] w λe w'=>e= .returned (.int .i64 ((l.first+2+i:Nat):Int))/\w'=w:=by
 obtain⟨a0,a1,a2,a3,a4,a5,a6,b0,b1,b2,b3,b4,b5,b6⟩:=gg h.aC;have hs:=h.small;go_enter Tryz.func212,Tryz.ntmps212;go_wp2_with fail;go_ret;exact⟨by congr 2,rfl⟩
theorem UT(hl:l.length<=8):
 bG 157 #[.string (ar l)] w λe w'=>e= .returned (.int .u64 (Pl.num l:Nat))/\w'=w:=(pI l w hl).mono zu
def BG(s:List UInt8):Value:=if Pl.jQ ep s then .tuple #[.int .i64 ((Pl.num ((s.drop 9).take 4):Nat):Int),.bool true]else .tuple #[.int .i64 0,.bool false]
theorem Uz{ep:Nat}(h:Pl.jQ ep s=true):BG ep s= .tuple #[.int .i64 ((Pl.num ((s.drop 9).take 4):Nat):Int),.bool true]:=ah h
theorem ye{ep:Nat}(h:Pl.jQ ep s=false):BG ep s= .tuple #[.int .i64 0,.bool false]:=by unfold BG;grind
theorem YG(l:Pl.Lg)(s:List UInt8)(w:World)(h:dW w gl g va l)(hs:s.length=256):
 bG 213 #[.pointer (some ⟨gl,0,none⟩),.string (ar s)] w λe w'=>e= .returned (BG l.eE s)/\∃n,w'=w.drewN n:=by
 obtain⟨a0,a1,a2,a3,a4,a5,a6,b0,b1,b2,b3,b4,b5,b6⟩:=gg h.aC;have hz:=bK s;obtain⟨c,hc⟩:=ze (s.headD 0);have hd:∀(h':0<(ar s).size),(ar s)[0]=c:=by
  intro h'
  match s,hs with
  |x::r,_=>exact hc
 have m1:=λw=>kZ w s 1 9 1 8 rfl rfl zo;have m2:=λw=>kZ w s 9 13 9 4 rfl rfl zo;have G1:=UT ((s.drop 1).take 8);have G2:=pI ((s.drop 9).take 4);have mV:=Pl.eN (s.drop 9) 4;obtain⟨x1,vL⟩:=ze ((s.drop 1).take 8);obtain⟨x2,qG⟩:=ze ((s.drop 9).take 4);have l7:x1.length<=8:=by rw[<-vL];exact ow _ _
 have BJ:x2.length<=8:=by rw[<-qG];exact ao (ow _ _) zo
 have bI:Pl.jQ l.eE s=(c==76&&Pl.num x1==l.eE):=by unfold Pl.jQ;rw[hc,vL]
 rw[qG]at mV;have asg:Pl.num x2<4294967296:=by simpa using mV
 rw[vL]at G1;rw[qG]at G2;rw[vL]at m1;rw[qG]at m2;obtain⟨z1,kK⟩:=ze (ar x1);obtain⟨z2,mY⟩:=ze (ar x2);obtain⟨n1,uc⟩:=ze (Pl.num x1);obtain⟨n2,wM⟩:=ze (Pl.num x2);rw[kK]at m1 G1;rw[mY]at m2 G2;rw[uc]at G1 bI;rw[wM]at G2 asg;have GQ1:=λw=>G1 w l7;have GQ2:=λw=>G2 w BJ;have asj:Pl.jQ l.eE s=true->BG l.eE s= .tuple #[.int .i64 (n2:Int),.bool true]:=λh=>by rw[Uz h,qG,wM]
 obtain⟨st,hst⟩:=ze (ar s);rw[hst]at hz m1 m2|-
 simp only[hst]at hd;have hsz:(st.size:Int)=256:=zo;have hsn:st.size=256:=zo;have h0:0<st.size:=zo;have Qa:st[0]'h0=c:=hd h0;have hep:=h.small.2.2;have hc8:=c.toNat_lt;by_cases hcc:c=76
 ·subst hcc;have q0:((76:UInt8).toNat:Int)=76:=zj;by_cases he:n1=l.eE
  ·have q1:((n1:Int) !=(l.eE:Int))=false:=by simp[he]
   go_enter Tryz.func213,Tryz.ntmps213;go_wp2_with fail;go_quiet ((go_at_call 157;exact Calls.quiet_of_same (GQ1 _)));go_wp2_with fail;refine(GQ2 _).mono ?_;rintro e w' ⟨rfl,rfl⟩;go_wp2_with fail;go_ret2;exact⟨by rw[asj (by rw[bI,he];simp)];rfl,_,rfl⟩
  ·have q1:((n1:Int) !=(l.eE:Int))=true:=by simp;omega
   go_enter Tryz.func213,Tryz.ntmps213;go_wp2_with fail;go_quiet ((go_at_call 157;exact Calls.quiet_of_same (GQ1 _)));go_wp2_with fail;go_ret2;exact⟨by rw[ye (by rw[bI];simp;exactλh=>he h)];rfl,_,rfl⟩
 ·have q0:((c.toNat:Int) !=76)=true:=by have:c.toNat≠76:=λh=>hcc (uF.1 h);simp;omega
  go_enter Tryz.func213,Tryz.ntmps213;go_wp2_with fail;go_quiet (fail);go_wp2_with fail;go_ret2;exact⟨by rw[ye (by rw[bI];simp;exactλh=>absurd h hcc)];rfl,_,rfl⟩
end Go.Proofs.YtbhpofdafhahgaaGreatDoor
