/- Part 3: PlainMap PlainText Frame TreeP TreeQ TreeK TreeW TreeX ErrAs2 ErrAsW ErrIs Told NamesLaw TreeY TreeZ TreeL DiskA. -/
import Derived.Deep.QuietTactic
import Derived.BigQuiet
import Derived.Laws.OwnMore
import Derived.Test.YtbhpofdafhahgaaGreatDoorMq2
set_option linter.all false
set_option maxHeartbeats 8000000
set_option maxRecDepth 100000
namespace Go.Proofs.YtbhpofdafhahgaaGreatDoor
namespace Pl
variable {h a b:Nat} {ks:List Key} {cs:List (Tr h)} {r:Row h} {lo k v:Key} {hi:Option Key} {pg:Tr h} {A L B ps:List Pr} {p:Pr}
variable (f:List Pr->List Pr)
theorem ff.Wd{α:Type}{P:Key->Option Key->α->Prop}{hi:Option Key}:∀{ks:List Key} {cs:List α} {lo:Key} (j:Nat) (k:Key),ff P lo hi ks cs->ks[j]?=some k->DW lo ks j<k/\xK (wW hi ks (j+1)) k
 | [],_,_,_,_,_,hk=>by grind
 |_::_,[],_,_,_,h,_=>h.elim
 |x::ks,c::cs,lo,0,k,h,hk=>by
  obtain rfl:x=k:=zw;refine⟨by rw[rj];exact h.1,λy hy=>?_⟩;cases ks with
  |nil=>exact h.2.1 y hy
  |cons z ks=>
   obtain rfl:z=y:=by simpa [wW] using hy
   exact(h.2.2.2.keys.2 z zu).1
 |x::ks,c::cs,lo,j+1,k,h,hk=>by
  have:=ff.Wd j k h.2.2.2 zw;have e:wW hi (x::ks) (j+1+1)=wW hi ks (j+1):=by unfold wW;simp
  rw[e];exact this
theorem ya(hn:Fit (h+1) (ks,cs))(hr:tj h r)(hc:r.2.length<=3)(VP:a+1<=b):
 (∀k∈ks.take a++r.2++ks.drop (b-1),ey k)/\lD (ks.take a++r.2++ks.drop (b-1))<=420:=by
 obtain⟨h1,h2,h3,h4,h5⟩:=hn;obtain⟨r1,r2,r3⟩:=hr;dsimp only at h1 h2 h3 h4 h5;refine⟨λk hk=>?_,?_⟩
 ·rcases eQ.1 hk with hk|hk
  ·rcases eQ.1 hk with hk|hk
   ·exact h4 k (mQ hk)
   ·exact r2 k hk
  ·exact h4 k (qB hk)
 ·have e1:=gC (ks.take a++r.2) (ks.drop (b-1));have e2:=gC (ks.take a) r.2;have e3:=NN r2;have e4:=gC (ks.take a) (ks.drop a);rw[di]at e4;have e5:lD (ks.drop (b-1))<=lD (ks.drop a):=by
   have e6:=gC ((ks.drop a).take (b-1-a)) ((ks.drop a).drop (b-1-a));rw[di,kL,show a+(b-1-a)=b-1 by omega]at e6;have:6<=lD ((ks.drop a).take (b-1-a)):=by unfold lD;omega
   omega
  omega
theorem Ct(hn:Fit (h+1) (ks,cs))(hr:tj h r)(hc:r.2.length<=3)(VP:a+1<=b)(hb:b<=cs.length)
 (hs:ff (yA h) lo hi ks cs) (hrs:Gz (DW lo ks a) (wW hi ks (b-1)) r):
 Gz lo hi (if ks.take a++r.2++ks.drop (b-1)=[]then(([(([]:List Key),cs.take a++r.1++cs.drop b)],[]):Row (h+1))else fD (ks.take a++r.2++ks.drop (b-1)) (cs.take a++r.1++cs.drop b)):=by
 have h1:=hs.splice a b zo hb hrs;split
 ·next he=>rw[he]at h1;exact h1
 ·next he=>exact Dp (ya hn hr hc VP).1 (ya hn hr hc VP).2 h1
theorem Bg(hr:nF h r)(hl:lone r=some pg):DU h pg/\rI h pg<85:=by
 have h1:=uf hl;refine⟨?_,?_⟩
 ·rcases hr with hr|⟨_,t,ht,ho⟩
  ·exact .inl (hr.2.2 pg zw)
  ·rw[h1]at ht;injection ht with ht;subst ht;exact .inr ho
 ·unfold lone at hl
  grind
theorem Ml(hr:nF h r)(hl:lone r=none):tj h r:=by
 rcases hr with hr|⟨_,t,ht,ho⟩
 ·exact hr
 ·exfalso;unfold lone at hl;rw[ht]at hl;have:=AV.small h t ho
  grind
theorem adg(hs:Gz lo hi r)(hl:lone r=some pg):yA h lo hi pg:=by
 have h1:=uf hl;unfold Gz at hs;rw[h1]at hs;have:r.2=[]:=by
  cases Mg:r.2 with
  |nil=>rfl
  |cons a b=>have:=hs.len;grind
 rw[this]at hs;exact hs
theorem NJ{i:Nat}(hn:Fit (h+1) (ks,cs))(hik:i<=ks.length)(hr:nF h r)(hc:r.2.length<=3)
 (hs:ff (yA h) lo hi ks cs) (hrs:Gz (DW lo ks i) (wW hi ks i) r):Gz lo hi (fE ks cs i r):=by
 have hcs:cs.length=ks.length+1:=hn.1;unfold fE spliced;cases hl:lone r with
 |none=>exact Ct hn (Ml hr hl) hc (ai _) (by show i+1<=cs.length;omega) hs hrs
 |some pg=>
  obtain⟨hh,hsz⟩:=Bg hr hl;have Mf:=adg hrs hl;dsimp only;by_cases h0:0<i
  ·obtain⟨j,rfl⟩:∃j,i=j+1:=⟨i-1,zo⟩;obtain⟨left,h1⟩:∃x,cs[j]?=some x:=⟨_,aF zo⟩;obtain⟨key,h2⟩:∃x,ks[j]?=some x:=⟨_,aF zo⟩;have rJ:Fit h left:=hn.2.2.2.2 left (bO h1);have tE:ey key:=hn.2.2.2.1 key zw;have yZ:=Fit.size h left rJ;have hsp:=hs.dm j left h1;rw[GM h2]at hsp;rw[sA h2]at Mf;obtain⟨q1,q2⟩:=hs.Wd j key h2;rw[ah h0,qX,h1,h2]
   exact Ct hn (lY h left key pg (.inl rJ) hh zw tE zo) (lP h left key pg (.inl rJ) hh zo) (by dsimp only;omega) zw hs
    (CR h left key pg (.inl rJ) hh tE zo hsp Mf q1 q2)
  ·obtain rfl:i=0:=zo;have TR:0<ks.length:=ie.2 hn.2.1;obtain⟨nx,h1⟩:∃x,cs[0+1]?=some x:=zw;obtain⟨key,h2⟩:∃x,ks[0]?=some x:=zS;have rJ:Fit h nx:=hn.2.2.2.2 nx zw;have tE:ey key:=hn.2.2.2.1 key zw;have yZ:=Fit.size h nx rJ;have hsp:=hs.dm 1 nx h1;rw[sA h2]at hsp;rw[GM h2]at Mf;obtain⟨q1,q2⟩:=hs.Wd 0 key h2;rw[aj h0,h1,h2]
   exact Ct hn (lY h pg key nx hh (.inl rJ) zw tE zo) (lP h pg key nx hh (.inl rJ) zo) (by dsimp only;omega) zw hs
    (CR h pg key nx hh (.inl rJ) tE zo Mf hsp q1 q2)
theorem FN{f:List Pr->List Pr}(k:Key)(hf:∀ps:List Pr,sW 0 ps->(∀p∈f ps,la p)/\j5 (f ps)<=400)(hg:∀(lo:Key) (hi:Option Key) (ps:List Pr),yA 0 lo hi ps->Hc lo hi k->yA 0 lo hi (f ps)):
 (h:Nat)->(t:Tr h)->{lo:Key}->{hi:Option Key}->sW h t->yA h lo hi t->Hc lo hi k->Gz lo hi (changed f k h t)
 |0,ps,lo,hi,ht,hs,hk=>si _ _ [] _ (hg lo hi ps hs hk)
 |h+1,n,lo,hi,ht,hs,hk=>by have hw:=tQ n.1 k;have hl:n.2.length=n.1.length+1:=ht.1;obtain⟨t,hx⟩:∃t,n.2[gY n.1 k]?=some t:=⟨_,aF zo⟩;have CE:=Fit.root h t (ht.2.2.2.2 t zw);obtain⟨h1,h2⟩:=pG k hf h t CE;rw[sG hx];exact NJ ht hw h1 h2 hs (FN k hf hg h t CE (ff.dm _ _ hs hx) (ff.way k hs hk))
theorem Iv{h:Nat}(hP:∀lo hi (t:Tr h),yA h lo hi t->qu (kh h t)/\∀p∈kh h t,Hc lo hi p.key){hi:Option Key}:∀{ks:List Key} {cs:List (Tr h)} {lo:Key},ff (yA h) lo hi ks cs->
 qu (cs.flatMap (kh h))/\∀p∈cs.flatMap (kh h),Hc lo hi p.key
 | [],[],_,h=>h.elim
 | [],[t],lo,h=>by simpa using hP lo hi t h
 | [],_::_::_,_,h=>h.elim
 |_::_,[],_,h=>h.elim
 |k::ks,t::ts,lo,h=>by
  obtain⟨h1,h2,h3,h4⟩:=h;obtain⟨a1,a2⟩:=hP _ _ t h3;obtain⟨b1,b2⟩:=Iv hP h4;rw[dR];refine⟨fS.2 ⟨a1,b1,λx hx y hy=>N9 ((a2 x hx).2 k rfl) (b2 y hy).1⟩,λp hp=>?_⟩;rcases eQ.1 hp with hp|hp
  ·exact⟨(a2 p hp).1,λy hy=>vd ((a2 p hp).2 k rfl) (h2 y hy)⟩
  ·exact⟨λh9=>(b2 p hp).1 zw,(b2 p hp).2⟩
theorem GG:(h:Nat)->(lo:Key)->(hi:Option Key)->(t:Tr h)->yA h lo hi t->qu (kh h t)/\∀p∈kh h t,Hc lo hi p.key
 |0,_,_,_,h=>h
 |h+1,lo,hi,n,hs=>Iv (λlo hi t=>GG h lo hi t) hs
theorem Fc{h:Nat}{hi:Option Key}(k:Key):∀{ks:List Key} {cs:List (Tr h)} {lo:Key},ff (yA h) lo hi ks cs->
 (∀p∈(cs.take (gY ks k)).flatMap (kh h),p.key<k)/\∀p∈(cs.drop (gY ks k+1)).flatMap (kh h),k<p.key
 | [],[],_,h=>h.elim
 | [],[t],_,_=>by simp[gY]
 | [],_::_::_,_,h=>h.elim
 |_::_,[],_,h=>h.elim
 |x::ks,t::ts,lo,h=>by
  obtain⟨h1,h2,h3,h4⟩:=h;unfold gY;rw[jZ];by_cases hx:k<x
  ·rw[aj zw];refine⟨zu,λp hp=>?_⟩;have hp':p∈ts.flatMap (kh _):=zw;exact N9 hx ((Iv (λlo hi t=>GG _ lo hi t) h4).2 p hp').1
  ·rw[ah zw,bE,qq,jg,dR];obtain⟨g1,g2⟩:=Fc k h4;refine⟨λp hp=>?_,g2⟩;rcases eQ.1 hp with hp|hp
   ·exact N9 (((GG _ _ _ t h3).2 p hp).2 x rfl) hx
   ·exact g1 p hp
theorem Fit.kids:(h:Nat)->(t:Tr h)->Fit h t->Kids h t
 |0,_,_=>trivial
 |h+1,n,ht=>⟨ht.1,λt hx=>Fit.kids h t (ht.2.2.2.2 t hx)⟩
theorem sW.kids:(h:Nat)->(t:Tr h)->sW h t->Kids h t
 |0,_,_=>trivial
 |h+1,n,ht=>Fit.kids (h+1) n ht
theorem zH(f:List Pr->List Pr)(k:Key):(h:Nat)->(t:Tr h)->{lo:Key}->{hi:Option Key}->Kids h t->yA h lo hi t->Hc lo hi k->
 ∃A B,kh h t=A++fP h t k++B/\pN h (changed f k h t)=A++f (fP h t k)++B/\(∀p∈A,p.key<k)/\∀p∈B,k<p.key
 |0,ps,_,_,_,_,_=>⟨[],[],(dH _).symm,by rw[show changed f k 0 ps=mA (f ps)from rfl,FG];exact(dH _).symm,zu,zu⟩
 |h+1,n,lo,hi,hk,hs,yl=>by
  obtain⟨h1,h2⟩:=hk;have hw:=tQ n.1 k;have hlt:gY n.1 k<n.2.length:=zo;obtain⟨t,ht⟩:∃t,n.2[gY n.1 k]?=some t:=zS;obtain⟨A,B,e1,e2,e3,e4⟩:=zH f k h t zw (ff.dm _ _ hs ht) (ff.way k hs yl);obtain⟨w1,w2⟩:=Fc k hs;refine⟨(n.2.take (gY n.1 k)).flatMap (kh h)++A,B++(n.2.drop (gY n.1 k+1)).flatMap (kh h),?_,?_,λp hp=>?_,λp hp=>?_⟩
  ·have hd:n.2=n.2.take (gY n.1 k)++t::n.2.drop (gY n.1 k+1):=by obtain⟨ajn,rfl⟩:=cR.1 ht;rw[<-fT ajn,di]
   have e:kh (h+1) n=n.2.flatMap (kh h):=rfl;have hle:fP (h+1) n k=fP h t k:=uU ht;rw[e,hle]
   conv=>lhs;rw[hd]
   rw[iH,dR,e1];simp
  ·have hle:fP (h+1) n k=fP h t k:=uU ht;have hc:changed f k (h+1) n=fE n.1 n.2 (gY n.1 k) (changed f k h t):=sG ht;rw[hc,hle,MS _ _ _ _ hlt,e2];simp
  ·rcases eQ.1 hp with hp|hp
   ·exact w1 p hp
   ·exact e3 p hp
  ·rcases eQ.1 hp with hp|hp
   ·exact e4 p hp
   ·exact w2 p hp
def Ld(k:Key)(ps:List Pr):List Pr:=ps.take (aR ps k)++ps.drop (aR ps k+1)
def rD(k:Key)(ps:List Pr):Bool:=match ps[aR ps k]? with|some p=>decide (p.key=k)|none=>false
def dI(k:Key)(ps:List Pr):Option (List UInt8):=match ps[aR ps k]? with|some p=>if p.key=k then some p.val else none|none=>none
theorem qI(h:∀p∈A,p.key<k):aR (A++L) k=A.length+aR L k:=by unfold aR;simp_all
theorem I6(h:∀p∈B,k<p.key):aR (L++B) k=aR L k:=by
 unfold aR
 induction L with
 |nil=>
  cases B with
  |nil=>rfl
  |cons b B=>simp only[aX,jZ];rw[aj zw];rfl
 |cons a L ih=>
  rw[eu,jZ,jZ]
  grind
theorem qV(L:List Pr)(k:Key):aR L k<=L.length:=(List.takeWhile_sublist _).length_le
theorem P3(hA:∀p∈A,p.key<k)(hB:∀p∈B,k<p.key):
 aR (A++L++B) k=A.length+aR L k/\(((A++L++B)[A.length+aR L k]?=L[aR L k]?/\aR L k<L.length)\/(aR L k=L.length/\(A++L++B)[A.length+aR L k]?=B[0]?)):=by
 refine⟨by rw[cJ,qI hA,I6 hB],?_⟩;have:=qV L k
 grind
theorem akj(hB:∀p∈B,k<p.key)(h:B[0]?=some p):p.key≠k:=λe=>zw
theorem WM(hA:∀p∈A,p.key<k)(hB:∀p∈B,k<p.key):dI k (A++L++B)=dI k L:=by
 obtain⟨h1,h2⟩:=P3 (L:=L) hA hB;unfold dI
 grind
theorem CI(k:Key)(ps:List Pr):rD k ps=(dI k ps).isSome:=by
 unfold rD dI
 grind
theorem Wp(hA:∀p∈A,p.key<k)(hB:∀p∈B,k<p.key):dN k v (A++L++B)=A++dN k v L++B:=by
 obtain⟨h1,h2⟩:=P3 (L:=L) hA hB;have hle:=qV L k;have tk:(A++L++B).take (A.length+aR L k)=A++L.take (aR L k):=by rw[cJ,List.take_length_add_append,ua hle]
 have dr:∀j,j<=L.length->(A++L++B).drop (A.length+j)=L.drop j++B:=λj hj=>by rw[cJ,List.drop_length_add_append,Ip hj]
 unfold dN;rw[h1,tk];rcases h2 with⟨h2,h3⟩|⟨h2,h3⟩
 ·rw[h2];obtain⟨p,hp⟩:∃p,L[aR L k]?=some p:=zw;rw[hp];dsimp only;split
  ·grind
  grind
 ·rw[h3,oK (l:=L) zo];cases hb:B[0]? with
  |none=>dsimp only;grind
  |some p=>dsimp only;rw[aj zw,dr _ zo];simp
theorem UO:∀p∈ps.take (aR ps k),p.key<k:=by
 intro p hp;unfold aR at hp
 induction ps with
 |nil=>grind
 |cons a r ih=>
  rw[jZ]at hp
  grind
theorem Ia(h:ps[aR ps k]?=some p):¬p.key<k:=by
 unfold aR at h
 induction ps with
 |nil=>grind
 |cons a r ih=>
  rw[jZ]at h
  grind
theorem VS(hs:qu ps):∀p∈ps.drop (aR ps k),¬p.key<k:=by
 intro p hp;obtain⟨j,hj⟩:=lG.1 hp;rw[lO]at hj;obtain⟨hlt,hj'⟩:=cR.1 hj;obtain⟨q,hq⟩:∃q,ps[aR ps k]?=some q:=zw;have h1:=Ia hq;cases j with
 |zero=>
  grind
 |succ j=>
  obtain⟨hl,MF⟩:=cR.1 hq;have:=oO.1 hs (aR ps k) (aR ps k+(j+1)) hl hlt zo
  grind
def sK(ps:List Pr)(k:Key):List Pr:=ps.drop (match ps[aR ps k]? with|some p=>if p.key=k then aR ps k+1 else aR ps k|none=>aR ps k)
theorem CP(k v:Key)(ps:List Pr):dN k v ps=ps.take (aR ps k)++⟨k,v⟩::sK ps k:=rfl
theorem uG(ps:List Pr)(k:Key):List.Sublist (sK ps k) (ps.drop (aR ps k)):=by
 unfold sK
 grind
theorem L3(hs:qu ps):∀p∈sK ps k,k<p.key:=by
 intro p hp;have h1:=VS hs p ((uG ps k).subset hp);rcases Decidable.em (k<p.key)with h|h
 ·exact h
 ·exfalso;have he:p.key=k:=zw;unfold sK at hp;split at hp
  ·next q hq=>
   obtain⟨hl,MF⟩:=cR.1 hq;split at hp
   ·next hqk=>
    obtain⟨j,hj⟩:=lG.1 hp;rw[lO]at hj;obtain⟨hlt,hj'⟩:=cR.1 hj;have:=oO.1 hs (aR ps k) (aR ps k+1+j) hl hlt zo
    grind
   ·next hqk=>
    obtain⟨j,hj⟩:=lG.1 hp;rw[lO]at hj;obtain⟨hlt,hj'⟩:=cR.1 hj;cases j with
    |zero=>
     grind
    |succ j=>have:=oO.1 hs (aR ps k) (aR ps k+(j+1)) hl hlt zo;rw[MF,hj',he]at this;exact Ia hq this
  ·next hq=>
   have:ps.length<=aR ps k:=zw;rw[nd.2 this]at hp;cases hp
theorem acE(h:yA 0 lo hi ps)(hk:Hc lo hi k):yA 0 lo hi (dN k v ps):=by
 obtain⟨h1,h2⟩:=h;have hr:=uG ps k;have hd:=List.drop_sublist (aR ps k) ps;have alr:qu (dN k v ps)/\∀p∈dN k v ps,Hc lo hi p.key:=by
  rw[CP];refine⟨fS.2 ⟨h1.sublist zw,lM.2 ⟨λx hx=>L3 h1 x hx,h1.sublist (hr.trans hd)⟩,λx hx y hy=>?_⟩,λp hp=>?_⟩
  ·have g:=UO x hx;rcases cV.1 hy with rfl|hy
   ·exact g
   ·exact vd g (L3 h1 y hy)
  grind
 exact alr
theorem Ig(a b:List Pr):yQ (a++b)=yQ a+yQ b:=by simp[yQ]
theorem XL{a b:List Pr}(h:List.Sublist a b):yQ a<=yQ b:=by
 induction h with
 |slnil=>omega
 |cons x _ ih=>simp only[yQ,jf,oU]at ih|-;omega
 |cons_cons x _ ih=>simp only[yQ,jf,oU]at ih|-;omega
theorem Tp(hk:ey k)(hv:v.length<=100)(h:sW 0 ps):(∀p∈dN k v ps,la p)/\j5 (dN k v ps)<=400:=by
 obtain⟨h1,h2⟩:=h;have hr:=uG ps k;have hd:=List.drop_sublist (aR ps k) ps;rw[CP];refine⟨λp hp=>?_,?_⟩
 ·rcases eQ.1 hp with hp|hp
  ·exact h2 p (mQ hp)
  ·rcases cV.1 hp with rfl|hp
   ·exact⟨hk,hv⟩
   ·exact h2 p ((hr.trans hd).subset hp)
 ·have e1:=Ig (ps.take (aR ps k)) (ps.drop (aR ps k));rw[di]at e1;have e2:=XL hr;have e3:j5 (ps.take (aR ps k)++⟨k,v⟩::sK ps k)=3+(yQ (ps.take (aR ps k))+(tL ⟨k,v⟩+yQ (sK ps k))):=by rw[vm,Ig];simp[yQ]
  have e4:tL ⟨k,v⟩<=142:=la.xL (p:=⟨k,v⟩) ⟨hk,hv⟩;have e5:j5 ps=3+yQ ps:=vm ps;omega
abbrev Any:=(h:Nat)×Tr h
def Any.kh(x:Any):List Pr:=Pl.kh x.1 x.2
def upR(r:Row h):Any:=match r.1 with
 | [t]=>⟨h,t⟩
 |ts=>⟨h+1,(r.2,ts)⟩
def Dn:Any->Any
 |⟨h+1,(n:List Key×List (Tr h))⟩=>match n.2 with
  | [c]=>⟨h,c⟩
  |_=>⟨h+1,n⟩
 |⟨0,t⟩=>⟨0,t⟩
def iB(k:Key)(x:Any):Any:=Dn (upR (changed f k x.1 x.2))
def ix(x:Any):Prop:=sW x.1 x.2/\yA x.1 [] none x.2
theorem xB(ks:List Key)(cs:List (Tr h)):Dn ⟨h+1,((ks,cs):List Key×List (Tr h))⟩=match cs with| [c]=>(⟨h,c⟩:Any)|_=>(⟨h+1,((ks,cs):List Key×List (Tr h))⟩:Any):=rfl
theorem ZI(x:Any):(Dn x).kh=x.kh:=by
 obtain⟨h,t⟩:=x;cases h with
 |zero=>rfl
 |succ h=>
  obtain⟨ks,cs⟩:=t;rw[xB]
  match cs with
  | []=>rfl
  | [c]=>exact(dH _).symm
  |a::b::r=>rfl
theorem afz(r:Row h):(upR r).kh=pN h r:=by
 unfold upR;split
 ·next t ht=>show Pl.kh h t=r.1.flatMap _;grind
 ·rfl
theorem Gz.len{h:Nat}{lo:Key}{hi:Option Key}{r:Row h}(hs:Gz lo hi r):r.1.length=r.2.length+1:=ff.len hs
theorem U3{f:List Pr->List Pr}(hf:∀ps:List Pr,sW 0 ps->(∀p∈f ps,la p)/\j5 (f ps)<=400)(hg:∀(lo:Key) (hi:Option Key) (ps:List Pr),yA 0 lo hi ps->Hc lo hi k->yA 0 lo hi (f ps))
 {x:Any} (hx:ix x):ix (iB f k x):=by
 obtain⟨h,t⟩:=x;obtain⟨h1,h2⟩:=hx;have hk:Hc [] none k:=⟨afX k,λy hy=>by cases hy⟩;obtain⟨g1,g2⟩:=pG k hf h t h1;have g3:=FN k hf hg h t h1 h2 hk;unfold iB;dsimp only;generalize changed f k h t=r at g1 g2 g3;obtain⟨ts,ks⟩:=r;have bU:=g3.len;dsimp only at bU g2;unfold upR;dsimp only;split
 ·next t'=>
  have TR:ks=[]:=zw;subst TR;have hsp:yA h [] none t':=g3;rcases g1 with g1|⟨_,t'',e,ho⟩
  ·have Ek:Fit h t':=g1.2.2 t' zu;cases h with
   |zero=>exact⟨Fit.root 0 t' Ek,hsp⟩
   |succ h=>
    obtain⟨ks',GV⟩:=t';have:=Ek.1;have h9:=ie.2 Ek.2.1;dsimp only at this h9;rw[xB]
    match GV,this with
    | [],h8=>grind
    | [c],h8=>grind
    |a::b::r,_=>exact⟨Ek,hsp⟩
  ·injection e with e;subst e;cases h with
   |zero=>have ho':t'=([]:List Pr):=ho;subst ho';have e0:sW 0 ([]:List Pr):=⟨zj,zu⟩;exact⟨e0,hsp⟩
   |succ h=>obtain⟨o1,c,o2,o3⟩:=ho;obtain⟨ks',GV⟩:=t';dsimp only at o1 o2;subst o1 o2;exact⟨Fit.root h c o3,hsp⟩
 ·next hne=>
  have TR:ks≠ []:=by
   rintro rfl;obtain⟨c,hc⟩:=qy.1 zo
   grind
  rcases g1 with g1|⟨e1,_⟩
  ·have e:Dn ⟨h+1,(ks,ts)⟩=(⟨h+1,(ks,ts)⟩:Any):=by rw[xB];simp
   rw[e];refine⟨⟨bU,TR,?_,g1.2.1,g1.2.2⟩,g3⟩;have:=NN g1.2.1
   grind
  grind
theorem zc(k:Key){x:Any}(hx:ix x):∃A B,x.kh=A++fP x.1 x.2 k++B/\(iB f k x).kh=A++f (fP x.1 x.2 k)++B/\(∀p∈A,p.key<k)/\∀p∈B,k<p.key:=by obtain⟨A,B,h1,h2,h3⟩:=zH f k x.1 x.2 (sW.kids x.1 x.2 hx.1) hx.2 ⟨afX k,λy hy=>by cases hy⟩;exact⟨A,B,h1,by rw[iB,ZI,afz,h2],h3⟩
theorem ahk{x:Any}(hx:ix x):(iB (dN k v) k x).kh=dN k v x.kh:=by obtain⟨A,B,h1,h2,h3,h4⟩:=zc (dN k v) k hx;rw[h1,h2,Wp h3 h4]
theorem aeT(hk:ey k)(hv:v.length<=100){x:Any}(hx:ix x):ix (iB (dN k v) k x):=
 U3 (λ_ h=>Tp hk hv h) (λ_ _ _ h h'=>acE h h') hx
theorem aeI{x:Any}(hx:ix x):dI k (fP x.1 x.2 k)=dI k x.kh:=by obtain⟨A,B,h1,h2,h3,h4⟩:=zc id k hx;rw[h1,WM h3 h4]
theorem YU(h:rD k ps=true):aR ps k<ps.length:=by
 unfold rD at h
 grind
theorem ix.uo{x:Any}(hx:ix x):qu x.kh:=(GG _ _ _ _ hx.2).1
theorem Fit.many:(h:Nat)->(t:Tr h)->Fit h t->2^h<=(kh h t).length
 |0,ps,h=>ie.2 h.2.1
 |h+1,n,ht=>by
  have hl:=ht.1;have h0:=ie.2 ht.2.1;have:∀(l:List (Tr h)),(∀t∈l,Fit h t)->l.length*2^h<=(l.flatMap (kh h)).length:=by
   intro l
   induction l with
   |nil=>simp
   |cons a r ih=>intro hx;have h1:=Fit.many h a zw;have h2:=ih (λt ht=>hx t (by simp[ht]));rw[dR,ax,bE,qH];omega
  have h3:=this n.2 ht.2.2.2.2;have h4:2*2^h<=n.2.length*2^h:=Nat.mul_le_mul_right _ zo;show 2^(h+1)<=(n.2.flatMap (kh h)).length;omega
def GI:(h:Nat)->Tr h->Nat
 |0,_=>1
 |h+1,(n:List Key×List (Tr h))=>1+(n.2.map (GI h)).sum
theorem Fit.ej:(h:Nat)->(t:Tr h)->Fit h t->GI h t+1<=2*(kh h t).length
 |0,ps,h=>by have:=ie.2 h.2.1;show 1+1<=2*List.length ps;omega
 |h+1,n,ht=>by
  have hl:=ht.1;have h0:=ie.2 ht.2.1;have:∀(l:List (Tr h)),(∀t∈l,Fit h t)->(l.map (GI h)).sum+l.length<=2*(l.flatMap (kh h)).length:=by
   intro l
   induction l with
   |nil=>simp
   |cons a r ih=>
    intro hx;have h1:=Fit.ej h a zw
    grind
  have h3:=this n.2 ht.2.2.2.2;show 1+(n.2.map (GI h)).sum+1<=2*(n.2.flatMap (kh h)).length;omega
theorem jW(k v:Key)(ps:List Pr):(dN k v ps).length<=ps.length+1:=by
 rw[CP,ax,bE];have:=(uG ps k).length_le
 grind
end Pl
namespace Pl
def xW(p:Pr):List UInt8:=short p.key++short p.val
def eV(ps:List Pr):List UInt8:=108::(be 2 ps.length++ps.flatMap xW)
def Ij(x:Key×Nat):List UInt8:=short x.1++be 4 x.2
def nj(ks:List Key)(ats:List Nat):List UInt8:=105::UInt8.ofNat ks.length::(be 4 (ats.headD 0)++(ks.zip (ats.drop 1)).flatMap Ij)
def l5(t:List UInt8):List UInt8:=t++gO (256-t.length)
end Pl
open Go.RowKit
structure ag(F:Nat->Prop)(w w':World):Prop where
 os:w'.os=w.os
 tape:w'.tape=w.tape
 output:w'.output=w.output
 size:w.heap.size<=w'.heap.size
 block:∀k,k<w.heap.size->¬F k->w'.heap[k]?=w.heap[k]?
section
variable {F G:Nat->Prop} {a b c w w':World}
variable {g:Nat} {cs:List Value}
theorem ag.refl(F:Nat->Prop)(w:World):ag F w w:=⟨rfl,rfl,rfl,(by omega),(by simp)⟩
theorem ag.trans(h:ag F a b)(k:ag G b c)(hG:∀x,x<a.heap.size->G x->F x):ag F a c:=
 ⟨k.os.trans h.os,k.tape.trans h.tape,k.output.trans h.output,ao h.size k.size,λi hi hn=>(k.block i (aK hi h.size) (λhg=>(by grind))).trans (h.block i hi hn)⟩
theorem ag.aE(h:ag F a b)(k:ag F b c):ag F a c:=h.trans k (by simp)
theorem ag.mono(h:ag F a b)(hG:∀x,x<a.heap.size->F x->G x):ag G a b:=⟨h.os,h.tape,h.output,h.size,λi hi hn=>h.block i hi (λhf=>(by grind))⟩
theorem ag.drew(h:ag F a w):ag F a w.drew:=⟨h.os,h.tape,h.output,h.size,h.block⟩
theorem ag.drewN(h:ag F a w)(n:Nat):ag F a (w.drewN n):=⟨h.os,h.tape,h.output,h.size,h.block⟩
theorem ag.im(h:ag F a.drew w):ag F a w:=⟨h.os,h.tape,h.output,h.size,h.block⟩
theorem ag.alloc(h:ag F a w)(o:Obj):ag F a (w.alloc o):=
 ⟨h.os,h.tape,h.output,ao h.size (by simp),λi hi hn=>(mS w o i (aK hi h.size)).trans (h.block i hi hn)⟩
theorem ag.setCell(h:ag F a w){p:Addr}(hp:F p.block\/a.heap.size<=p.block)(u:Value):ag F a (w.setCell p u):=
 ⟨h.os,h.tape,h.output,by simpa [World.setCell] using h.size,λi hi hn=>(BU w p u i (by
   grind)).trans (h.block i hi hn)⟩
theorem ag.setRow(h:ag F a w){g:Nat}(hp:F g\/a.heap.size<=g)(cs:Array Value):ag F a (w.setRow g cs):=
 ⟨h.os,h.tape,h.output,by simpa [World.setRow] using h.size,λi hi hn=>(setRow_other w g i cs (by
   grind)).trans (h.block i hi hn)⟩
theorem ag.ae(h:Below a.heap.size a w)(F:Nat->Prop):ag F a w:=⟨h.os,h.tape,h.output,h.size,λi hi _=>h.block i hi⟩
theorem ag.aa(h:ag F a w)(k:Below w.heap.size w w'):ag F a w':=h.trans (ag.ae k (λ_=>False)) (by simp)
theorem ag.grown(h:ag F a w){row:Option Nat}(k:w.grownBy w' row)(hr:∀g,row=some g->F g\/a.heap.size<=g):ag F a w':=
 ⟨k.os.trans h.os,k.tape.trans h.tape,k.output.trans h.output,ao h.size k.size,λi hi hn=>(k.block i (aK hi h.size) (λe=>by
   grind)).trans (h.block i hi hn)⟩
theorem ag.cW(h:ag F a w){B:Nat}(hB:B<=a.heap.size)(hF:∀k,k<B->¬F k):Below B a w:=⟨h.os,h.tape,h.output,h.size,λk hk=>h.block k (by omega) (by grind)⟩
theorem ag.jk(h:w.grownBy w' (some g)):ag (·=g) w w':=⟨h.os,h.tape,h.output,h.size,λk hk hn=>h.block k hk (by simp_all)⟩
theorem ag.I8(h:ag (·=g) w w'):w.grownBy w' (some g):=⟨h.os,h.tape,h.output,h.size,λk hk hn=>h.block k hk (by simp_all)⟩
theorem ag.aC{t:TypeId}(h:ag F w w')(hb:ay w g t cs)(hg:¬F g):ay w' g t cs:=(h.block g hb.lt hg).trans hb
theorem ag.cell(h:ag F w w'){p:Addr}{u:Value}(hp:w.cell? p=some u)(hn:¬F p.block):w'.cell? p=some u:=
 (World.cell?_of_block (h.block p.block (dC _ _ hp) hn)).trans hp
theorem ag.src{A:Option Addr}(h:ag F w w')(hs:Src w A cs)(hA:∀p,A=some p->¬F p.block):Src w' A cs:=by
 rcases hs with hs|⟨b,off,rfl,hs⟩
 ·exact .inl hs
 ·exact .inr ⟨b,off,rfl,λj u hu=>h.cell (by grind) (by grind)⟩
theorem ag.bytes{A:Option Addr}{l:List UInt8}(h:ag F w w')(hs:aw w A l)(hA:∀p,A=some p->¬F p.block):aw w' A l:=Src.bytes (h.src hs.src hA)
theorem ag.own{aq n size:Nat}{e:TypeId}{v:Value}{xs:List Value}(h:ag F w w')(hs:w.ownsRow aq e size v n xs)(hv:∀g,v.ownBlock=some g->¬F g):w'.ownsRow aq e size v n xs:=by
 refine⟨hs.1,?_⟩;rcases hs.2 with hn|⟨g,aB,cur,rfl,hb,hg,rest⟩
 ·grind
 ·refine .inr ⟨g,aB,cur,rfl,hb,?_,rest⟩;rw[h.block g (by grind) (hv g rfl)];exact hg
end
variable (ta b e a p:Addr) (args:Array Value) (W w:World) (l:List UInt8) (k:Int) (n g:Nat) (old v:Value) (xT:TypeId)
theorem ag.zs{b:Nat}{w w':World}(h:ag (·=b) w w')(k:Nat){v:Value}:ag (·=b) w (w'.setCell ⟨b,k,none⟩ v):=h.setCell (.inl rfl) v
theorem fm{w w':World}{aq:Nat}{e:TypeId}{size n:Nat}{v:Value}{xs:List Value}(h:w.ownsRow aq e size v n xs)(hb:dP w w'):w'.ownsRow aq e size v n xs:=by
 refine h.kept (KM hb none) ?_
 grind
theorem zJ{n:Nat}{w:World}(h:n<=w.heap.size)(o:Obj):n<=(w.alloc o).heap.size:=ao h zu
def ar:ByteArray:=⟨l.toArray⟩
theorem bK:(ar l).size=l.length:=by show l.toArray.size=_;simp
theorem qC:(ar l).data.toList=l:=rfl
theorem sF(a b:List UInt8):ar a++ar b=ar (a++b):=by
 have:(ar a++ar b).data=(ar (a++b)).data:=by apply vF.1;simp[qC]
 cases h1:ar a++ar b;simp_all
theorem agu(a b:List UInt8)(h:a.length+b.length<=9223372036854775807):(Op.stringOp .add (ar a) (ar b)).run Tryz.prog w= .ok (.string (ar (a++b))) w:=by rw[run_string_add_sum w _ _ (by rw[bK,bK];exact h),sF]
theorem aaL(k:Nat):(ar l).extract 0 k=ar (l.take k):=by
 have:((ar l).extract 0 k).data=(ar (l.take k)).data:=by apply vF.1;simp[qC,ar]
 cases h1:(ar l).extract 0 k;simp_all
theorem ZT(k:Nat):(ar l).extract k l.length=ar (l.drop k):=by
 have:((ar l).extract k l.length).data=(ar (l.drop k)).data:=by apply vF.1;simp[qC,ar];rw[dx zu]
 cases h1:(ar l).extract k l.length;simp_all
theorem Ph(hk:k=n)(hn:n<=l.length):
 (Instr.slice 9 (.string (ar l)) none (some (.int .i64 k)) none).run Tryz.prog w= .ok (.string (ar (l.take n))) w:=by
 subst hk;rw[run_slice_string_to_if w 9 (ar l) .i64 n Tryz.underlying9,ah ⟨zo,by rw[bK];omega⟩,Bl,aaL]
theorem Oc(hk:k=n)(hn:n<=l.length):
 (Instr.slice 9 (.string (ar l)) (some (.int .i64 k)) none none).run Tryz.prog w= .ok (.string (ar (l.drop n))) w:=by
 subst hk;rw[run_slice_string_from_if w 9 (ar l) .i64 n Tryz.underlying9,ah ⟨zo,by rw[bK];omega⟩,Bl,bK,ZT]
theorem zO{fn:Func}{t s:Tmp}{tmps:Array Value}{w:World}{g n:Nat}{v:Value}(h:fn.results= #[.cell t 80,.tmp s])(ht:tmps.getD t undef= .pointer (some ⟨g,0,none⟩))(hv:tmps.getD s undef=v)(hB:ay w g 80 (hc n)):
 (results fn tmps).run Tryz.prog w= .ok (.tuple #[bM n,v]) w:=by
 have hl:=CN w g n hB;simp only[fF]at ht hv;simp[results,h,ht,hv,hl,asAddr]
open Go.Extern.Stop Go.Stop Go.Extern
theorem Tryz.aeS:(Rtype.elem? 226).run Tryz.prog w= .ok (some 224) w:=zp
theorem Tryz.mkP:(ReflectliteValue.mk 224 p ReflectliteValue.flagAddr).run Tryz.prog w= .ok (.agg #[.pointer (some ⟨2,224,none⟩),.pointer (some p),.int .u64 406]) w:=zp
theorem Tryz.agq(ha:W.cell? a=some (.pointer (some p))):
 (ReflectliteValue.method (ReflectliteValue.valueError "reflectlite.Value.Elem" 0) ReflectliteValue.elem #[.agg #[.pointer (some ⟨2,226,none⟩),.pointer (some a),.int .u64 150]]).run Tryz.prog W
   = .ok (.agg #[.pointer (some ⟨2,224,none⟩),.pointer (some p),.int .u64 406]) W:=by
 rw[rlm];simp only[iL,Tryz.YM,Result.andThen];simp[ReflectliteValue.elem,loadVar,isAgg,underlying,Tryz.underlying226,ha,Result.andThen,Tryz.aeS,Tryz.mkP]
theorem rls(x:Value):ReflectliteValue.set #[v,x]=(do
 let(some (dst,a,fl),some (src,b,_)):=(<-ReflectliteValue.parts v,<-ReflectliteValue.parts x)
  |unsupported (.noEntry "extern/(internal/reflectlite.Value).Set.zeroValue")
 if fl/ReflectliteValue.flagAddr%2==0 then unsupported (.noEntry "extern/(internal/reflectlite.Value).Set.unaddressable")
 let val<-loadVar src b
 if<-Rtype.directlyAssignable dst src then storeVar dst a val
 else if<-Rtype.implements dst src then
  if(<-Rtype.kind src)==20 then
   match val with
   | .nilIface=>unsupported (.noEntry "extern/reflectlite: a nil value of one interface type handed on as a value of another")
   |_=>storeVar dst a val
  else storeVar dst a (.iface src val)
 else panicString ("reflectlite.Set: value of type " ++(<-Rtype.spelt src)++ " is not assignable to type " ++(<-Rtype.spelt dst))
 pure (.tuple #[])):=rfl
theorem Tryz.afw:(ReflectliteValue.parts (.agg #[.pointer (some ⟨2,224,none⟩),.pointer (some a),.int .u64 406])).run Tryz.prog w= .ok (some (224,a,406)) w:=zp
theorem Tryz.akl:(ReflectliteValue.parts (.agg #[.pointer (some ⟨2,224,none⟩),.pointer (some a),.int .u64 150])).run Tryz.prog w= .ok (some (224,a,150)) w:=zp
theorem Tryz.agZ:(Rtype.directlyAssignable 224 224).run Tryz.prog w= .ok true w:=zp
theorem Tryz.aqn(W:World)(hb:W.cell? b=some (.pointer (some e)))(ht:W.cell? ta=some old)(hf:W.frozen? ta=false):
 (ReflectliteValue.set #[.agg #[.pointer (some ⟨2,224,none⟩),.pointer (some ta),.int .u64 406],.agg #[.pointer (some ⟨2,224,none⟩),.pointer (some b),.int .u64 150]]).run Tryz.prog W
   = .ok (.tuple #[]) (W.setCell ta (.pointer (some e))):=by
 rw[rls];simp only[iL,Tryz.afw,Tryz.akl,Result.andThen];simp[ReflectliteValue.flagAddr,loadVar,isAgg,underlying,Tryz.underlying224,hb,Result.andThen,Tryz.agZ,storeVar,Value.cells,storeCells,Addr.add];rw[run_store Tryz.prog W ta _ _ (by rfl)]
 grind
theorem Tryz.adp:(Rtype.elem? 229).run Tryz.prog w= .ok (some 30) w:=zp
theorem Tryz.mkK:(ReflectliteValue.mk 30 p ReflectliteValue.flagAddr).run Tryz.prog w= .ok (.agg #[.pointer (some ⟨2,30,none⟩),.pointer (some p),.int .u64 386]) w:=zp
theorem Tryz.agQ(ha:W.cell? a=some (.pointer (some p))):
 (ReflectliteValue.method (ReflectliteValue.valueError "reflectlite.Value.Elem" 0) ReflectliteValue.elem #[.agg #[.pointer (some ⟨2,229,none⟩),.pointer (some a),.int .u64 150]]).run Tryz.prog W
   = .ok (.agg #[.pointer (some ⟨2,30,none⟩),.pointer (some p),.int .u64 386]) W:=by
 rw[rlm];simp only[iL,Tryz.X1,Result.andThen];simp[ReflectliteValue.elem,loadVar,isAgg,underlying,Tryz.underlying229,ha,Result.andThen,Tryz.adp,Tryz.mkK]
theorem Tryz.afA:(ReflectliteValue.parts (.agg #[.pointer (some ⟨2,30,none⟩),.pointer (some a),.int .u64 386])).run Tryz.prog w= .ok (some (30,a,386)) w:=zp
theorem Tryz.akF:(ReflectliteValue.parts (.agg #[.pointer (some ⟨2,30,none⟩),.pointer (some a),.int .u64 130])).run Tryz.prog w= .ok (some (30,a,130)) w:=zp
theorem Tryz.agI:(Rtype.directlyAssignable 30 30).run Tryz.prog w= .ok true w:=zp
theorem Tryz.arv(W:World)(hb:W.cell? b=some (.int .i64 k))(ht:W.cell? ta=some old)(hf:W.frozen? ta=false):
 (ReflectliteValue.set #[.agg #[.pointer (some ⟨2,30,none⟩),.pointer (some ta),.int .u64 386],.agg #[.pointer (some ⟨2,30,none⟩),.pointer (some b),.int .u64 130]]).run Tryz.prog W
   = .ok (.tuple #[]) (W.setCell ta (.int .i64 k)):=by
 rw[rls];simp only[iL,Tryz.afA,Tryz.akF,Result.andThen];simp[ReflectliteValue.flagAddr,loadVar,isAgg,underlying,Tryz.underlying30,hb,Result.andThen,Tryz.agI,storeVar,Value.cells,storeCells,Addr.add];rw[run_store Tryz.prog W ta _ _ (by rfl)]
 grind
theorem Tryz.anV(w:World):(Instr.typeAssert (.iface 30 v) xT 360 true).run Tryz.prog w= .ok (.tuple #[.nilIface,.bool false]) w:=run_typeAssert_lacksB Tryz.underlying360 zp zp v xT w
theorem Tryz.E3(w:World):(Instr.typeAssert (.iface 30 v) xT 311 true).run Tryz.prog w= .ok (.tuple #[.nilIface,.bool false]) w:=run_typeAssert_lacksB Tryz.underlying311 zp zp v xT w
theorem Tryz.Br(w:World):(Instr.typeAssert (.iface 30 v) xT 312 true).run Tryz.prog w= .ok (.tuple #[.nilIface,.bool false]) w:=run_typeAssert_lacksB Tryz.underlying312 zp zp v xT w
theorem akm:(callFunc 190 args).run Tryz.prog w=(((λargs=>ReflectliteValue.unpack (args.getD 0 (.tuple #[]))) args:Sem Value).run Tryz.prog w).andThen λv w'=> .ok (.value v) w':=
 @run_callFunc_extern Tryz.prog 190 _ (λargs=>ReflectliteValue.unpack (args.getD 0 (.tuple #[]))) Tryz.func190 zp zp zp zp args w
theorem ala:(callFunc 191 args).run Tryz.prog w=(((ReflectliteValue.methodAny (ReflectliteValue.valueError "reflectlite.Value.Type" 0) (λt _ _ _=>ReflectliteType.toType t)) args:Sem Value).run Tryz.prog w).andThen λv w'=> .ok (.value v) w':=
 @run_callFunc_extern Tryz.prog 191 _ (ReflectliteValue.methodAny (ReflectliteValue.valueError "reflectlite.Value.Type" 0) (λt _ _ _=>ReflectliteType.toType t)) Tryz.func191 zp zp zp zp args w
theorem aji:(callFunc 192 args).run Tryz.prog w=(((ReflectliteValue.method (ReflectliteValue.valueError "reflectlite.Value.IsNil" 0) ReflectliteValue.isNil) args:Sem Value).run Tryz.prog w).andThen λv w'=> .ok (.value v) w':=
 @run_callFunc_extern Tryz.prog 192 _ (ReflectliteValue.method (ReflectliteValue.valueError "reflectlite.Value.IsNil" 0) ReflectliteValue.isNil) Tryz.func192 zp zp zp zp args w
theorem aln:(callFunc 305 args).run Tryz.prog w=(((ReflectliteType.abiMethod λt=>do pure (.int .u8 (<-Rtype.kind t))) args:Sem Value).run Tryz.prog w).andThen λv w'=> .ok (.value v) w':=
 @run_callFunc_extern Tryz.prog 305 _ (ReflectliteType.abiMethod λt=>do pure (.int .u8 (<-Rtype.kind t))) Tryz.func305 zp zp zp zp args w
theorem ajU:(callFunc 376 args).run Tryz.prog w=(((ReflectliteType.method ReflectliteType.elem) args:Sem Value).run Tryz.prog w).andThen λv w'=> .ok (.value v) w':=
 @run_callFunc_extern Tryz.prog 376 _ (ReflectliteType.method ReflectliteType.elem) Tryz.func376 zp zp zp zp args w
theorem aiI:(callFunc 377 args).run Tryz.prog w=(((ReflectliteType.relation "Implements" ReflectliteType.implements_) args:Sem Value).run Tryz.prog w).andThen λv w'=> .ok (.value v) w':=
 @run_callFunc_extern Tryz.prog 377 _ (ReflectliteType.relation "Implements" ReflectliteType.implements_) Tryz.func377 zp zp zp zp args w
theorem x99:(callFunc 135 args).run Tryz.prog w=((ReflectliteType.typeOf args:Sem Value).run Tryz.prog w).andThen λv w'=> .ok (.value v) w':=
 @run_callFunc_extern Tryz.prog 135 _ ReflectliteType.typeOf Tryz.func135 zp zp zp zp args w
theorem aiW:(callFunc 374 args).run Tryz.prog w=(((ReflectliteType.relation "AssignableTo" ReflectliteType.assignableTo) args:Sem Value).run Tryz.prog w).andThen λv w'=> .ok (.value v) w':=
 @run_callFunc_extern Tryz.prog 374 _ (ReflectliteType.relation "AssignableTo" ReflectliteType.assignableTo) Tryz.func374 zp zp zp zp args w
theorem akh:(callFunc 251 args).run Tryz.prog w=(((ReflectliteValue.method (ReflectliteValue.valueError "reflectlite.Value.Elem" 0) ReflectliteValue.elem) args:Sem Value).run Tryz.prog w).andThen λv w'=> .ok (.value v) w':=
 @run_callFunc_extern Tryz.prog 251 _ (ReflectliteValue.method (ReflectliteValue.valueError "reflectlite.Value.Elem" 0) ReflectliteValue.elem) Tryz.func251 zp zp zp zp args w
theorem akO:(callFunc 252 args).run Tryz.prog w=((ReflectliteValue.set args:Sem Value).run Tryz.prog w).andThen λv w'=> .ok (.value v) w':=
 @run_callFunc_extern Tryz.prog 252 _ ReflectliteValue.set Tryz.func252 zp zp zp zp args w
theorem abC(w:World)(hG:GE w)(hb:ay w g 224 [old]):
 bG 134 #[.iface 224 (.pointer (some e)),.iface 226 (.pointer (some ⟨g,0,none⟩))] w λev w'=>ev= .returned (.bool true)/\w.grownBy w' (some g)/\ay w' g 224 [.pointer (some e)]:=by
 have hlt:g<w.heap.size:=hb.lt;have h0:w.cell? ⟨0,0,none⟩=some (.iface 306 (.agg #[.pointer (some ⟨2,73,none⟩)])):=hG;have aeb:=dC w _ h0;dsimp only at aeb;have Rn:0<w.heap.size:=zo;have Gt:0<w.heap.size+1:=zo;have agT:0<w.heap.size+1+1:=zo;have hz:=dC _ _ h0;have y1:=akm;have y2:=ala;have y3:=aji;have y4:=aln;have y5:=ajU;have y6:=aiI;have y7:=x99;have y8:=aiW;have y9:=akh;have y10:=akO;have f1:=Tryz.Mk;have f2:=Tryz.acr;have f3:=Tryz.Bx;have f4:=Tryz.aeU;have f5:=Tryz.ahT;have f6:=Tryz.AR;have f7:=Tryz.oA;have f8:=Tryz.mI;have f9:=Tryz.aeD;have f10:=Tryz.FI;have f11:=Tryz.agK;have f12:=Tryz.MP;have f13:=Tryz.abo;have f14:=Tryz.XK
 have el:=Tryz.agq ⟨w.heap.size,0,none⟩ ⟨g,0,none⟩ (((w.alloc (.cells #[.pointer (some ⟨g,0,none⟩)] 226)).alloc (.cells #[.pointer (some ⟨2,226,none⟩),.pointer (some ⟨w.heap.size,0,none⟩),.int .u64 150] 298)).alloc (.cells #[.pointer (some ⟨2,226,none⟩),.pointer (some ⟨w.heap.size,0,none⟩),.int .u64 150] 298))
  (by rw[vt _ _ ⟨w.heap.size,0,none⟩ (by simp;omega),vt _ _ ⟨w.heap.size,0,none⟩ zu];simp)
 have st:=Tryz.aqn ⟨g,0,none⟩ ⟨w.heap.size+1+1+1,0,none⟩ e old ((((w.alloc (.cells #[.pointer (some ⟨g,0,none⟩)] 226)).alloc (.cells #[.pointer (some ⟨2,226,none⟩),.pointer (some ⟨w.heap.size,0,none⟩),.int .u64 150] 298)).alloc (.cells #[.pointer (some ⟨2,226,none⟩),.pointer (some ⟨w.heap.size,0,none⟩),.int .u64 150] 298)).alloc (.cells #[.pointer (some e)] 224))
  (by rw[World.cell?_alloc_at _ _ _ _ zu];rfl)
  (by rw[((((hb.alloc _).alloc _).alloc _).alloc _).cell 0];rfl)
  (((((hb.alloc _).alloc _).alloc _).alloc _).frozen 0)
 have hc:=hb.cell 0;have hf:=hb.frozen 0;simp only[au]at hc;go_enter Tryz.func134,Tryz.ntmps134;go_wp2;refine rh 1 ?_;rw[ox];go_wp2;go_ret;exact⟨rfl,Ds (kQ (kQ (kQ (kQ (Bt w _) _) _) _) _) (.inl rfl) _,((((hb.alloc _).alloc _).alloc _).alloc _).bw 0 _⟩
theorem aeZ(w:World)(hG:GE w)(hb:ay w g 30 [old]):
 bG 134 #[.iface 30 (.int .i64 k),.iface 229 (.pointer (some ⟨g,0,none⟩))] w λev w'=>ev= .returned (.bool true)/\w.grownBy w' (some g)/\ay w' g 30 [.int .i64 k]:=by
 have hlt:g<w.heap.size:=hb.lt;have h0:w.cell? ⟨0,0,none⟩=some (.iface 306 (.agg #[.pointer (some ⟨2,73,none⟩)])):=hG;have aeb:=dC w _ h0;dsimp only at aeb;have Rn:0<w.heap.size:=zo;have Gt:0<w.heap.size+1:=zo;have agT:0<w.heap.size+1+1:=zo;have hz:=dC _ _ h0;have y1:=akm;have y2:=ala;have y3:=aji;have y4:=aln;have y5:=ajU;have y6:=aiI;have y7:=x99;have y8:=aiW;have y9:=akh;have y10:=akO;have f1:=Tryz.Zr;have f2:=Tryz.aiM;have f3:=Tryz.Bx;have f4:=Tryz.aiP;have f5:=Tryz.amd;have f6:=Tryz.AR;have f7:=Tryz.oA;have f8:=Tryz.mI;have f9:=Tryz.akB;have f10:=Tryz.Qg;have f11:=Tryz.GN;have f12:=Tryz.Oq;have f13:=Tryz.abx;have f14:=Tryz.afq
 have el:=Tryz.agQ ⟨w.heap.size,0,none⟩ ⟨g,0,none⟩ (((w.alloc (.cells #[.pointer (some ⟨g,0,none⟩)] 229)).alloc (.cells #[.pointer (some ⟨2,229,none⟩),.pointer (some ⟨w.heap.size,0,none⟩),.int .u64 150] 298)).alloc (.cells #[.pointer (some ⟨2,229,none⟩),.pointer (some ⟨w.heap.size,0,none⟩),.int .u64 150] 298))
  (by rw[vt _ _ ⟨w.heap.size,0,none⟩ (by simp;omega),vt _ _ ⟨w.heap.size,0,none⟩ zu];simp)
 have st:=Tryz.arv ⟨g,0,none⟩ ⟨w.heap.size+1+1+1,0,none⟩ k old ((((w.alloc (.cells #[.pointer (some ⟨g,0,none⟩)] 229)).alloc (.cells #[.pointer (some ⟨2,229,none⟩),.pointer (some ⟨w.heap.size,0,none⟩),.int .u64 150] 298)).alloc (.cells #[.pointer (some ⟨2,229,none⟩),.pointer (some ⟨w.heap.size,0,none⟩),.int .u64 150] 298)).alloc (.cells #[.int .i64 k] 30))
  (by rw[World.cell?_alloc_at _ _ _ _ zu];rfl)
  (by rw[((((hb.alloc _).alloc _).alloc _).alloc _).cell 0];rfl)
  (((((hb.alloc _).alloc _).alloc _).alloc _).frozen 0)
 have hc:=hb.cell 0;have hf:=hb.frozen 0;simp only[au]at hc;go_enter Tryz.func134,Tryz.ntmps134;go_wp2;refine rh 1 ?_;rw[ox];go_wp2;go_ret;exact⟨rfl,Ds (kQ (kQ (kQ (kQ (Bt w _) _) _) _) _) (.inl rfl) _,((((hb.alloc _).alloc _).alloc _).alloc _).bw 0 _⟩
theorem ZN(w:World)(hG:GE w)(hb:ay w g 224 [old]):
 bG 134 #[.iface 30 (.int .i64 k),.iface 226 (.pointer (some ⟨g,0,none⟩))] w λev w'=>ev= .returned (.bool false)/\dP w w':=by
 have hlt:g<w.heap.size:=hb.lt;have h0:w.cell? ⟨0,0,none⟩=some (.iface 306 (.agg #[.pointer (some ⟨2,73,none⟩)])):=hG;have aeb:=dC w _ h0;dsimp only at aeb;have Rn:0<w.heap.size:=zo;have Gt:0<w.heap.size+1:=zo;have agT:0<w.heap.size+1+1:=zo;have hz:=dC _ _ h0;have y1:=akm;have y2:=ala;have y3:=aji;have y4:=aln;have y5:=ajU;have y6:=aiI;have y7:=x99;have y8:=aiW;have y9:=akh;have y10:=akO;have f1:=Tryz.Mk;have f2:=Tryz.acr;have f3:=Tryz.Bx;have f4:=Tryz.aeU;have f5:=Tryz.ahT;have f6:=Tryz.AR;have f7:=Tryz.oA;have f8:=Tryz.mI;have f9:=Tryz.aeD;have f10:=Tryz.FI;have f11:=Tryz.GN;have f12:=Tryz.Nx;have n1:=Tryz.anV;have n2:=Tryz.E3;have n3:=Tryz.Br;have f14:=Tryz.XK;have hc:=hb.cell 0;have hf:=hb.frozen 0;simp only[au]at hc;go_enter Tryz.func134,Tryz.ntmps134;go_wp2;refine rh 1 ?_;rw[ox];go_wp2;go_ret;exact⟨rfl,((za _ _).alloc zu _).alloc (by simp;omega) _⟩
section
variable {P:Program} (w:World)
variable {ti tn:TypeId} {ms:Array (String×TypeId)} {i:TypeInfo} {k:IntKind}
theorem wI(d:Nat)(a b:Int)
 (hi:P.underlying ti=some (.interface ms)) (hn:P.underlying tn=some (.int k)) (afd:P.info? tn=some i) (abZ:i.comparable=true):
 (Op.equalIn (d+2) ti (.iface tn (.int k a)) (.iface tn (.int k b))).run P w= .ok (a==b) w:=by
 simp[Op.equalIn,gA hi,gA hn,typeInfo,afd,abZ]
theorem sr(a b:Int)
 (hi:P.underlying ti=some (.interface ms)) (hn:P.underlying tn=some (.int k)) (afd:P.info? tn=some i) (abZ:i.comparable=true):
 (binOp .eql ti (.iface tn (.int k a)) (.iface tn (.int k b))).run P w= .ok (.bool (a==b)) w:=by
 simp only[binOp];simp[Op.equal,Op.maxDepth,wI w 9998 a b hi hn afd abZ]
end
variable {w':World} {g n aq size:Nat} {t e:TypeId} {a0 a1 a2:Value} {xs:List Value} {d:Pl.Dk} {rd:Int}
variable (v:Value) (xT:TypeId) (k:Int) (w:World) (l:List Pl.jl) (i j:Nat) (s:Pl.jl)
def JZ:Array Value->Sem Value:=ReflectliteType.method λt=>do Rtype.noPackHeld "Comparable" t;pure (.bool (<-typeInfo t).comparable)
theorem Tryz.zy:(JZ #[.agg #[.pointer (some ⟨2,30,none⟩)]]).run Tryz.prog w= .ok (.bool true) w:=zp
theorem Tryz.tP:(Go.method 570 306 v "Comparable").run Tryz.prog w= .ok (375,v) w:=zp
theorem Tryz.ail:(Tryz.prog.info? 30).map (·.comparable)=some true:=zp
theorem Tryz.ahV:(Instr.typeAssert (.iface 30 v) xT 308 true).run Tryz.prog w= .ok (.tuple #[.nilIface,.bool false]) w:=run_typeAssert_lacksB Tryz.underlying308 zp zp v xT w
theorem Tryz.alz:(Instr.typeAssert (.iface 224 v) xT 308 true).run Tryz.prog w= .ok (.tuple #[.nilIface,.bool false]) w:=run_typeAssert_lacksB Tryz.underlying308 zp zp v xT w
theorem Tryz.VW:(Instr.typeAssert (.iface 224 v) xT 311 true).run Tryz.prog w= .ok (.tuple #[.iface 224 v,.bool true]) w:=run_typeAssert_hasB Tryz.underlying311 zp v xT w
theorem Tryz.KW(a:Addr)(w:World):(Go.method 570 224 (.pointer (some a)) "Unwrap").run Tryz.prog w= .ok (338,.pointer (some a)) w:=zp
theorem aoL(args:Array Value)(w:World):(callFunc 375 args).run Tryz.prog w=((JZ args).run Tryz.prog w).andThen λv w'=> .ok (.value v) w':=
 @run_callFunc_extern Tryz.prog 375 _ JZ Tryz.func375 zp zp zp zp args w
theorem th(i:Int)(w:World):
 bG 81 #[.nilIface,.iface 30 (.int .i64 i)] w λe w'=>e= .returned (.bool false)/\w=w':=by
 have hn:=run_eql_iface_nil_left (P:=Tryz.prog) w 30 (.int .i64 i) Tryz.underlying73;go_enter Tryz.func81,Tryz.ntmps81;go_wp2;go_ret;exact⟨rfl,rfl⟩
theorem NU(i:Int)(w:World):
 bG 81 #[.iface 30 (.int .i64 k),.iface 30 (.int .i64 i)] w λe w'=>e= .returned (.bool (k==i))/\w=w':=by
 obtain⟨ti,hi,abz⟩:=tV.1 Tryz.ail;have y1:=x99;have y2:=aoL;have f1:=Tryz.GN;have f2:=Tryz.zy;have f3:=Tryz.tP;have n1:=Tryz.ahV;have n2:=Tryz.E3;have n3:=Tryz.Br;have heq:=sr (P:=Tryz.prog) w k i Tryz.underlying73 Tryz.underlying30 hi abz;cases hki:(k==i)
 all_goals
  rw[hki]at heq;clear hki hi abz;go_enter Tryz.func81,Tryz.ntmps81;go_wp2;refine rh 1 ?_;rw[ox];go_wp2;go_ret;exact⟨rfl,rfl⟩
theorem adQ(g:Nat)(t:Value)(k i:Int)(w:World)(hb:ay w g 228 [t,.int .i64 k]):
 bG 81 #[.iface 224 (.pointer (some ⟨g,0,none⟩)),.iface 30 (.int .i64 i)] w λe w'=>e= .returned (.bool (k==i))/\w=w':=by
 obtain⟨ti,hi,abz⟩:=tV.1 Tryz.ail;have y1:=x99;have y2:=aoL;have f1:=Tryz.GN;have f2:=Tryz.zy;have f3:=Tryz.tP;have n1:=Tryz.ahV;have n2:=Tryz.E3;have n3:=Tryz.Br;have n4:=Tryz.alz;have n5:=Tryz.VW;have n6:=Tryz.KW;have hc:=hb.cell 1;simp only[aL,au]at hc;have heq:=sr (P:=Tryz.prog) w k i Tryz.underlying73 Tryz.underlying30 hi abz;have mr:=run_eql_iface_types (P:=Tryz.prog) 224 30 (.pointer (some ⟨g,0,none⟩)) (.int .i64 i) Tryz.underlying73 zj w;cases hki:(k==i)
 all_goals
  rw[hki]at heq;clear hki hi abz;go_enter Tryz.func81,Tryz.ntmps81;go_wp2;refine rh 2 ?_;rw[ox];go_wp2;rw[ox];go_wp2;go_ret;exact⟨rfl,rfl⟩
def yc(v:Value)(k:Nat)(t:ByteArray):Prop:=
 (v= .nilIface/\k=0/\t=⟨#[]⟩)\/(v= .iface 30 (.int .i64 (k:Int))/\t=⟨#[]⟩)\/
   ∃g,v= .iface 224 (.pointer (some ⟨g,0,none⟩))/\ay w g 228 [.string t,.int .i64 (k:Int)]
theorem yc.nil:yc w .nilIface 0 ⟨#[]⟩:= .inl ⟨rfl,rfl,rfl⟩
theorem yc.kind(k:Nat):yc w (.iface 30 (.int .i64 (k:Int))) k ⟨#[]⟩:= .inr (.inl ⟨rfl,rfl⟩)
theorem yc.aa{w w':World}{v:Value}{k:Nat}{t:ByteArray}(h:yc w v k t)(hb:dP w w'):yc w' v k t:=by
 rcases h with h|h|⟨g,h,hg⟩
 ·exact .inl h
 ·exact .inr (.inl h)
 ·exact .inr (.inr ⟨g,h,hg.aa hb hg.lt⟩)
theorem GE.aa{w:World}(h:GE w)(hb:dP w w'):GE w':=by have hz:=dC _ _ h;exact(hb.cell (p:=⟨0,0,none⟩) hz).trans h
theorem GE.lt{w:World}(h:GE w):0<w.heap.size:=dC _ _ h
theorem Zp(hG:GE w):
 bG 80 #[.nilIface] w λe w'=>e= .returned (.tuple #[.int .i64 0,.string ⟨#[]⟩])/\dP w w':=by
 go_enter Tryz.func80,Tryz.ntmps80;go_wp2_with fail;refine(adW _ _).mono ?_;rintro e w' ⟨rfl,rfl⟩;go_wp2_with fail;refine(adW _ _).mono ?_;rintro e w' ⟨rfl,rfl⟩;go_wp2_with fail;go_ret2;exact⟨rfl,(za _ _).alloc zu _⟩
theorem GE.alloc{w:World}(h:GE w)(o:Obj):GE (w.alloc o):=h.aa ((ak _ _).alloc zo _)
theorem Xl(hG:GE w):
 bG 80 #[.iface 30 (.int .i64 k)] w λe w'=>e= .returned (.tuple #[.int .i64 k,.string ⟨#[]⟩])/\dP w w':=by
 go_enter Tryz.func80,Tryz.ntmps80;go_wp2_with fail;refine(ZN k w.heap.size _ _ (hG.alloc _) (ay.new w _ _)).mono ?_;rintro e w1 ⟨rfl,aI⟩;have ma:=aI.size;simp only[Cn]at ma;go_wp2_with fail;refine(aeZ k w1.heap.size _ _ (((hG.alloc _).aa aI).alloc _) (ay.new w1 _ _)).mono ?_;rintro e w2 ⟨rfl,pQ,EU⟩;have hc:=EU.cell 0;simp only[au]at hc;go_wp2_with fail;go_ret2;have h1:Below w.heap.size w w1:=(za _ _).trans (aI.mono zu);exact⟨rfl,(h1.alloc h1.size _).trans (zN pQ h1.size (by have:=h1.size;simp;omega))⟩
theorem TD(g:Nat)(t:ByteArray)(k:Int)(w:World)(hG:GE w)(hb:ay w g 228 [.string t,.int .i64 k]):
 bG 80 #[.iface 224 (.pointer (some ⟨g,0,none⟩))] w λe w'=>e= .returned (.tuple #[.int .i64 k,.string t])/\dP w w':=by
 go_enter Tryz.func80,Tryz.ntmps80;go_wp2_with fail;refine(abC ⟨g,0,none⟩ w.heap.size _ _ (hG.alloc _) (ay.new w _ _)).mono ?_;rintro e w2 ⟨rfl,pQ,EU⟩;have hc:=EU.cell 0;simp only[au]at hc;have bz:=(hb.alloc (.cells #[.pointer none] 224)).grown pQ (by have:=hb.lt;simp;omega);have hc0:=bz.cell 0;have rX:=bz.cell 1;simp only[aL,au]at hc0 rX;have jN:Below w.heap.size w w2:=(za _ _).trans (zN pQ (ai _) zu);go_wp2_with fail;go_quiet (fail);go_wp2_with fail;go_ret2;exact⟨rfl,below_drewN jN _⟩
theorem Za(k:Nat)(t:ByteArray)(w:World)(hG:GE w)(h:yc w v k t):
 bG 80 #[v] w λe w'=>e= .returned (.tuple #[.int .i64 (k:Int),.string t])/\dP w w':=by
 rcases h with⟨rfl,rfl,rfl⟩|⟨rfl,rfl⟩|⟨g,rfl,hb⟩
 ·exact Zp w hG
 ·exact Xl k w hG
 ·exact TD g t k w hG hb
theorem Vi(k:Nat)(t:ByteArray)(i:Int)(w:World)(h:yc w v k t)(hi:1<=i):
 bG 81 #[v,.iface 30 (.int .i64 i)] w λe w'=>e= .returned (.bool ((k:Int)==i))/\w=w':=by
 rcases h with⟨rfl,rfl,rfl⟩|⟨rfl,rfl⟩|⟨g,rfl,hb⟩
 ·refine(th i w).mono λe w' ⟨he,hw⟩=>⟨?_,hw⟩;rw[he];have:(((0:Nat):Int)==i)=false:=zw
  grind
 ·exact NU k i w
 ·exact adQ g _ k i w hb
theorem mf(k:Nat)(t:ByteArray)(w:World)(hG:GE w)(h:yc w v k t)(hk:k<=21):
 bG 34 #[v] w λe w'=>e= .returned (.agg #[.int .i64 (k:Int),.string t,.bool true])/\dP w w':=by
 go_enter Tryz.func34,Tryz.ntmps34;go_wp2_with fail;refine(Za v k t _ (hG.alloc _) (h.aa (za _ _))).mono ?_;rintro e w1 ⟨rfl,aI⟩;have ma:=aI.size;simp only[Cn]at ma;have h1:Below w.heap.size w w1:=(za _ _).trans (aI.mono zu);have hE:=h.aa (h1.trans ((ak _ _).alloc h1.size (.cells #[.int .i64 (k:Int),.string t,.bool true] 32)));have aos:ay w1 w.heap.size 32 [.int .i64 0,.string ⟨#[]⟩,.bool false]:=(ay.new w 32 [.int .i64 0,.string ⟨#[]⟩,.bool false]).aa aI zu;go_wp2_with fail
 go_loop [6] (λi=>∃n:Nat,1<=n/\n<=22/\i= .int .i64 (n:Int)) (λi=>22-(intOf i).toNat)
 case atStart=>exact⟨1,zo,zo,rfl⟩
 case round=>
  obtain⟨n,uc,mV,rfl⟩:=hrel;by_cases hlt:n<=21
  ·cases pX:(((k:Nat):Int)==(n:Int))
   all_goals
    have CF:((n:Int)==((k:Nat):Int))=_:=Bool.beq_comm.trans pX;go_wp2_with fail;refine(Vi v k t n _ hE zo).mono ?_;rintro e w' ⟨rfl,rfl⟩;rw[pX];go_wp2_with fail
    go_round
    case rel=>exact⟨n+1,zo,zo,by go_num⟩
    case measure=>simp[intOf];omega
  ·have EY:=aos.alloc (.cells #[.int .i64 (k:Int),.string t,.bool true] 32);have c0:=EY.cell 0;have c1:=EY.cell 1;have c2:=EY.cell 2;have f0:=EY.frozen 0;have f1:=EY.frozen 1;have f2:=EY.frozen 2;simp only[aL,au]at c0 c1 c2;have hW:=((EY.bw 0 (.int .i64 (k:Int))).bw 1 (.string t)).bw 2 (.bool true);go_wp2_with fail;have d0:=hW.cell 0;have d1:=hW.cell 1;have d2:=hW.cell 2;simp only[jC,rB,aL,au]at d0 d1 d2;refine bH (v:= .agg #[.int .i64 (k:Int),.string t,.bool true]) (by simp[results,Tryz.results34,go_sem,d0,d1,d2]) rfl ⟨rfl,?_⟩;exact(((h1.alloc h1.size _).setCell (ai _) _).setCell (ai _) _).setCell (ai _) _
def Az(t:ByteArray):Value:= .agg #[.int .i64 k,.string t,.bool true]
theorem C8(k':Int)(t t':ByteArray)(b b':Bool)(w:World):
 (binOp .eql 32 (.agg #[.int .i64 k,.string t,.bool b]) (.agg #[.int .i64 k',.string t',.bool b'])).run Tryz.prog w= .ok (.bool (k==k'&&(t.toList==t'.toList&&b==b'))) w:=by
 have he:=run_equalIn_struct (P:=Tryz.prog) w 9999 32 #[.int .i64 k,.string t,.bool b] #[.int .i64 k',.string t',.bool b'] zp zp;simp only[binOp];simp only[Op.equal,Op.maxDepth,iL,he];simp[go_sem,part];by_cases h1:k=k'<;>by_cases h2:t.toList=t'.toList<;>by_cases h3:b=b'<;>simp[h1,h2,h3]
theorem NM{P:Program}(dT sT ty elem:TypeId)(g o apl aqb m:Nat)(s:ByteArray)(cur:List Value)(t:TypeId)
 (hu:P.underlying dT=some (.slice elem)) (hs:(P.info? elem).map (·.size)=some 1) (hg:ay w g t cur) (hm:Nat.min s.size apl=m) (jn:o+m<=cur.length):
 (Builtin.copy_ #[dT,sT] ty #[.slice (some ⟨g,o,none⟩) apl aqb,.string s]).run P w=
   .ok (goInt m) (w.setRow g (cur.take o++bv (s.data.toList.take m)++cur.drop (o+m)).toArray):=by
 have hms:m<=s.size:=zw;have hl:(bv (s.data.toList.take m)).length=m:=by simp_all
 have hst:=run_storeCells_at P g o t (bv (s.data.toList.take m)) 0 cur.toArray w hg zw (Pf _);cases hq:P.info? elem with
 |none=>grind
 |some i=>
  have hi:i.size=1:=zw;have hb:List.take m (List.map (λb:UInt8=>Value.int .u8 (b.toNat:Int)) s.data.toList)=bv (s.data.toList.take m):=by rw[bv,qR]
  simp only[cI,hl]at hst;simp[Builtin.copy_,gA hu,Builtin.lenOf,Builtin.firstCells,sizeOf,typeInfo,hq,hm];simp_all
theorem adY(s:ByteArray)(w:World):
 bG 37 #[.string s] w λe w'=>e= .returned (bM (Pl.vG s.data.toList))/\dP w w':=by
 have hs:s.data.toList.length=s.size:=rfl;have XH:=NM (P:=Tryz.prog) ((w.alloc (.cells #[.int .u8 0,.int .u8 0,.int .u8 0,.int .u8 0] 80)).alloc (.cells #[.int .u8 0,.int .u8 0,.int .u8 0,.int .u8 0] 80)) 29 9 3 5 (w.heap.size+1) 0 4 4 (Nat.min s.size 4) s [.int .u8 0,.int .u8 0,.int .u8 0,.int .u8 0] 80 Tryz.underlying29 Tryz.acC (ay.newAt _ _ _ _ zu) rfl (by simp;exact Nat.min_le_right _ _);have hh:=aaS s.data.toList;rw[hs]at hh;rw[re,aX,hh]at XH;obtain⟨h,hhh⟩:=ze (Pl.vG s.data.toList);rw[hhh]at XH|-
 have hr:((w.alloc (.cells #[.int .u8 0,.int .u8 0,.int .u8 0,.int .u8 0] 80)).alloc (.cells #[.int .u8 0,.int .u8 0,.int .u8 0,.int .u8 0] 80)).setRow (w.heap.size+1) (hc h).toArray=(w.alloc (.cells #[.int .u8 0,.int .u8 0,.int .u8 0,.int .u8 0] 80)).alloc (.cells (hc h).toArray 80):=by have:=MT (w.alloc (.cells #[.int .u8 0,.int .u8 0,.int .u8 0,.int .u8 0] 80)) #[.int .u8 0,.int .u8 0,.int .u8 0,.int .u8 0] (hc h).toArray 80;simpa using this
 rw[hr]at XH;unfold hc at XH;clear hh hs hhh hr;go_enter Tryz.func37,Tryz.ntmps37;go_wp2_with fail;exact bH (v:=bM h) (nD rfl rfl ((ay.new w 80 (hc h)).alloc _)) rfl ⟨rfl,(za _ _).alloc zu _⟩
theorem dD{w:World}(h:ay w g t [a0,a1,a2]):
 w.cell? ⟨g,0,none⟩=some a0/\w.cell? ⟨g,1,none⟩=some a1/\w.cell? ⟨g,2,none⟩=some a2/\
 w.frozen? ⟨g,0,none⟩=false/\w.frozen? ⟨g,1,none⟩=false/\w.frozen? ⟨g,2,none⟩=false:=
 ⟨h.cell 0,h.cell 1,h.cell 2,h.frozen 0,h.frozen 1,h.frozen 2⟩
theorem ay.Nj{w:World}(h:ay w g t [a0,a1,a2])(x0 x1 x2:Value):
 ay (((w.setCell ⟨g,0,none⟩ x0).setCell ⟨g,1,none⟩ x1).setCell ⟨g,2,none⟩ x2) g t [x0,x1,x2]:=
 ((h.bw 0 x0).bw 1 x1).bw 2 x2
theorem ju{B:Nat}{a w:World}(h:Below B a w)(hg:B<=g)(x0 x1 x2:Value):
 Below B a (((w.setCell ⟨g,0,none⟩ x0).setCell ⟨g,1,none⟩ x1).setCell ⟨g,2,none⟩ x2):=
 ((h.setCell hg x0).setCell hg x1).setCell hg x2
def wL:Obj:= .cells #[.int .i64 0,.string ⟨#[]⟩,.bool false] 32
theorem Tryz.oI:(Tryz.prog.info? 29).map (λi=>(i.zero,i.size,i.bytes))=some (some (.slice none 0 0),1,24):=zp
theorem rE{m:Nat}(h:n+m<=8796093022208):∀old,old<n+m->Builtin.nextslicecap (n+m) old*24<=281474976710656:=by intro old ho;have:=ig ho;omega
theorem Qt{w:World}{v:Value}(h:w.ownsRow aq e size v n xs)(hn:0<n):∃g aB,v= .slice (some ⟨g,0,none⟩) n aB/\aq<=g/\n<=aB:=by
 rcases h.2 with⟨_,h0⟩|⟨g,aB,cur,hv,hb,_,hc,_⟩
 ·omega
 grind
theorem akD{w:World}{aB:Nat}(h:w.ownsRow aq e size (.slice (some ⟨g,0,none⟩) n aB) n xs)(j:Nat)(u:Value)(hu:xs[j]?=some u):w.cell? ⟨g,j,none⟩=some u:=by have:=h.cells (g:=g) rfl j u hu;rwa [nJ,bZ]at this
def eO:List Value:=[.string (ar s.now),.string (ar s.safe),.bool s.broken,.bool s.was,.bool s.fresh]
def cu:List Value:=l.flatMap eO
theorem vQ:(eO s).length=5:=rfl
theorem Fa:(cu l).length=l.length*5:=by
 induction l with
 |nil=>rfl
 |cons a r ih=>simp only[cu,dR,ax]at ih|-;rw[ih];simp[eO];omega
theorem tU(a b:List Pl.jl):cu (a++b)=cu a++cu b:=by simp[cu]
theorem I4(a:Pl.jl)(b:List Pl.jl):cu (a::b)=eO a++cu b:=by simp[cu]
theorem pP(hs:l[i]?=some s):cu l=cu (l.take i)++(eO s++cu (l.drop (i+1))):=by
 have hi:i<l.length:=zw;have he:l[i]=s:=zw
 conv=>lhs;rw[<-di i l,tU,fT hi,I4,he]
theorem kp(hi:i<l.length):(cu (l.take i)).length=i*5:=by rw[Fa,aP,dt zo]
theorem zX(hs:l[i]?=some s)(hj:j<5):(cu l)[i*5+j]?=(eO s)[j]?:=by have hi:i<l.length:=zw;rw[pP l i s hs,iI (by rw[kp l i hi];omega),kp l i hi,IZ,kc (by rw[vQ];exact hj)]
theorem QG(A C:List Value)(k:Nat)(hA:A.length=k):∀(qn:List (Nat×Value)) (B:List Value),(∀p∈qn,p.1<B.length)->
 qn.foldl (λxs p=>xs.set (k+p.1) p.2) (A++(B++C))=A++(qn.foldl (λxs p=>xs.set p.1 p.2) B++C)
 | [],_,_=>rfl
 |p::r,B,h=>by have h1:=h p zu;rw[qT,qT,List.set_append_right _ _ zo,hA,IZ,List.set_append_left _ _ h1];exact QG A C k hA r (B.set p.1 p.2) (λq hq=>by grind)
theorem Ih(s':Pl.jl)(hs:l[i]?=some s)(qn:List (Nat×Value))(hlt:∀p∈qn,p.1<5)(h:qn.foldl (λxs p=>xs.set p.1 p.2) (eO s)=eO s'):
 qn.foldl (λxs p=>xs.set (i*5+p.1) p.2) (cu l)=cu (l.set i s'):=by
 have hi:i<l.length:=zw;have h':(l.set i s')[i]?=some s':=zw;rw[pP l i s hs,pP (l.set i s') i s' h',QG _ _ _ (kp l i hi) qn _ (λp hp=>by rw[vQ];grind),h];congr 2
 ·rw[List.take_set_of_le zo]
 ·congr 1;rw[List.drop_set_of_lt zo]
structure aJ(w:World)(g:Nat)(v:Value)(d:Pl.Dk)(rd:Int):Prop where
 pU:d.aV.length<=4096
 sized:∀s∈d.aV,s.now.length=256/\s.safe.length=256
 aW: -1<=d.aW/\d.aW<=9223372036854775807
 mK:v.ownBlock≠some g
 own:w.ownsRow 0 190 5 v d.aV.length (cu d.aV)
 aC:∃wr sy,ay w g 108 [v,.int .i64 d.aW,.int .i64 rd,.int .i64 wr,.int .i64 sy]
def dF(g:Nat)(v:Value)(k:Nat):Prop:=k=g\/v.ownBlock=some k
theorem aJ.only{F:Nat->Prop}{w:World}{v:Value}(h:aJ w g v d rd)(ho:ag F w w')(hF:∀k,dF g v k->¬F k):aJ w' g v d rd:=by obtain⟨wr,sy,hb⟩:=h.aC;exact⟨h.pU,h.sized,h.aW,h.mK,ho.own h.own (λk hk=>hF k (.inr hk)),wr,sy,ho.aC hb (hF g (.inl rfl))⟩
theorem aJ.aa{w:World}{v:Value}(h:aJ w g v d rd)(hb:dP w w'):aJ w' g v d rd:=h.only (ag.ae hb (λ_=>False)) zu
theorem aJ.lt{w:World}{g:Nat}{v:Value}{d:Pl.Dk}{rd:Int}(h:aJ w g v d rd):∀k,dF g v k->k<w.heap.size:=by
 obtain⟨wr,sy,hb⟩:=h.aC;rintro k (rfl|hk)
 ·exact hb.lt
 ·exact(h.own.lt k hk).2
theorem pV{w:World}{a3 a4:Value}(h:ay w g t [a0,a1,a2,a3,a4]):
 w.cell? ⟨g,0,none⟩=some a0/\w.cell? ⟨g,1,none⟩=some a1/\w.cell? ⟨g,2,none⟩=some a2/\w.cell? ⟨g,3,none⟩=some a3/\w.cell? ⟨g,4,none⟩=some a4/\
 w.frozen? ⟨g,0,none⟩=false/\w.frozen? ⟨g,1,none⟩=false/\w.frozen? ⟨g,2,none⟩=false/\w.frozen? ⟨g,3,none⟩=false/\w.frozen? ⟨g,4,none⟩=false:=
 ⟨h.cell 0,h.cell 1,h.cell 2,h.cell 3,h.cell 4,h.frozen 0,h.frozen 1,h.frozen 2,h.frozen 3,h.frozen 4⟩
theorem GF{w:World}{b aB:Nat}{l:List Pl.jl}(ho:w.ownsRow 0 190 5 (.slice (some ⟨b,0,none⟩) n aB) n (cu l))(hn:l.length=n){i:Nat}{s:Pl.jl}(hs:l[i]?=some s):
 w.cell? ⟨b,i*5,none⟩=some (.string (ar s.now))/\w.cell? ⟨b,i*5+1,none⟩=some (.string (ar s.safe))/\w.cell? ⟨b,i*5+2,none⟩=some (.bool s.broken)/\
  w.cell? ⟨b,i*5+3,none⟩=some (.bool s.was)/\w.cell? ⟨b,i*5+4,none⟩=some (.bool s.fresh)/\(∀j,w.frozen? ⟨b,j,none⟩=false):=by
 have hi:i<l.length:=zw;have hc:∀j,j<5->w.cell? ⟨b,i*5+j,none⟩=(eO s)[j]?:=λj hj=>(ho.cellAt (i*5+j) zo).trans (zX _ _ _ _ hs hj);exact⟨hc 0 zo,hc 1 zo,hc 2 zo,hc 3 zo,hc 4 zo,λj=>ho.frozenAt j⟩
theorem aJ.sec{w:World}{v:Value}(h:aJ w g v d rd){i:Nat}{s:Pl.jl}(hs:d.aV[i]?=some s):
 ∃b aB,v= .slice (some ⟨b,0,none⟩) d.aV.length aB/\b≠g/\w.cell? ⟨b,i*5,none⟩=some (.string (ar s.now))/\w.cell? ⟨b,i*5+1,none⟩=some (.string (ar s.safe))/\w.cell? ⟨b,i*5+2,none⟩=some (.bool s.broken)/\
  w.cell? ⟨b,i*5+3,none⟩=some (.bool s.was)/\w.cell? ⟨b,i*5+4,none⟩=some (.bool s.fresh)/\(∀j,w.frozen? ⟨b,j,none⟩=false):=by
 have hi:i<d.aV.length:=zw;obtain⟨b,aB,e0,_,_⟩:=Qt h.own zo;have ho:=h.own;have hf:=h.mK;rw[e0]at ho hf;have hc:∀j,j<5->w.cell? ⟨b,i*5+j,none⟩=(eO s)[j]?:=λj hj=>(ho.cellAt (i*5+j) zo).trans (zX _ _ _ _ hs hj);refine⟨b,aB,e0,λe=>hf (by rw[e];rfl),hc 0 zo,hc 1 zo,hc 2 zo,hc 3 zo,hc 4 zo,λj=>ho.frozenAt j⟩
theorem aJ.Ng{w:World}{v:Value}(h:aJ w g v d rd)(ho:ag (·=g) w w')(aW cO wr sy:Int)(hl: -1<=aW/\aW<=9223372036854775807)(hb:ay w' g 108 [v,.int .i64 aW,.int .i64 cO,.int .i64 wr,.int .i64 sy]):
 aJ w' g v ⟨d.aV,aW⟩ cO:=
 ⟨h.pU,h.sized,hl,h.mK,ho.own h.own (λk hk e=>h.mK zw),wr,sy,hb⟩
theorem Ti{aq b n aB i:Nat}{e:TypeId}:∀(qn:List (Nat×Value)) {w:World} {xs:List Value},w.ownsRow aq e 5 (.slice (some ⟨b,0,none⟩) n aB) n xs->
 (qn.foldl (λW p=>W.setCell ⟨b,i*5+p.1,none⟩ p.2) w).ownsRow aq e 5 (.slice (some ⟨b,0,none⟩) n aB) n (qn.foldl (λxs p=>xs.set (i*5+p.1) p.2) xs)
 | [],_,_,h=>h
 |p::r,_,_,h=>Ti r (h.stored (i*5+p.1) p.2).1
theorem Mu{b i:Nat}{F:Nat->Prop}(hF:F b):∀(qn:List (Nat×Value)) {a w:World},ag F a w->ag F a (qn.foldl (λW p=>W.setCell ⟨b,i*5+p.1,none⟩ p.2) w)
 | [],_,_,h=>h
 |p::r,_,_,h=>Mu hF r (h.setCell zw p.2)
theorem aJ.qn{w:World}{g b aB:Nat}{d:Pl.Dk}{rd:Int}(h:aJ w g (.slice (some ⟨b,0,none⟩) d.aV.length aB) d rd){i:Nat}{s:Pl.jl}(hs:d.aV[i]?=some s)(s':Pl.jl)(hz:s'.now.length=256/\s'.safe.length=256)
 (qn:List (Nat×Value)) (hlt:∀p∈qn,p.1<5) (he:qn.foldl (λxs p=>xs.set p.1 p.2) (eO s)=eO s'):
 aJ (qn.foldl (λW p=>W.setCell ⟨b,i*5+p.1,none⟩ p.2) w) g (.slice (some ⟨b,0,none⟩) d.aV.length aB) ⟨d.aV.set i s',d.aW⟩ rd/\
 ag (·=b) w (qn.foldl (λW p=>W.setCell ⟨b,i*5+p.1,none⟩ p.2) w):=by
 have ho:=Mu (b:=b) (i:=i) (F:=(·=b)) rfl qn (ag.refl _ w);have IH:g≠b:=λe=>h.mK (by rw[e];rfl);obtain⟨wr,sy,hb⟩:=h.aC;have bI:=Ti (i:=i) qn h.own;rw[Ih d.aV i s s' hs qn hlt he]at bI;refine⟨⟨by simpa using h.pU,?_,h.aW,h.mK,zw,wr,sy,ho.aC hb IH⟩,ho⟩;intro x hx;rcases List.mem_or_eq_of_mem_set hx with hx|rfl
 ·exact h.sized x hx
 omega
end Go.Proofs.YtbhpofdafhahgaaGreatDoor
