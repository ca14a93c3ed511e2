/- Part 2: PlainDisk PlainTx PlainPage PlainBTree PlainFit PlainSpan. -/
import Derived.Test.YtbhpofdafhahgaaGreatDoorMq1
set_option linter.all false
set_option maxHeartbeats 8000000
set_option maxRecDepth 100000
namespace Go.Proofs.YtbhpofdafhahgaaGreatDoor
namespace Pl
variable (first n e i:Nat) (s:List UInt8)
structure jl where
 now:List UInt8
 safe:List UInt8
 broken:Bool
 was:Bool
 fresh:Bool
structure Dk where
 aV:List jl
 aW:Int
def gO:List UInt8:=List.replicate n 0
def jl.empty:jl:=⟨gO 256,gO 256,false,false,false⟩
def pU(n:Int):Nat:=if n<0 then 0 else if 4096<n then 4096 else n.toNat
def Dk.new(n:Int):Dk:=⟨List.replicate (pU n) jl.empty,-1⟩
def Dk.alive(d:Dk):Bool:=decide (d.aW<0\/1<d.aW)
def Dk.tick(d:Dk):Dk:={d with aW:=if 0<d.aW then d.aW-1 else d.aW}
def jl.put(s:jl)(t:List UInt8):jl:=⟨t++gO (256-t.length),s.safe,false,s.was,true⟩
def jl.flush(s:jl):jl:=if s.fresh then⟨s.now,s.now,s.broken,false,false⟩else s
inductive Ch where
 |wr (i:Nat) (t:List UInt8)
 |sy
def Ch.on(c:Ch)(l:List jl):List jl:=
 match c with
 | .wr i t=>l.modify i (·.put t)
 | .sy=>l.map jl.flush
def Dk.change(d:Dk)(c:Ch):Dk:=if d.alive then{d.tick with aV:=c.on d.aV}else d.tick
def Dk.run(d:Dk):List Ch->Dk×Bool
 | []=>(d,true)
 |c::r=>if d.alive then(d.change c).run r else(d.change c,false)
theorem Dk.qb(d:Dk):d.run []=(d,true):=rfl
theorem Dk.iW(d:Dk)(c:Ch)(r:List Ch):d.run (c::r)=if d.alive then(d.change c).run r else(d.change c,false):=by rw[Dk.run]
theorem Dk.AQ(d:Dk)(a b:List Ch):d.run (a++b)=if(d.run a).2 then(d.run a).1.run b else((d.run a).1,false):=by
 induction a generalizing d with
 |nil=>rfl
 |cons c r ih=>
  rw[eu,Dk.iW,Dk.iW]
  grind
def Dk.look(d:Dk)(i:Nat):Option (List UInt8):=
 match d.aV[i]? with
 |some s=>if s.broken then none else some s.now
 |none=>none
def gZ:List UInt8:=72::be 8 e
def dh(more:Bool)(c:List UInt8):List UInt8:=76::(be 8 e++be 4 i++ [if more then 1 else 0]++be 2 c.length++c)
def pieces(p:List UInt8):List (Bool×List UInt8):=
 if h:p.length<=240 then[(false,p)]else(true,p.take 240)::pieces (p.drop 240)
termination_by p.length
decreasing_by grind
def chunks:Nat:=(n+239)/240
structure Lg where
 first:Nat
 data:Nat
 eE:Nat
 next:Nat
 all:List (List UInt8)
 bad:Bool
def Lg.dm(l:Lg)(i:Nat):Nat:=l.first+2+i
def Lg.laid(l:Lg):Nat->List (Bool×List UInt8)->List Ch
 |_,[]=> []
 |i,(m,c)::r=> .wr (l.dm i) (dh l.eE i m c)::l.laid (i+1) r
def Lg.append(l:Lg)(d:Dk)(p:List UInt8):Lg×Dk×Nat:=
 if p.length<1\/2000<p.length then(l,d,4)
 else if l.data<l.next+chunks p.length then(l,d,5)
 else if l.bad then(l,d,3)
 else match d.run (l.laid l.next (pieces p))with
  |(d',true)=>({l with next:=l.next+chunks p.length,all:=l.all++ [p]},d',0)
  |(d',false)=>({l with bad:=true},d',3)
def Lg.sync(l:Lg)(d:Dk):Lg×Dk×Nat:=
 if l.bad then(l,d,3)
 else match d.run [.sy]with
  |(d',true)=>(l,d',0)
  |(d',false)=>({l with bad:=true},d',3)
def mP:List Ch:=(List.range n).map (λi=> .wr (first+i) [])++ [.sy,.wr (first+1) (gZ 1),.sy]
def jF(d:Dk)(first n:Nat):Dk×Nat:=
 match d.run (mP first n)with
 |(d',true)=>(d',0)
 |(d',false)=>(d',3)
def gw(s:Option (List UInt8)):Nat:=
 match s with
 |some (72::r)=>num (r.take 8)
 |_=>0
def jQ:Bool:=s.headD 0==76&&num ((s.drop 1).take 8)==e
def sizeOf:Nat:=num ((s.drop 14).take 2)
def scan(e:Nat):List (Option (List UInt8))->Nat->List UInt8->List (List UInt8)->Nat->List (List UInt8)×Nat
 | [],_,_,all,next=>(all,next)
 |none::_,_,_,all,next=>(all,next)
 |some s::r,i,b,all,next=>
  if jQ e s=true/\num ((s.drop 9).take 4)=i/\sizeOf s<=240/\b.length+sizeOf s<=2000 then
   if(s.drop 13).headD 0=0 then scan e r (i+1) [] (all++ [b++(s.drop 16).take (sizeOf s)]) (i+1)
   else scan e r (i+1) (b++(s.drop 16).take (sizeOf s)) all next
  else(all,next)
def tT(d:Dk)(e first next data:Nat):List Ch:=
 ((List.range data).filter (λi=>next<=i/\(d.look (first+2+i)).any (jQ e))).map (λi=> .wr (first+2+i) [])
def oY(l:List Ch):List Ch:=if l.isEmpty then[]else l++ [.sy]
def iz(d:Dk)(first n:Nat):Dk×(Nat⊕Lg):=
 if d.aW=0 then(d,.inl 3)
 else
  let e:=max (gw (d.look first)) (gw (d.look (first+1)))
  if e=0 then(d,.inl 2)
  else
   let r:=scan e ((List.range (n-2)).map (λi=>d.look (first+2+i))) 0 [] [] 0
   match d.run (oY (tT d e first r.2 (n-2)))with
   |(d',true)=>(d',.inr ⟨first,n-2,e,r.2,r.1,false⟩)
   |(d',false)=>(d',.inl 3)
def texts(e:Nat):Nat->List (Bool×List UInt8)->List (Option (List UInt8))
 |_,[]=> []
 |i,(m,c)::r=>some (dh e i m c++gO (256-(dh e i m c).length))::texts e (i+1) r
theorem Ou(l:List (Bool×List UInt8)):∀i,(texts e i l).length=l.length:=by
 induction l with
 |nil=>intro i;rfl
 |cons a r ih=>intro i;obtain⟨m,c⟩:=a;simp[texts,ih]
theorem Po(a b:List (Bool×List UInt8)):∀i,texts e i (a++b)=texts e i a++texts e (i+a.length) b:=by
 induction a with
 |nil=>intro i;simp[texts]
 |cons x r ih=>intro i;obtain⟨m,c⟩:=x;simp[texts,ih];grind
theorem kq(k v:Nat)(h:v<256^k):num (be k v)=v:=by
 induction k generalizing v with
 |zero=>simp at h;subst h;rfl
 |succ k ih=>rw[XA,wU,ih (v/256) zo];simp;omega
theorem xS(m:Bool)(c z:List UInt8)(he:e<256^8)(hi:i<256^4)(hc:c.length<=240):
 jQ e (dh e i m c++z)=true/\num (((dh e i m c++z).drop 9).take 4)=i/\sizeOf (dh e i m c++z)=c.length/\
 ((dh e i m c++z).drop 13).headD 0=(if m then 1 else 0)/\((dh e i m c++z).drop 16).take c.length=c:=by
 have h8:(be 8 e).length=8:=aG 8 e;have h4:(be 4 i).length=4:=aG 4 i;have h2:(be 2 c.length).length=2:=aG 2 _;have e1:(dh e i m c++z).drop 1=be 8 e++(be 4 i++([if m then 1 else 0]++(be 2 c.length++(c++z)))):=by simp[dh]
 have e9:(dh e i m c++z).drop 9=be 4 i++([if m then 1 else 0]++(be 2 c.length++(c++z))):=by rw[show(9:Nat)=1+8 from rfl,<-kL,e1,ke h8]
 have e13:(dh e i m c++z).drop 13=[if m then 1 else 0]++(be 2 c.length++(c++z)):=by rw[show(13:Nat)=9+4 from rfl,<-kL,e9,ke h4]
 have e14:(dh e i m c++z).drop 14=be 2 c.length++(c++z):=by rw[show(14:Nat)=13+1 from rfl,<-kL,e13];rfl
 have e16:(dh e i m c++z).drop 16=c++z:=by rw[show(16:Nat)=14+2 from rfl,<-kL,e14,ke h2]
 refine⟨?_,?_,?_,?_,?_⟩
 ·unfold jQ;rw[e1,ik h8,kq 8 e he];simp[dh]
 ·rw[e9,ik h4,kq 4 i hi]
 ·unfold sizeOf;rw[e14,ik h2,kq 2 _ zo]
 ·grind
 grind
theorem Q5(he:e<256^8)(rest:List (Option (List UInt8)))(n:Nat):∀(p b:List UInt8) (i:Nat) (all:List (List UInt8)) (nx:Nat),p.length<=n->i+(pieces p).length<256^4->b.length+p.length<=2000->
 scan e (texts e i (pieces p)++rest) i b all nx=scan e rest (i+(pieces p).length) [] (all++ [b++p]) (i+(pieces p).length):=by
 induction n with
 |zero=>
  intro p b i all nx hp hi hb;obtain rfl:p=[]:=zw;rw[pieces,dif_pos zu]at hi|-
  obtain⟨h1,h2,h3,h4,h5⟩:=xS e i false [] (gO (256-(dh e i false []).length)) he zo zu;simp only[texts,eu,aX,scan];rw[h3,ah zw,ah zw,h5];rfl
 |succ n ih=>
  intro p b i all nx hp hi hb;by_cases hs:p.length<=240
  ·rw[pieces,dif_pos hs]at hi|-
   obtain⟨h1,h2,h3,h4,h5⟩:=xS e i false p (gO (256-(dh e i false p).length)) he zo hs;simp only[texts,eu,aX,scan];rw[h3,ah zw,ah zw,h5];rfl
  ·rw[pieces,dif_neg hs]at hi|-
   have hl:(p.take 240).length=240:=zw;obtain⟨h1,h2,h3,h4,h5⟩:=xS e i true (p.take 240) (gO (256-(dh e i true (p.take 240)).length)) he zo zo;simp only[bE]at hi;simp only[texts,eu,scan];rw[h3,ah zw,aj zw,h5,ih (p.drop 240) _ (i+1) all nx zw zo zw];rw[cJ,di,bE,show i+1+(pieces (p.drop 240)).length=i+((pieces (p.drop 240)).length+1) by omega]
theorem KV:∀p:List UInt8,p.length<=n->1<=p.length->(pieces p).length=chunks p.length:=by
 induction n with
 |zero=>simp
 |succ n ih=>
  intro p h1 h2;rw[pieces];by_cases hs:p.length<=240
  ·rw[dif_pos hs];unfold chunks;grind
  ·rw[dif_neg hs,bE,ih (p.drop 240) zw zw];unfold chunks
   grind
def flat(all:List (List UInt8)):List (Bool×List UInt8):=all.flatMap pieces
theorem acP(he:e<256^8)(rest:List (Option (List UInt8))):∀(all:List (List UInt8)) (i:Nat) (pre:List (List UInt8)),i+(flat all).length<256^4->(∀p∈all,p.length<=2000)->
 scan e (texts e i (flat all)++rest) i [] pre i=scan e rest (i+(flat all).length) [] (pre++all) (i+(flat all).length):=by
 intro all
 induction all with
 |nil=>intro i pre _ _;simp[flat,texts]
 |cons p r ih=>
  intro i pre hi hp;have hf:flat (p::r)=pieces p++flat r:=rfl;rw[hf,ax]at hi|-
  rw[Po,cJ,Q5 e he _ p.length p [] i pre i zo zo zw,aX,ih (i+(pieces p).length) (pre++ [p]) zo zS]
  grind
theorem aak(l:List (Option (List UInt8)))(i:Nat)(b:List UInt8)(all:List (List UInt8))(nx:Nat)(h:∀s,l[0]?=some (some s)->jQ e s=false):scan e l i b all nx=(all,nx):=by
 match l with
 | []=>rfl
 |none::_=>rfl
 |some s::r=>have:=h s rfl;simp[scan,this]
end Pl
namespace Pl
variable {n:Nat} {a r:List UInt8}
variable (c:UInt8) (s l:List UInt8)
structure Vl where
 ty:Nat
 n:Nat
 s:List UInt8
structure Cl where
 name:List UInt8
 ty:Nat
structure jb where
 kind:Nat
 table:List UInt8
 aZ:List Cl
 row:List Vl
structure fh where
 time:Nat
 ops:List jb
def short:List UInt8:=UInt8.ofNat s.length::s
def nI(v:Vl):List UInt8:=UInt8.ofNat v.ty::(if v.ty=1 then be 8 v.n else short v.s)
def rO(c:Cl):List UInt8:=short c.name++ [UInt8.ofNat c.ty]
def l6(row:List Vl):List UInt8:=UInt8.ofNat row.length::row.flatMap nI
def ku(aZ:List Cl):List UInt8:=UInt8.ofNat aZ.length::aZ.flatMap rO
def fp(o:jb):List UInt8:=
 UInt8.ofNat o.kind::(short o.table++(if o.kind=1 then ku o.aZ else if o.kind=4 then o.row.flatMap nI else l6 o.row))
def ky(t:fh):List UInt8:=be 8 t.time++(UInt8.ofNat t.ops.length::t.ops.flatMap fp)
def se:Nat:=4294967295-nM l
def bj(t:fh):List UInt8:=ky t++be 4 (se (ky t))
def iy:Prop:=(1<=s.length/\s.length<=8)/\∀c∈s,97<=c.toNat/\c.toNat<=122
instance (s:List UInt8):Decidable (iy s):=by unfold iy;infer_instance
def Gq(v:Vl):Prop:=(v.ty=1/\v.s=[]/\v.n<256^8)\/(v.ty=2/\v.n=0/\v.s.length<=16)
def Gv(c:Cl):Prop:=iy c.name/\(c.ty=1\/c.ty=2)
def jx(cs:List Cl):Prop:=(1<=cs.length/\cs.length<=4)/\(∀c∈cs,Gv c)/\(cs.map Cl.name).Nodup
instance (c:Cl):Decidable (Gv c):=by unfold Gv;infer_instance
instance (cs:List Cl):Decidable (jx cs):=by unfold jx;infer_instance
def Sr(row:List Vl):Prop:=(1<=row.length/\row.length<=4)/\∀v∈row,Gq v
def p8(o:jb):Prop:=iy o.table/\((o.kind=1/\jx o.aZ/\o.row=[])\/((o.kind=2\/o.kind=3)/\o.aZ=[]/\Sr o.row)\/(o.kind=4/\o.aZ=[]/\∃v,o.row=[v]/\Gq v))
def nz(t:fh):Prop:=t.time<256^8/\(1<=t.ops.length/\t.ops.length<=16)/\∀o∈t.ops,p8 o
def tk(n:Nat)(l:List UInt8):Option (List UInt8×List UInt8):=if n<=l.length then some (l.take n,l.drop n)else none
theorem pe{l:List UInt8}(h:tk n l=some (a,r)):l=a++r/\a.length=n:=by
 unfold tk at h;split at h
 ·next hn=>
  injection h with h;injection h with h1 h2;subst h1 h2;simp_all
 grind
theorem qD(h:a.length=n):tk n (a++r)=some (a,r):=by
 unfold tk
 grind
theorem Xv:num [c]=c.toNat:=by simp[num]
theorem num_ofNat(h:n<256):num [UInt8.ofNat n]=n:=by rw[Xv];simp_all
theorem xI(h:a.length=1):a=[UInt8.ofNat (num a)]:=by
 match a,h with
 | [c],_=>rw[Xv];simp
theorem uI(h:a.length=1):num a<256:=by
 have:=Cj a
 grind
def xR:Option (List UInt8×List UInt8):=(tk 1 l).bind λx=>tk (num x.1) x.2
theorem Fo{l s:List UInt8}(h:xR l=some (s,r)):l=short s++r/\s.length<256:=by unfold xR at h;rw[eR]at h;obtain⟨⟨a,l1⟩,h1,h2⟩:=h;dsimp only at h2;obtain⟨e1,e2⟩:=pe h1;obtain⟨e3,e4⟩:=pe h2;have hl:=uI e2;refine⟨?_,zo⟩;have ha1:=xI e2;rw[<-e4]at ha1;rw[e1,e3,ha1];rfl
theorem zG{s:List UInt8}(h:s.length<256):xR (short s++r)=some (s,r):=by unfold xR short;have h1:tk 1 (UInt8.ofNat s.length::s++r)=some ([UInt8.ofNat s.length],s++r):=qD (a:=[UInt8.ofNat s.length]) rfl;rw[h1];show tk (num [UInt8.ofNat s.length]) (s++r)=_;rw[num_ofNat h];exact qD rfl
def Dj:Option (Vl×List UInt8):=
 (tk 1 l).bind λx=>if num x.1=1 then(tk 8 x.2).bind λy=>some (⟨1,num y.1,[]⟩,y.2)
   else(xR x.2).bind λy=>if num x.1=2/\y.1.length<=16 then some (⟨2,0,y.1⟩,y.2)else none
theorem LB{l:List UInt8}{v:Vl}(h:Dj l=some (v,r)):Gq v/\l=nI v++r:=by
 unfold Dj at h;rw[eR]at h;obtain⟨⟨a,l1⟩,h1,h2⟩:=h;obtain⟨e1,e2⟩:=pe h1;dsimp only at h2;split at h2
 ·next ha=>
  rw[eR]at h2;obtain⟨⟨b,l2⟩,h3,h4⟩:=h2;obtain⟨e3,e4⟩:=pe h3;injection h4 with h4;injection h4 with h5 h6;subst h5 h6;have hb:=Cj b;rw[e4]at hb;refine⟨.inl ⟨rfl,rfl,hb⟩,?_⟩;have ja:=Vf b;rw[e4]at ja;have ha1:=xI e2;rw[ha]at ha1;rw[e1,e3,ha1];unfold nI
  grind
 ·next ha=>
  rw[eR]at h2;obtain⟨⟨b,l2⟩,h3,h4⟩:=h2;obtain⟨e3,e4⟩:=Fo h3;dsimp only at h4;split at h4
  ·next hc=>
   injection h4 with h4;injection h4 with h5 h6;subst h5 h6;refine⟨.inr ⟨rfl,rfl,hc.2⟩,?_⟩;have ha1:=xI e2;rw[hc.1]at ha1;rw[e1,e3,ha1];unfold nI;simp
  grind
theorem yf(r:List UInt8):tk 1 (c::r)=some ([c],r):=qD (a:=[c]) rfl
theorem FH{v:Vl}(h:Gq v):Dj (nI v++r)=some (v,r):=by
 obtain⟨ty,n,s⟩:=v;rcases h with⟨h1,h2,h3⟩|⟨h1,h2,h3⟩
 ·dsimp only at h1 h2 h3;subst h1 h2;unfold Dj nI;rw[ah rfl,eu,yf];simp only[eS,num_ofNat (show 1<256 by decide)];rw[ah trivial,qD (aG 8 n)];simp only[eS,kq 8 n h3]
 ·dsimp only at h1 h2 h3;subst h1 h2;unfold Dj nI;rw[aj (show¬(2:Nat)=1 by decide),eu,yf];simp only[eS,num_ofNat (show 2<256 by decide)];rw[aj (show¬(2:Nat)=1 by decide),zG zo];simp only[eS];rw[ah ⟨trivial,h3⟩]
def lA{α:Type}(p:List UInt8->Option (α×List UInt8)):Nat->List UInt8->Option (List α×List UInt8)
 |0,l=>some ([],l)
 |k+1,l=>(p l).bind λx=>(lA p k x.2).bind λy=>some (x.1::y.1,y.2)
theorem Bv{α:Type}{p:List UInt8->Option (α×List UInt8)}{ok:α->Prop}{enc:α->List UInt8}(hp:∀l x r,p l=some (x,r)->ok x/\l=enc x++r):
 ∀(k:Nat) (l:List UInt8) (xs:List α) (r:List UInt8),lA p k l=some (xs,r)->xs.length=k/\(∀x∈xs,ok x)/\l=xs.flatMap enc++r:=by
 intro k
 induction k with
 |zero=>
  intro l xs r h;injection h with h
  grind
 |succ k ih=>
  intro l xs r h;unfold lA at h;rw[eR]at h;obtain⟨⟨x,l1⟩,h1,h2⟩:=h;rw[eR]at h2
  grind
theorem uS{α:Type}{p:List UInt8->Option (α×List UInt8)}{ok:α->Prop}{enc:α->List UInt8}(hp:∀x r,ok x->p (enc x++r)=some (x,r))(r:List UInt8):
 ∀(xs:List α),(∀x∈xs,ok x)->lA p xs.length (xs.flatMap enc++r)=some (xs,r):=by
 intro xs
 induction xs with
 |nil=>intro _;rfl
 |cons x ys ih=>
  intro h;rw[bE,lA,dR,cJ,hp x _ zw]
  grind
def py:Option (List UInt8×List UInt8):=(xR l).bind λx=>if iy x.1 then some x else none
theorem IK{l s:List UInt8}(h:py l=some (s,r)):iy s/\l=short s++r:=by
 unfold py at h;rw[eR]at h;obtain⟨⟨a,l1⟩,h1,h2⟩:=h;dsimp only at h2;split at h2
 ·next hn=>
  injection h2 with h2;injection h2 with h3 h4;subst h3 h4;exact⟨hn,(Fo h1).1⟩
 grind
theorem CM{s:List UInt8}(h:iy s):py (short s++r)=some (s,r):=by
 unfold py;rw[zG (zA h.1.2)]
 grind
def Li:Option (Cl×List UInt8):=(py l).bind λx=>(tk 1 x.2).bind λy=>some (⟨x.1,num y.1⟩,y.2)
def QR(c:Cl):Prop:=iy c.name/\c.ty<256
theorem ZZ{l:List UInt8}{c:Cl}(h:Li l=some (c,r)):QR c/\l=rO c++r:=by unfold Li at h;rw[eR]at h;obtain⟨⟨a,l1⟩,h1,h2⟩:=h;rw[eR]at h2;obtain⟨⟨b,l2⟩,h3,h4⟩:=h2;dsimp only at h3 h4;injection h4 with h4;injection h4 with h5 h6;subst h5 h6;obtain⟨o1,e1⟩:=IK h1;obtain⟨e3,e4⟩:=pe h3;refine⟨⟨o1,uI e4⟩,?_⟩;unfold rO;rw[e1,e3];dsimp only;rw[<-xI e4];simp
theorem QE{c:Cl}(h:QR c):Li (rO c++r)=some (c,r):=by obtain⟨nm,ty⟩:=c;unfold Li rO;rw[cJ,CM h.1];simp only[eS];rw[show tk 1 ([UInt8.ofNat ty]++r)=some ([UInt8.ofNat ty],r)from qD rfl];simp only[eS,num_ofNat h.2]
def DV:Option (List Vl×List UInt8):=(tk 1 l).bind λx=>if 1<=num x.1/\num x.1<=4 then lA Dj (num x.1) x.2 else none
theorem aaB{l:List UInt8}{row:List Vl}(h:DV l=some (row,r)):Sr row/\l=l6 row++r:=by
 unfold DV at h;rw[eR]at h;obtain⟨⟨a,l1⟩,h1,h2⟩:=h;obtain⟨e1,e2⟩:=pe h1;dsimp only at h2;split at h2
 ·next hn=>
  obtain⟨e3,o3,e4⟩:=Bv (ok:=Gq) (enc:=nI) (λ_ _ _ h=>LB h) _ _ _ _ h2;refine⟨⟨zo,o3⟩,?_⟩;unfold l6;rw[e1,e4,e3,xI e2];simp[num_ofNat (uI e2)]
 grind
theorem QP{row:List Vl}(h:Sr row):DV (l6 row++r)=some (row,r):=by obtain⟨⟨h1,h2⟩,h3⟩:=h;unfold DV l6;rw[eu,yf];simp only[eS,num_ofNat (show row.length<256 by omega)];rw[ah ⟨h1,h2⟩];exact uS (ok:=Gq) (enc:=nI) (λ_ _ h=>FH h) r row h3
def ue:Option (List Cl×List UInt8):=(tk 1 l).bind λx=>(lA Li (num x.1) x.2).bind λy=>if jx y.1 then some y else none
theorem Xn{l:List UInt8}{cs:List Cl}(h:ue l=some (cs,r)):jx cs/\l=ku cs++r:=by
 unfold ue at h;rw[eR]at h;obtain⟨⟨a,l1⟩,h1,h2⟩:=h;obtain⟨e1,e2⟩:=pe h1;rw[eR]at h2;obtain⟨⟨ys,l2⟩,h3,h4⟩:=h2;dsimp only at h3 h4;split at h4
 ·next hn=>
  injection h4 with h4;injection h4 with h5 h6;subst h5 h6;obtain⟨e3,o3,e4⟩:=Bv (ok:=QR) (enc:=rO) (λ_ _ _ h=>ZZ h) _ _ _ _ h3;refine⟨hn,?_⟩;unfold ku;rw[e1,e4,e3,xI e2];simp[num_ofNat (uI e2)]
 grind
theorem Gv.lax{c:Cl}(h:Gv c):QR c:=⟨h.1,by rcases h.2 with h|h<;>omega⟩
theorem OE{cs:List Cl}(h:jx cs):ue (ku cs++r)=some (cs,r):=by
 have hh:=h;obtain⟨⟨h1,h2⟩,h3,h4⟩:=h;unfold ue ku;rw[eu,yf];simp only[eS,num_ofNat (show cs.length<256 by omega)];rw[uS (ok:=QR) (enc:=rO) (λ_ _ h=>QE h) r cs (λc hc=>(h3 c hc).lax)]
 grind
def SB:Option (jb×List UInt8):=
 (tk 1 l).bind λx=>(py x.2).bind λy=>
   if num x.1=1 then(ue y.2).bind λz=>some (⟨1,y.1,z.1,[]⟩,z.2)
   else if num x.1=2\/num x.1=3 then(DV y.2).bind λz=>some (⟨num x.1,y.1,[],z.1⟩,z.2)
   else if num x.1=4 then(Dj y.2).bind λz=>some (⟨4,y.1,[],[z.1]⟩,z.2)
   else none
theorem aea{l:List UInt8}{o:jb}(h:SB l=some (o,r)):p8 o/\l=fp o++r:=by
 unfold SB at h;rw[eR]at h;obtain⟨⟨a,l1⟩,h1,h2⟩:=h;rw[eR]at h2;obtain⟨⟨nm,l2⟩,h3,h4⟩:=h2;dsimp only at h3 h4;obtain⟨e1,e2⟩:=pe h1;obtain⟨o3,e3⟩:=IK h3;have ha:=xI e2;split at h4
 ·next hk=>
  rw[eR]at h4;obtain⟨⟨cs,l3⟩,h5,h6⟩:=h4;dsimp only at h6;injection h6 with h6;injection h6 with h7 h8;subst h7 h8;obtain⟨o5,e5⟩:=Xn h5;refine⟨⟨o3,.inl ⟨rfl,o5,rfl⟩⟩,?_⟩;rw[hk]at ha;rw[e1,e3,e5,ha];unfold fp;rw[ah (show(1:Nat)=1 from rfl)];simp
 ·next rP=>
  split at h4
  ·next hk=>
   rw[eR]at h4;obtain⟨⟨row,l3⟩,h5,h6⟩:=h4;dsimp only at h6;injection h6 with h6;injection h6 with h7 h8;subst h7 h8;obtain⟨o5,e5⟩:=aaB h5;refine⟨⟨o3,.inr (.inl ⟨hk,rfl,o5⟩)⟩,?_⟩;rw[e1,e3,e5,ha];unfold fp;dsimp only
   grind
  ·next pK=>
   split at h4
   ·next hk=>
    rw[eR]at h4;obtain⟨⟨v,l3⟩,h5,h6⟩:=h4;dsimp only at h6;injection h6 with h6;injection h6 with h7 h8;subst h7 h8;obtain⟨o5,e5⟩:=LB h5;refine⟨⟨o3,.inr zw⟩,?_⟩;rw[hk]at ha;rw[e1,e3,e5,ha];unfold fp;rw[aj (show¬(4:Nat)=1 by decide),ah (show(4:Nat)=4 from rfl)];simp
   grind
theorem Ck{o:jb}(h:p8 o):SB (fp o++r)=some (o,r):=by
 obtain⟨kind,table,aZ,row⟩:=o;obtain⟨h0,h⟩:=h;unfold SB fp;dsimp only at h0 h|-
 rw[eu,yf];simp only[eS,cJ];rw[CM h0];simp only[eS];rcases h with⟨rfl,h1,rfl⟩|⟨hk,rfl,h1⟩|⟨rfl,rfl,v,rfl,h1⟩
 ·rw[num_ofNat zj,ah rfl,ah rfl,OE h1];rfl
 ·have hk4:kind<256:=zo;rw[num_ofNat hk4,aj zo,ah hk,aj zo,aj zo,QP h1];rfl
 ·rw[num_ofNat zj,aj zj,aj zj,ah rfl,aj zj,ah rfl,dR,uN,dH,FH h1];rfl
def Fw:Option fh:=
 (tk 8 l).bind λx=>(tk 1 x.2).bind λy=>if 1<=num y.1/\num y.1<=16 then(lA SB (num y.1) y.2).bind λz=>if z.2=[]then some ⟨num x.1,z.1⟩else none else none
theorem VG{l:List UInt8}{t:fh}(h:Fw l=some t):nz t/\l=ky t:=by
 unfold Fw at h;rw[eR]at h;obtain⟨⟨a,l1⟩,h1,h2⟩:=h;rw[eR]at h2;obtain⟨⟨b,l2⟩,h3,h4⟩:=h2;dsimp only at h3 h4;obtain⟨e1,e2⟩:=pe h1;obtain⟨e3,e4⟩:=pe h3;split at h4
 ·next hn=>
  rw[eR]at h4;obtain⟨⟨os,l3⟩,h5,h6⟩:=h4;dsimp only at h6;split at h6
  ·next hr=>
   injection h6 with h6;subst h6 hr;obtain⟨e5,o5,e6⟩:=Bv (ok:=p8) (enc:=fp) (λ_ _ _ h=>aea h) _ _ _ _ h5;have ha:=Cj a;rw[e2]at ha;refine⟨⟨ha,by dsimp only;omega,o5⟩,?_⟩;unfold ky;dsimp only;have hb:=Vf a;rw[e2]at hb;have dM:=xI e4
   grind
  grind
 grind
theorem Zt{t:fh}(h:nz t):Fw (ky t)=some t:=by obtain⟨time,ops⟩:=t;obtain⟨h1,⟨h2,h3⟩,h4⟩:=h;dsimp only at h1 h2 h3 h4;unfold Fw ky;dsimp only;rw[qD (aG 8 time)];simp only[eS];rw[yf];simp only[eS,num_ofNat (show ops.length<256 by omega)];rw[ah ⟨h2,h3⟩];have:=uS (p:=SB) (ok:=p8) (enc:=fp) (λ_ _ h=>Ck h) [] ops h4;rw[dH]at this;rw[this];simp only[eS];rw[ah trivial,kq 8 time h1]
def fq:Option fh:=
 if 4<=s.length/\s.drop (s.length-4)=be 4 (se (s.take (s.length-4)))then Fw (s.take (s.length-4))else none
theorem qK(t:fh):fq s=some t↔nz t/\bj t=s:=by
 unfold fq;constructor
 ·intro h;split at h
  ·next hc=>
   obtain⟨h1,h2⟩:=VG h;refine⟨h1,?_⟩;unfold bj;rw[<-h2,<-hc.2,di]
  grind
 ·rintro⟨h1,rfl⟩;have hl:(bj t).length-4=(ky t).length:=by unfold bj;rw[ax,aG];omega
  have ht:(bj t).take ((bj t).length-4)=ky t:=by rw[hl];unfold bj;simp
  have hd:(bj t).drop ((bj t).length-4)=be 4 (se (ky t)):=by rw[hl];unfold bj;simp
  rw[ah ⟨by unfold bj;rw[ax,aG];omega,zw⟩,ht];exact Zt h1
end Pl
namespace Pl
variable (ks:List (List UInt8)) (c:Nat)
structure Pr where
 key:List UInt8
 val:List UInt8
def tL(p:Pr):Nat:=2+p.key.length+p.val.length
def j5(ps:List Pr):Nat:=3+(ps.map tL).sum
def lv(all:Nat):List Pr->List Pr->Nat->List (List Pr)×List (List UInt8)
 | [],now,_=>([now],[])
 |p::r,now,size=>
  if(256<size+tL p\/(256<all/\all/2<=size))/\now≠ []then(now::(lv all r [p] (3+tL p)).1,p.key::(lv all r [p] (3+tL p)).2)
  else lv all r (now++ [p]) (size+tL p)
def iO(ps:List Pr):List (List Pr)×List (List UInt8):=lv (j5 ps) ps [] 3
theorem OU(all:Nat):∀(ps now:List Pr) (size:Nat),(lv all ps now size).1.flatten=now++ps
 | [],now,_=>by simp[lv]
 |p::r,now,size=>by
  unfold lv;split
  ·rw[List.flatten_cons,OU all r];simp
  ·rw[OU all r];simp
theorem zh(ps:List Pr):(iO ps).1.flatten=ps:=by unfold iO;rw[OU];rfl
theorem CY(ps:List Pr)(p:Pr):j5 (ps++ [p])=j5 ps+tL p:=by simp[j5];omega
theorem Hr(all:Nat):∀(ps now:List Pr) (size:Nat),size=j5 now->j5 now<=256->(∀p∈ps,tL p<=253)->∀pg∈(lv all ps now size).1,j5 pg<=256
 | [],now,_,_,h2,_,pg,h=>by simp[lv]at h;grind
 |p::r,now,size,h1,h2,h3,pg,h=>by
  have hp:=h3 p zu;unfold lv at h;split at h
  ·rcases cV.1 h with rfl|h
   ·exact h2
   ·exact Hr all r [p] _ (by simp[j5]) (by simp[j5];omega) zS pg h
  ·next hc=>
   refine Hr all r (now++ [p]) _ (by rw[CY,h1]) ?_ (λq hq=>h3 q (by simp[hq])) pg h;rw[CY];by_cases hn:now=[]
   ·subst hn;simp[j5];omega
   grind
theorem Hp{ps:List Pr}(h:∀p∈ps,tL p<=253):∀pg∈(iO ps).1,j5 pg<=256:=Hr _ ps [] 3 rfl (by simp[j5]) h
theorem Na(all:Nat):∀(ps now:List Pr) (size:Nat),(now≠ []\/ps≠ [])->∀pg∈(lv all ps now size).1,pg≠ []
 | [],now,_,h,pg,hp=>by
   simp[lv]at hp
   grind
 |p::r,now,size,h,pg,hp=>by
  unfold lv at hp;split at hp
  ·next hc=>
   rcases cV.1 hp with rfl|hp
   ·grind
   ·exact Na all r [p] _ zu pg hp
  ·exact Na all r (now++ [p]) _ zu pg hp
theorem Kr{ps:List Pr}(h:ps≠ []):∀pg∈(iO ps).1,pg≠ []:=Na _ ps [] 3 (.inr h)
theorem NQ(all:Nat):∀(ps now:List Pr) (size:Nat),(lv all ps now size).1.length=(lv all ps now size).2.length+1
 | [],now,_=>by simp[lv]
 |p::r,now,size=>by
  unfold lv;split
  ·simp[NQ all r]
  ·exact NQ all r _ _
theorem Jp(all:Nat):∀(ps now:List Pr) (size k:Nat) (key:List UInt8),(lv all ps now size).2[k]?=some key->∃p r,(lv all ps now size).1[k+1]?=some (p::r)/\p.key=key
 | [],now,_,k,key,h=>by simp[lv]at h
 |p::r,now,size,k,key,h=>by
  unfold lv at h|-
  split at h
  ·next hc=>
   rw[ah hc];cases k with
   |zero=>
    have hk:p.key=key:=zw;obtain⟨q,e⟩:∃q,(lv all r [p] (3+tL p)).1[0]?=some (p::q):=Yf all r [p] _ p [] rfl
    grind
   |succ k=>
    obtain⟨q,t,e1,e2⟩:=Jp all r [p] _ k key (by simpa using h)
    grind
  ·next hc=>
   rw[aj hc];exact Jp all r (now++ [p]) _ k key h
where
 Yf (all:Nat):∀(ps now:List Pr) (size:Nat) (p:Pr) (t:List Pr),now=p::t->∃q,(lv all ps now size).1[0]?=some (p::q)
  | [],now,_,p,t,h=>by subst h;exact⟨t,by simp[lv]⟩
  |x::r,now,size,p,t,h=>by
   unfold lv;split
   ·grind
   ·exact Yf all r (now++ [x]) _ p (t++ [x]) zw
def lD:Nat:=6+(ks.map λk=>5+k.length).sum
def cut(all:Nat):List (List UInt8)->Nat->Nat->Nat->Nat
 | [],_,_,dm=>dm
 |k::r,i,half,dm=>if all/2<=half+(5+k.length)then(if 0<i then i else dm)else cut all r (i+1) (half+(5+k.length)) (if 0<i then i else dm)
def cutAt:Nat:=cut (lD ks) ks.dropLast 0 0 1
def ml{α:Type}(cs:List α):List (List (List UInt8)×List α)×List (List UInt8):=
 if lD ks<=256 then([(ks,cs)],[])else([(ks.take (cutAt ks),cs.take (cutAt ks+1)),(ks.drop (cutAt ks+1),cs.drop (cutAt ks+1))],(ks.drop (cutAt ks)).take 1)
def kT:Nat:=((ks.take c).map λk=>5+k.length).sum
theorem uj:kT ks 0=0:=by simp[kT]
theorem yp(k:List UInt8)(r:List (List UInt8))(c:Nat):kT (k::r) (c+1)=5+k.length+kT r c:=by simp[kT]
theorem ado:lD ks=6+kT ks ks.length:=by simp[lD,kT]
theorem Uy:kT ks ks.length=kT ks c+((ks.drop c).map λk=>5+k.length).sum:=by
 unfold kT;rw[gN]
 conv=>lhs;rw[<-di c ks]
 grind
theorem QL(all:Nat):∀(ks:List (List UInt8)) (i half dm:Nat),half<all/2->(∃j,j<ks.length/\all/2<=half+kT ks (j+1))->(0<i\/half+kT ks 1<all/2)->
 ∃j,j<ks.length/\cut all ks i half dm=i+j/\half+kT ks j<all/2/\all/2<=half+kT ks (j+1)
 | [],_,_,_,_,⟨j,hj,_⟩,_=>by grind
 |k::r,i,half,dm,h1,⟨j,hj,h2⟩,h3=>by
  have e1:kT (k::r) 1=5+k.length:=by rw[yp,uj,cI]
  unfold cut;split
  ·next h=>
   have hi:0<i:=zo;exact⟨0,zu,zw,by rw[uj];exact h1,zw⟩
  ·next h=>
   obtain⟨j',g1,g2,g3,g4⟩:=QL all r (i+1) (half+(5+k.length)) (if 0<i then i else dm) zo (by
    cases j with
    |zero=>grind
    |succ j=>exact⟨j,zw,by rw[yp]at h2;omega⟩) zo
   exact⟨j'+1,zw,zo,by rw[yp];omega,by rw[yp];omega⟩
theorem AD{ks:List (List UInt8)}(hk:∀k∈ks,k.length<=40)(h:256<lD ks)(h2:lD ks<=420):
 1<=cutAt ks/\cutAt ks+1<ks.length/\lD (ks.take (cutAt ks))<=256/\lD (ks.drop (cutAt ks+1))<=256:=by
 have hc:∀c,kT ks (c+1)<=kT ks c+45:=by
  intro c;unfold kT;rw[eK,gH,List.sum_append]
  grind
 have fj:=ado ks;have b1:kT ks 1<=45:=by have:=hc 0;rw[uj]at this;omega
 have b2:kT ks 2<=90:=zw;have bU:3<=ks.length:=by
  rcases eJ ks.length 3 with h9|h9
  ·have c0:=uj ks;have c1:=hc 0;have c2:=hc 1;have:kT ks ks.length<=90:=by
    match hl:ks.length,h9 with
    |0,_=>omega
    |1,_=>omega
    |2,_=>omega
   omega
  omega
 have hdl:ks.dropLast.length=ks.length-1:=List.length_dropLast;have hcd:∀c,c<=ks.length-1->kT ks.dropLast c=kT ks c:=by intro c hc;unfold kT;rw[List.dropLast_eq_take,List.take_take,dt hc]
 have Yt:kT ks ks.length<=kT ks (ks.length-1)+45:=by
  grind
 have BJ:kT ks (ks.length-1)<=kT ks (ks.length-2)+45:=by
  grind
 obtain⟨j,g1,g2,g3,g4⟩:=QL (lD ks) ks.dropLast 0 0 1 zo zw zw;have hj:cutAt ks=j:=by unfold cutAt;omega
 rw[hcd _ zo]at g3 g4;rw[hj];have hj1:1<=j:=by
  grind
 refine⟨hj1,zo,?_,?_⟩
 ·have:lD (ks.take j)=6+kT ks j:=rfl;omega
 ·have h7:=Uy ks (j+1);have:lD (ks.drop (j+1))=6+((ks.drop (j+1)).map λk=>5+k.length).sum:=rfl;omega
end Pl
namespace Pl
variable {h:Nat}
variable (ps:List Pr) (ks:List (List UInt8)) (k:List UInt8)
def Tr:Nat->Type
 |0=>List Pr
 |h+1=>List (List UInt8)×List (Tr h)
abbrev Row(h:Nat):=List (Tr h)×List (List UInt8)
def kh:(h:Nat)->Tr h->List Pr
 |0,(ps:List Pr)=>ps
 |h+1,(n:List (List UInt8)×List (Tr h))=>n.2.flatMap (kh h)
def pN(h:Nat)(r:Row h):List Pr:=r.1.flatMap (kh h)
def rI:(h:Nat)->Tr h->Nat
 |0,(ps:List Pr)=>j5 ps
 |h+1,(n:List (List UInt8)×List (Tr h))=>lD n.1
def fD(cs:List (Tr h)):Row (h+1):=ml ks cs
def mA:Row 0:=iO ps
def ft:(h:Nat)->Tr h->List UInt8->Tr h->Row h
 |0,(a:List Pr),_,(b:List Pr)=>mA (a++b)
 |_+1,a,key,b=>fD (a.1++key::b.1) (a.2++b.2)
theorem KX{α:Type}(cs:List α):(ml ks cs).1.flatMap (·.2)=cs:=by
 unfold ml;split
 ·simp
 ·simp
theorem FG:pN 0 (mA ps)=ps:=by show(iO ps).1.flatMap (λx=>x)=ps;have:=zh ps;simp_all
theorem CO(cs:List (Tr h)):pN (h+1) (fD ks cs)=cs.flatMap (kh h):=by show(ml ks cs).1.flatMap (λn=>n.2.flatMap (kh h))=_;rw[<-List.flatMap_assoc,KX]
theorem Dv:(h:Nat)->(a:Tr h)->(key:List UInt8)->(b:Tr h)->pN h (ft h a key b)=kh h a++kh h b
 |0,a,_,b=>FG _
 |h+1,a,key,b=>by show pN (h+1) (fD _ _)=_;rw[CO,iH];rfl
def lone(r:Row h):Option (Tr h):=match r.1 with
 | [pg]=>if rI h pg<85 then some pg else none
 |_=>none
def spliced(cs:List (Tr h))(i:Nat)(r:Row h):Nat×Nat×Row h:=match lone r with
 |none=>(i,i+1,r)
 |some pg=>if 0<i then
   match cs[i-1]?,ks[i-1]? with
   |some left,some key=>(i-1,i+1,ft h left key pg)
   |_,_=>(i,i+1,r)
  else match cs[i+1]?,ks[i]? with
   |some next,some key=>(i,i+2,ft h pg key next)
   |_,_=>(i,i+1,r)
def fE(cs:List (Tr h))(i:Nat)(r:Row h):Row (h+1):=
 let s:=spliced ks cs i r;let keys:=ks.take s.1++s.2.2.2++ks.drop (s.2.1-1);let kids:=cs.take s.1++s.2.2.1++cs.drop s.2.1
 if keys=[]then([(([]:List (List UInt8)),kids)],[])else fD keys kids
theorem uf{r:Row h}{pg:Tr h}(hl:lone r=some pg):r.1=[pg]:=by
 unfold lone at hl
 grind
theorem Tu(cs:List (Tr h))(i:Nat)(r:Row h)(hi:i<cs.length):
 (cs.take (spliced ks cs i r).1++(spliced ks cs i r).2.2.1++cs.drop (spliced ks cs i r).2.1).flatMap (kh h)=(cs.take i).flatMap (kh h)++pN h r++(cs.drop (i+1)).flatMap (kh h):=by
 have aq:(cs.take i++r.1++cs.drop (i+1)).flatMap (kh h)=(cs.take i).flatMap (kh h)++pN h r++(cs.drop (i+1)).flatMap (kh h):=by rw[iH,iH];rfl
 unfold spliced;split
 ·exact aq
 ·next pg hl=>
  have hr:=uf hl;split
  ·next h0=>
   split
   ·next left key h1 h2=>
    obtain⟨j,rfl⟩:∃j,i=j+1:=zS;rw[qX]at h1;have ht:cs.take (j+1)=cs.take j++ [left]:=by rw[eK,h1];rfl
    show(cs.take (j+1-1)++(ft h left key pg).1++cs.drop (j+1+1)).flatMap (kh h)=_;rw[qX,iH,iH,ht,iH];have:=Dv h left key pg;unfold pN at this|-
    grind
   ·exact aq
  ·next h0=>
   split
   ·next next key h1 h2=>
    obtain rfl:i=0:=zo;have hd:cs.drop 1=next::cs.drop 2:=by obtain⟨hlt,rfl⟩:=cR.1 h1;simp
    show(cs.take 0++(ft h pg key next).1++cs.drop 2).flatMap (kh h)=_;rw[iH,iH,show(0:Nat)+1=1 from rfl,hd,dR];have:=Dv h pg key next;unfold pN at this|-
    grind
   ·exact aq
theorem MS(cs:List (Tr h))(i:Nat)(r:Row h)(hi:i<cs.length):
 pN (h+1) (fE ks cs i r)=(cs.take i).flatMap (kh h)++pN h r++(cs.drop (i+1)).flatMap (kh h):=by
 rw[<-Tu ks cs i r hi];unfold fE;dsimp only;split
 ·show[_].flatMap (λn:List (List UInt8)×List (Tr h)=>n.2.flatMap (kh h))=_;simp
 ·exact CO _ _
def aR:Nat:=(ps.takeWhile λp=>decide (p.key<k)).length
def gY:Nat:=(ks.takeWhile λx=>!decide (k<x)).length
def dN(v:List UInt8)(ps:List Pr):List Pr:=
 ps.take (aR ps k)++⟨k,v⟩::ps.drop (match ps[aR ps k]? with|some p=>if p.key=k then aR ps k+1 else aR ps k|none=>aR ps k)
def fP:(h:Nat)->Tr h->List UInt8->List Pr
 |0,(ps:List Pr),_=>ps
 |h+1,(n:List (List UInt8)×List (Tr h)),k=>match n.2[gY n.1 k]? with
  |some t=>fP h t k
  |none=> []
def changed(f:List Pr->List Pr)(k:List UInt8):(h:Nat)->Tr h->Row h
 |0,(ps:List Pr)=>mA (f ps)
 |h+1,(n:List (List UInt8)×List (Tr h))=>match n.2[gY n.1 k]? with
  |some t=>fE n.1 n.2 (gY n.1 k) (changed f k h t)
  |none=>([],[])
theorem uU{n:List (List UInt8)×List (Tr h)}{k:List UInt8}{t:Tr h}(ht:n.2[gY n.1 k]?=some t):fP (h+1) n k=fP h t k:=by show(match n.2[gY n.1 k]? with|some t=>fP h t k|none=> [])=_;rw[ht]
theorem sG{n:List (List UInt8)×List (Tr h)}{f:List Pr->List Pr}{k:List UInt8}{t:Tr h}(ht:n.2[gY n.1 k]?=some t):changed f k (h+1) n=fE n.1 n.2 (gY n.1 k) (changed f k h t):=by show(match n.2[gY n.1 k]? with|some t=>fE n.1 n.2 (gY n.1 k) (changed f k h t)|none=>([],[]))=_;rw[ht]
theorem tQ:gY ks k<=ks.length:=by unfold gY;exact(List.takeWhile_sublist _).length_le
def Kids:(h:Nat)->Tr h->Prop
 |0,_=>True
 |h+1,(n:List (List UInt8)×List (Tr h))=>n.2.length=n.1.length+1/\∀t∈n.2,Kids h t
end Pl
namespace Pl
variable {ps:List Pr} {h:Nat} {ks:List (List UInt8)} {cs:List (Tr h)} {r:Row h}
variable (k:List UInt8)
def ey:Prop:=1<=k.length/\k.length<=40
def la(p:Pr):Prop:=ey p.key/\p.val.length<=100
def Fit:(h:Nat)->Tr h->Prop
 |0,(ps:List Pr)=>j5 ps<=256/\ps≠ []/\∀p∈ps,la p
 |h+1,(n:List (List UInt8)×List (Tr h))=>n.2.length=n.1.length+1/\n.1≠ []/\lD n.1<=256/\(∀k∈n.1,ey k)/\∀t∈n.2,Fit h t
def tj(h:Nat)(r:Row h):Prop:=r.1.length=r.2.length+1/\(∀k∈r.2,ey k)/\∀t∈r.1,Fit h t
theorem la.size{p:Pr}(h:la p):tL p<=253:=by obtain⟨⟨_,h1⟩,h2⟩:=h;unfold tL;omega
theorem FL(h:∀p∈ps,la p)(h0:ps≠ []):tj 0 (mA ps):=by
 have Nl:∀pg∈(iO ps).1,∀p∈pg,p∈ps:=λpg Mf p hp=>by rw[<-zh ps];exact List.mem_flatten.2 zw
 refine⟨NQ _ _ _ _,λk hk=>?_,λt ht=>⟨Hp (λp hp=>(h p hp).size) t ht,Kr h0 t ht,λp hp=>h p (Nl t ht p hp)⟩⟩;obtain⟨i,hi⟩:=lG.1 hk;obtain⟨p,r,h1,h2⟩:=Jp _ _ _ _ i k hi;rw[<-h2];exact(h p (Nl (p::r) (bO h1) p zu)).1
theorem Df(hl:cs.length=ks.length+1)(h0:ks≠ [])(hk:∀k∈ks,ey k)(hc:∀t∈cs,Fit h t)(hs:lD ks<=420):tj (h+1) (fD ks cs):=by
 unfold fD ml;split
 ·next h1=>
  refine⟨rfl,zu,λt ht=>?_⟩;obtain rfl:t=(ks,cs):=dU.1 ht;exact⟨hl,h0,h1,hk,hc⟩
 ·next h1=>
  obtain⟨g1,g2,g3,g4⟩:=AD (λk uk=>(hk k uk).2) zo hs;refine⟨?_,λk uk=>zw,λt ht=>?_⟩
  ·show 2=((ks.drop (cutAt ks)).take 1).length+1
   grind
  ·have Ek:t=(ks.take (cutAt ks),cs.take (cutAt ks+1))\/t=(ks.drop (cutAt ks+1),cs.drop (cutAt ks+1)):=by
    rcases cV.1 ht with e|ht
    ·grind
    ·exact .inr (dU.1 ht)
   rcases Ek with rfl|rfl
   ·refine⟨zw,λe=>?_,g3,λk uk=>zw,λt ht=>zw⟩;have e':ks.take (cutAt ks)=[]:=e;rw[List.take_eq_nil_iff]at e';rcases e' with e'|e'
    ·omega
    ·exact h0 e'
   ·refine⟨by simp;omega,λe=>?_,g4,λk uk=>hk k (qB uk),λt ht=>hc t (qB ht)⟩;have e':ks.drop (cutAt ks+1)=[]:=e;rw[nd]at e';omega
def AV:(h:Nat)->Tr h->Prop
 |0,(ps:List Pr)=>ps=[]
 |h+1,(n:List (List UInt8)×List (Tr h))=>n.1=[]/\∃t,n.2=[t]/\Fit h t
def nF(h:Nat)(r:Row h):Prop:=tj h r\/(r.2=[]/\∃t,r.1=[t]/\AV h t)
theorem gC(a b:List (List UInt8)):lD (a++b)+6=lD a+lD b:=by simp[lD];omega
theorem rp(b:List (List UInt8)):lD (k::b)=lD b+(5+k.length):=by simp[lD];omega
def DU(h:Nat)(t:Tr h):Prop:=Fit h t\/AV h t
theorem DU.inner{n:List (List UInt8)×List (Tr h)}(hn:DU (h+1) n):n.2.length=n.1.length+1/\lD n.1<=256/\(∀k∈n.1,ey k)/\∀t∈n.2,Fit h t:=by
 rcases hn with⟨h1,h2,h3,h4,h5⟩|⟨h1,t,h2,h3⟩
 ·grind
 ·refine⟨zw,by rw[h1];decide,zw,zw⟩
theorem DU.leaf(h:DU 0 ps):∀p∈ps,la p:=by
 rcases h with⟨_,_,h⟩|h
 ·exact h
 ·have h':ps=[]:=h
  grind
theorem lY:(h:Nat)->(a:Tr h)->(key:List UInt8)->(b:Tr h)->DU h a->DU h b->(Fit h a\/Fit h b)->ey key->rI h a+rI h b<=256+85->tj h (ft h a key b)
 |0,a,_,b,ha,hb,VP,_,_=>by
  refine FL (λp hp=>?_) (λe=>?_)
  ·rcases eQ.1 hp with hp|hp
   ·exact ha.leaf p hp
   ·exact hb.leaf p hp
  ·obtain⟨e1,e2⟩:=List.append_eq_nil_iff.1 e;rcases VP with VP|VP
   ·exact VP.2.1 e1
   ·exact VP.2.1 e2
 |h+1,a,key,b,ha,hb,_,hk,hs=>by
  obtain⟨a1,a2,a3,a4⟩:=ha.inner;obtain⟨b1,b2,b3,b4⟩:=hb.inner;have e1:=gC a.1 (key::b.1);rw[rp]at e1;have TU:lD a.1+lD b.1<=256+85:=hs;refine Df zw zu (λk uk=>?_) (λt ht=>?_) (zA hk.2)
  ·grind
  grind
def yQ(ps:List Pr):Nat:=(ps.map tL).sum
theorem vm(ps:List Pr):j5 ps=3+yQ ps:=rfl
theorem Il(all:Nat)(ha:256<all):∀(ps now:List Pr) (size:Nat),size=j5 now->(∀p∈ps,tL p<=142)->(lv all ps now size).2.length*112<=yQ now+yQ ps
 | [],now,_,_,_=>by simp[lv]
 |p::r,now,size,h1,h2=>by
  have hp:=h2 p zu;have hw:yQ (p::r)=tL p+yQ r:=by simp[yQ]
  unfold lv;split
  ·next hc=>
   have ih:=Il all ha r [p] (3+tL p) (by simp[j5]) zS;have NW:yQ [p]=tL p:=by simp[yQ]
   have hn:112<=yQ now:=by have:=vm now;rcases hc.1 with h|⟨_,h⟩<;>omega
   grind
  ·have ih:=Il all ha r (now++ [p]) (size+tL p) (by rw[CY,h1]) zS;have:yQ (now++ [p])=yQ now+tL p:=by simp[yQ]
   omega
theorem la.xL{p:Pr}(h:la p):tL p<=142:=by obtain⟨⟨_,h1⟩,h2⟩:=h;unfold tL;omega
theorem aco(all:Nat)(ha:all<=256):∀(ps now:List Pr) (size:Nat),size+yQ ps<=256->(lv all ps now size).2=[]
 | [],now,_,_=>by simp[lv]
 |p::r,now,size,h=>by
  have hw:yQ (p::r)=tL p+yQ r:=by simp[yQ]
  unfold lv;rw[aj (λhc=>by omega)];exact aco all ha r (now++ [p]) _ zo
theorem Dm(h:∀p∈ps,la p)(hs:j5 ps<=400):(iO ps).2.length<=3:=by
 unfold iO;have hw:=vm ps;by_cases ha:j5 ps<=256
 ·rw[aco _ ha ps [] 3 zo];simp
 ·have:=Il (j5 ps) zo ps [] 3 rfl (λp hp=>(h p hp).xL);have h0:yQ ([]:List Pr)=0:=rfl;omega
theorem DN{α:Type}(ks:List (List UInt8))(cs:List α):(ml ks cs).2.length<=1:=by
 unfold ml;split
 ·simp
 grind
theorem NN(h:∀k∈ks,ey k):lD ks<=6+45*ks.length:=by
 induction ks with
 |nil=>decide
 |cons k r ih=>have:=ih (λx hx=>h x (by simp[hx]));have hk:=(h k zu).2;rw[rp,bE];omega
theorem Cq{a b:Nat}(hn:Fit (h+1) (ks,cs))(hr:tj h r)(hc:r.2.length<=3)(VP:a+1<=b)(hb:b<=cs.length):
 nF (h+1) (if ks.take a++r.2++ks.drop (b-1)=[]then([(([]:List (List UInt8)),cs.take a++r.1++cs.drop b)],[])else fD (ks.take a++r.2++ks.drop (b-1)) (cs.take a++r.1++cs.drop b)):=by
 obtain⟨h1,h2,h3,h4,h5⟩:=hn;obtain⟨r1,r2,r3⟩:=hr;dsimp only at h1 h2 h3 h4 h5;have ape:∀t∈cs.take a++r.1++cs.drop b,Fit h t:=by
  grind
 have bU:(cs.take a++r.1++cs.drop b).length=(ks.take a++r.2++ks.drop (b-1)).length+1:=by
  grind
 split
 ·next he=>
  refine .inr ⟨rfl,_,rfl,rfl,?_⟩;rw[he]at bU;obtain⟨t,ht⟩:=qy.1 bU
  grind
 ·next he=>
  refine .inl (Df bU he (λk hk=>?_) ape ?_)
  ·grind
  ·have e1:=gC (ks.take a++r.2) (ks.drop (b-1));have e2:=gC (ks.take a) r.2;have e3:=NN r2;have e4:=gC (ks.take a) (ks.drop a);rw[di]at e4;have e5:lD (ks.drop (b-1))<=lD (ks.drop a):=by
    have e6:=gC ((ks.drop a).take (b-1-a)) ((ks.drop a).drop (b-1-a));rw[di,kL,show a+(b-1-a)=b-1 by omega]at e6;have:6<=lD ((ks.drop a).take (b-1-a)):=by unfold lD;omega
    omega
   omega
theorem lP:(h:Nat)->(a:Tr h)->(key:List UInt8)->(b:Tr h)->DU h a->DU h b->rI h a+rI h b<=256+85->(ft h a key b).2.length<=3
 |0,a,_,b,ha,hb,hs=>by
  refine Dm (λp hp=>?_) ?_
  ·rcases eQ.1 hp with hp|hp
   ·exact ha.leaf p hp
   ·exact hb.leaf p hp
  ·have e:∀x y:List Pr,j5 (x++y)+3=j5 x+j5 y:=λx y=>by simp[j5];omega
   have e':=e a b;have TU:j5 a+j5 b<=256+85:=hs;omega
 |h+1,a,key,b,_,_,_=>ao (DN _ _) zo
theorem Fit.size:(h:Nat)->(t:Tr h)->Fit h t->rI h t<=256
 |0,_,h=>h.1
 |_+1,_,h=>h.2.2.1
theorem AV.small:(h:Nat)->(t:Tr h)->AV h t->rI h t<85
 |0,ps,h=>by show j5 ps<85;have h':ps=[]:=h;rw[h'];decide
 |_+1,t,h=>by show lD t.1<85;rw[h.1];decide
def sW:(h:Nat)->Tr h->Prop
 |0,(ps:List Pr)=>j5 ps<=256/\∀p∈ps,la p
 |h+1,n=>Fit (h+1) n
theorem Fit.root:(h:Nat)->(t:Tr h)->Fit h t->sW h t
 |0,_,h=>⟨h.1,h.2.2⟩
 |_+1,_,h=>h
theorem Pe{i:Nat}(hn:Fit (h+1) (ks,cs))(hi:i<=ks.length)(hr:nF h r)(hc:r.2.length<=3):nF (h+1) (fE ks cs i r)/\(fE ks cs i r).2.length<=3:=by
 have hcs:cs.length=ks.length+1:=hn.1;have few:(fE ks cs i r).2.length<=3:=by
  unfold fE;dsimp only;split
  ·simp
  ·exact ao (DN _ _) zo
 refine⟨?_,few⟩;have Mf:∀pg,lone r=some pg->DU h pg/\rI h pg<85:=by
  intro pg hl;have h1:=uf hl;refine⟨?_,?_⟩
  ·rcases hr with hr|⟨_,t,ht,ho⟩
   ·exact .inl (hr.2.2 pg (by rw[h1];simp))
   ·rw[h1]at ht;injection ht with ht;subst ht;exact .inr ho
  ·unfold lone at hl;split at hl
   ·next x hx=>
    split at hl
    ·next hlt=>injection hl with hl;subst hl;exact hlt
    ·cases hl
   ·cases hl
 have Yl:lone r=none->tj h r:=by
  intro hl;rcases hr with hr|⟨_,t,ht,ho⟩
  ·exact hr
  ·exfalso;unfold lone at hl;rw[ht]at hl;have:=AV.small h t ho;simp only at hl;rw[ah zo]at hl;cases hl
 unfold fE spliced;cases hl:lone r with
 |none=>exact Cq hn (Yl hl) hc (ai _) (by show i+1<=cs.length;omega)
 |some pg=>
  obtain⟨hh,hs⟩:=Mf pg hl;dsimp only;by_cases h0:0<i
  ·obtain⟨left,h1⟩:∃x,cs[i-1]?=some x:=⟨_,aF zo⟩;obtain⟨key,h2⟩:∃x,ks[i-1]?=some x:=⟨_,aF zo⟩;have rJ:Fit h left:=hn.2.2.2.2 left (bO h1);have tE:ey key:=hn.2.2.2.1 key zw;have hsz:=Fit.size h left rJ;rw[ah h0,h1,h2];exact Cq hn (lY h left key pg (.inl rJ) hh zw tE zo) (lP h left key pg (.inl rJ) hh zo) (by dsimp only;omega) zw
  ·obtain rfl:i=0:=zo;have TR:0<ks.length:=ie.2 hn.2.1;obtain⟨nx,h1⟩:∃x,cs[0+1]?=some x:=zw;obtain⟨key,h2⟩:∃x,ks[0]?=some x:=zS;have rJ:Fit h nx:=hn.2.2.2.2 nx zw;have tE:ey key:=hn.2.2.2.1 key zw;have hsz:=Fit.size h nx rJ;rw[aj h0,h1,h2];exact Cq hn (lY h pg key nx hh (.inl rJ) zw tE zo) (lP h pg key nx hh (.inl rJ) zo) (by dsimp only;omega) zw
theorem pG{f:List Pr->List Pr}(k:List UInt8)(hf:∀ps:List Pr,sW 0 ps->(∀p∈f ps,la p)/\j5 (f ps)<=400):(h:Nat)->(t:Tr h)->sW h t->nF h (changed f k h t)/\(changed f k h t).2.length<=3
 |0,ps,ht=>by
  obtain⟨h1,h3⟩:=hf ps ht;refine⟨?_,Dm h1 h3⟩;by_cases h2:f ps=[]
  ·refine .inr ?_;show(iO (f ps)).2=[]/\∃t,(iO (f ps)).1=[t]/\t=[];rw[h2];exact⟨rfl,[],rfl,rfl⟩
  ·exact .inl (FL h1 h2)
 |h+1,n,ht=>by have hw:=tQ n.1 k;have hl:n.2.length=n.1.length+1:=ht.1;obtain⟨t,hk⟩:∃t,n.2[gY n.1 k]?=some t:=⟨_,aF zo⟩;obtain⟨h1,h2⟩:=pG k hf h t (Fit.root h t (ht.2.2.2.2 t zw));rw[sG hk];exact Pe ht hw h1 h2
end Pl
namespace Pl
theorem arA:Std.Irrefl (α:=UInt8) (·<·):=⟨zu⟩
theorem anN{a b c:UInt8}(h:a<b)(k:b<c):a<c:=zw
theorem asC:Std.Trichotomous (·<·:UInt8->UInt8->Prop):=⟨λa b h k=>by grind⟩
abbrev Key:=List UInt8
theorem aoN(a:Key):¬a<a:=by simp
theorem vd{a b c:Key}(h:a<b)(k:b<c):a<c:=by
 grind
theorem aqV{a b:Key}(h:¬a<b)(k:¬b<a):a=b:=by
 grind
theorem alb{a b c:Key}(h:¬b<a)(k:b<c):a<c:=by
 grind
theorem N9{a b c:Key}(h:a<b)(k:¬c<b):a<c:=by
 grind
theorem Vj{a b:Key}(h:a<b):¬b<a:=λk=>zw
theorem kne{a b:Key}(h:a<b):a≠b:=λe=>zw
theorem afX(a:Key):¬a< []:=by simp
def Hc(lo:Key)(hi:Option Key)(k:Key):Prop:=¬k<lo/\∀x,hi=some x->k<x
def xK(hi:Option Key)(k:Key):Prop:=∀x,hi=some x->k<x
def qu(ps:List Pr):Prop:=ps.Pairwise (λa b=>a.key<b.key)
def ff{α:Type}(P:Key->Option Key->α->Prop):Key->Option Key->List Key->List α->Prop
 |lo,hi,[],[t]=>P lo hi t
 |lo,hi,k::ks,t::ts=>lo<k/\xK hi k/\P lo (some k) t/\ff P k hi ks ts
 |_,_,_,_=>False
def yA:(h:Nat)->Key->Option Key->Tr h->Prop
 |0,lo,hi,(ps:List Pr)=>qu ps/\∀p∈ps,Hc lo hi p.key
 |h+1,lo,hi,(n:List Key×List (Tr h))=>ff (yA h) lo hi n.1 n.2
def Gz{h:Nat}(lo:Key)(hi:Option Key)(r:Row h):Prop:=ff (yA h) lo hi r.2 r.1
section
variable {α:Type} {P:Key->Option Key->α->Prop} {lo:Key} {hi:Option Key}
variable {ks:List Key} {i:Nat} {k:Key}
theorem ff.len:∀{ks:List Key} {cs:List α} {lo:Key},ff P lo hi ks cs->cs.length=ks.length+1
 | [],[],_,h=>h.elim
 | [],[_],_,_=>rfl
 | [],_::_::_,_,h=>h.elim
 |_::_,[],_,h=>h.elim
 |k::ks,t::ts,_,h=>by rw[bE,bE,ff.len h.2.2.2]
theorem ff.keys:∀{ks:List Key} {cs:List α} {lo:Key},ff P lo hi ks cs->ks.Pairwise (·<·)/\∀k∈ks,lo<k/\xK hi k
 | [],_,_,_=>zu
 |_::_,[],_,h=>h.elim
 |k::ks,t::ts,lo,h=>by
  obtain⟨h1,h2,_,h4⟩:=h;obtain⟨g1,g2⟩:=ff.keys h4;refine⟨zS,λx hx=>?_⟩;rcases cV.1 hx with rfl|hx
  ·exact⟨h1,h2⟩
  ·exact⟨vd h1 (g2 x hx).1,(g2 x hx).2⟩
def DW:Key->List Key->Nat->Key
 |lo,_,0=>lo
 |lo,[],_+1=>lo
 |_,k::ks,i+1=>DW k ks i
def wW(hi:Option Key)(ks:List Key)(i:Nat):Option Key:=match ks[i]? with|some k=>some k|none=>hi
theorem rj(lo:Key)(ks:List Key):DW lo ks 0=lo:=by cases ks<;>simp[DW]
theorem sA:∀{lo:Key} {ks:List Key} {i:Nat} {k:Key},ks[i]?=some k->DW lo ks (i+1)=k
 |_,[],_,_,h=>by grind
 |_,x::ks,0,k,h=>by have:x=k:=zw;rw[<-this];exact rj x ks
 |_,x::ks,i+1,k,h=>sA (lo:=x) (ks:=ks) (i:=i) zw
theorem GM(h:ks[i]?=some k):wW hi ks i=some k:=by unfold wW;rw[h]
theorem XZ(h:ks.length<=i):wW hi ks i=hi:=by unfold wW;grind
theorem ff.head:∀(k1:List Key) (c1:List α) {lo:Key} {ks:List Key} {cs:List α},k1.length=c1.length->ff P lo hi (k1++ks) (c1++cs)->
 ff P (DW lo k1 k1.length) hi ks cs/\∀ks' GV,ff P (DW lo k1 k1.length) hi ks' GV->ff P lo hi (k1++ks') (c1++GV)
 | [],[],_,_,_,_,h=>⟨h,λ_ _ h'=>h'⟩
 | [],_::_,_,_,_,hl,_=>by grind
 |_::_,[],_,_,_,hl,_=>by grind
 |k::k1,c::c1,lo,ks,cs,hl,h=>by obtain⟨h1,h2,h3,h4⟩:=h;obtain⟨g1,g2⟩:=ff.head k1 c1 zw h4;exact⟨g1,λks' GV h'=>⟨h1,h2,h3,g2 ks' GV h'⟩⟩
theorem ff.Fp(k:Key):∀{km:List Key} {cm:List α} {lo:Key},xK hi k->ff P lo (some k) km cm->∀(ks:List Key) (cs:List α),ff P k hi ks cs->lo<k->ff P lo hi (km++k::ks) (cm++cs)
 | [],[c],lo,hk,h,ks,cs,h',fu=>⟨fu,hk,h,h'⟩
 | [],[],_,_,h,_,_,_,_=>h.elim
 | [],_::_::_,_,_,h,_,_,_,_=>h.elim
 |_::_,[],_,_,h,_,_,_,_=>h.elim
 |x::km,c::cm,lo,hk,h,ks,cs,h',fu=>by obtain⟨h1,h2,h3,h4⟩:=h;have hx:x<k:=h2 k rfl;exact⟨h1,λy hy=>vd hx (hk y hy),h3,ff.Fp k hk h4 ks cs h' hx⟩
theorem ff.join{ka kb:List Key}{ca cb:List α}(ha:ff P lo (some k) ka ca)(hb:ff P k hi kb cb)(h1:lo<k)(h2:xK hi k):ff P lo hi (ka++k::kb) (ca++cb):=ff.Fp k h2 ha kb cb hb h1
theorem ff.part:∀(ka:List Key) (ca:List α) {lo k:Key} {kb:List Key} {cb:List α},ca.length=ka.length+1->ff P lo hi (ka++k::kb) (ca++cb)->ff P lo (some k) ka ca/\ff P k hi kb cb/\lo<k/\xK hi k
 | [],[c],_,_,_,_,_,h=>⟨h.2.2.1,h.2.2.2,h.1,h.2.1⟩
 | [],[],_,_,_,_,hl,_=>by omega
 | [],_::_::_,_,_,_,_,hl,_=>by grind
 |_::_,[],_,_,_,_,hl,_=>by grind
 |x::ka,c::ca,lo,k,kb,cb,hl,h=>by obtain⟨h1,h2,h3,h4⟩:=h;obtain⟨g1,g2,g3,g4⟩:=ff.part ka ca zw h4;exact⟨⟨h1,λy hy=>by injection hy with hy;exact hy▸g3,h3,g1⟩,g2,zw,g4⟩
theorem ff.dm:∀{ks:List Key} {cs:List α} {lo:Key} (i:Nat) (c:α),ff P lo hi ks cs->cs[i]?=some c->P (DW lo ks i) (wW hi ks i) c
 | [],[],_,_,_,h,_=>h.elim
 | [],[t],_,0,c,h,hc=>by have:t=c:=zw;exact this▸h
 | [],[t],_,i+1,c,h,hc=>by grind
 | [],_::_::_,_,_,_,h,_=>h.elim
 |_::_,[],_,_,_,h,_=>h.elim
 |k::ks,t::ts,lo,0,c,h,hc=>by have:t=c:=zw;exact this▸h.2.2.1
 |k::ks,t::ts,lo,i+1,c,h,hc=>by
  have:=ff.dm i c h.2.2.2 zw;have e:wW hi (k::ks) (i+1)=wW hi ks i:=by unfold wW;simp
  rw[e];exact this
theorem ff.splice{rk:List Key}{cs rc:List α}(h:ff P lo hi ks cs)(a b:Nat)(VP:a<b)(hb:b<=cs.length)(hr:ff P (DW lo ks a) (wW hi ks (b-1)) rk rc):
 ff P lo hi (ks.take a++rk++ks.drop (b-1)) (cs.take a++rc++cs.drop b):=by
 have hl:=h.len;have e1:ks.take a++ks.drop a=ks:=di a ks;have e2:cs.take a++cs.drop a=cs:=di a cs;have bU:(ks.take a).length=(cs.take a).length:=by rw[aP,aP];omega
 have Bu:(ks.take a).length=a:=by rw[aP];omega
 have hh:=h;rw[<-e1,<-e2]at hh;obtain⟨_,g2⟩:=ff.head _ _ bU hh;have fu:DW lo (ks.take a) (ks.take a).length=DW lo ks a:=by
  rw[Bu];cases a with
  |zero=>rw[rj,rj]
  |succ a=>obtain⟨x,hx⟩:∃x,ks[a]?=some x:=⟨_,aF zo⟩;rw[sA hx,sA (by rw[AE zo];exact hx)]
 rw[fu]at g2;rw[cJ,cJ];refine g2 _ _ ?_;by_cases ja:b=cs.length
 ·have:ks.drop (b-1)=[]:=nd.2 zo;rw[this,dH,ja,List.drop_length,dH];rw[XZ zo]at hr;exact hr
 ·obtain⟨k,hk⟩:∃x,ks[b-1]?=some x:=⟨_,aF zo⟩;rw[GM hk]at hr;have hd:ks.drop (b-1)=k::ks.drop b:=by obtain⟨hlt,rfl⟩:=cR.1 hk;rw[fT hlt,show b-1+1=b by omega]
  rw[hd];have hp:=h;rw[<-di (b-1) ks,hd,<-di b cs]at hp;obtain⟨_,p2,_,p4⟩:=ff.part (ks.take (b-1)) (cs.take b) (by rw[aP,aP];omega) hp;refine ff.join hr p2 ?_ p4;have yX:=h.keys;cases a with
  |zero=>rw[rj];omega
  |succ a=>obtain⟨x,hx⟩:∃x,ks[a]?=some x:=zw;rw[sA hx];obtain⟨i1,rfl⟩:=cR.1 hx;obtain⟨i2,rfl⟩:=cR.1 hk;exact oO.1 yX.1 a (b-1) i1 i2 zo
theorem ff.way:∀{ks:List Key} {cs:List α} {lo:Key} (k:Key),ff P lo hi ks cs->Hc lo hi k->Hc (DW lo ks (gY ks k)) (wW hi ks (gY ks k)) k
 | [],_,_,k,_,hk=>hk
 |_::_,[],_,_,h,_=>h.elim
 |x::ks,c::cs,lo,k,h,hk=>by
  unfold gY;rw[jZ];by_cases hx:k<x
  ·rw[aj zw]
   exact⟨hk.1,λy hy=>by have:x=y:=by simpa [wW] using hy
                        grind⟩
  ·rw[ah zw];have ih:=ff.way k h.2.2.2 ⟨hx,hk.2⟩;rw[bE];have e:wW hi (x::ks) ((ks.takeWhile λy=>!decide (k<y)).length+1)=wW hi ks ((ks.takeWhile λy=>!decide (k<y)).length):=by unfold wW;simp
   rw[e];exact ih
end
theorem si{lo:Key}{hi:Option Key}:∀(all:Nat) (ps now:List Pr) (size:Nat),yA 0 lo hi (now++ps)->ff (yA 0) lo hi (lv all ps now size).2 (lv all ps now size).1
 |_,[],now,_,h=>by have h':yA 0 lo hi now:=zw;exact h'
 |all,p::r,now,size,h=>by
  unfold lv;split
  ·next hc=>
   obtain⟨h1,h2⟩:=h;obtain⟨s1,s2,s3⟩:=fS.1 h1;obtain⟨q,t,hq⟩:=List.exists_cons_of_ne_nil hc.2;have hqp:q.key<p.key:=zw;refine⟨alb (h2 q zw).1 hqp,(h2 p zu).2,⟨s1,λx hx=>⟨(h2 x (by simp[hx])).1,λy hy=>?_⟩⟩,si all r [p] _ ⟨s2,λx hx=>⟨?_,(h2 x (List.mem_append_right _ hx)).2⟩⟩⟩
   ·injection hy with hy;rw[<-hy];exact s3 x hx p zu
   ·rcases cV.1 hx with rfl|hx
    ·exact aoN _
    ·exact Vj ((lM.1 s2).1 x hx)
  ·exact si all r (now++ [p]) _ (by rw[cJ];exact h)
theorem Dp{h:Nat}{lo:Key}{hi:Option Key}{ks:List Key}{cs:List (Tr h)}(hk:∀k∈ks,ey k)(hs:lD ks<=420)(h':ff (yA h) lo hi ks cs):Gz lo hi (fD ks cs):=by
 unfold Gz fD ml;split
 ·exact h'
 ·next h1=>
  obtain⟨g1,g2,_,_⟩:=AD (λk uk=>(hk k uk).2) zo hs;have hl:=h'.len;obtain⟨k,hx⟩:∃x,ks[cutAt ks]?=some x:=⟨_,aF zo⟩;have hd:ks.drop (cutAt ks)=k::ks.drop (cutAt ks+1):=by obtain⟨hlt,rfl⟩:=cR.1 hx;simp
  have hp:=h';rw[<-di (cutAt ks) ks,hd,<-di (cutAt ks+1) cs]at hp;obtain⟨p1,p2,p3,p4⟩:=ff.part (ks.take (cutAt ks)) (cs.take (cutAt ks+1)) zw hp;rw[hd];exact⟨p3,p4,p1,p2⟩
theorem CR:(h:Nat)->(a:Tr h)->(key:Key)->(b:Tr h)->{lo:Key}->{hi:Option Key}->DU h a->DU h b->ey key->rI h a+rI h b<=256+85->yA h lo (some key) a->yA h key hi b->lo<key->xK hi key->Gz lo hi (ft h a key b)
 |0,(a:List Pr),key,(b:List Pr),lo,hi,_,_,_,_,ha,hb,h1,h2=>by
  have alr:yA 0 lo hi ((a++b:List Pr)):=⟨fS.2 ⟨ha.1,hb.1,λx hx y hy=>N9 ((ha.2 x hx).2 key rfl) (hb.2 y hy).1⟩,λx hx=>by
   rcases eQ.1 hx with hx|hx
   ·exact⟨(ha.2 x hx).1,λy hy=>vd ((ha.2 x hx).2 key rfl) (h2 y hy)⟩
   ·exact⟨λh9=>(hb.2 x hx).1 zw,(hb.2 x hx).2⟩⟩
  exact si _ _ [] _ alr
 |h+1,a,key,b,lo,hi,fa,fb,hk,hs,ha,hb,h1,h2=>by
  obtain⟨a1,a2,a3,a4⟩:=fa.inner;obtain⟨b1,b2,b3,b4⟩:=fb.inner;have e1:=gC a.1 (key::b.1);rw[rp]at e1;have TU:lD a.1+lD b.1<=256+85:=hs;refine Dp (λk uk=>?_) (zA hk.2) (ff.join ha hb h1 h2);rcases eQ.1 uk with uk|uk
  ·exact a3 k uk
  ·rcases cV.1 uk with rfl|uk
   ·exact hk
   ·exact b3 k uk
end Pl
end Go.Proofs.YtbhpofdafhahgaaGreatDoor
