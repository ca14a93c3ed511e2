/- Part 1: OrdS OrdA OrdW Heap OrdV ErrAs Shell Plain Sum Str Own PlainTree TreeA TreeB TreeC TreeR ShellB PlainChain PlainProof. -/
import Derived.WalkKit
import Derived.Lib.Hide
import Init
import Derived.WalkLawsBesides
import Derived.WalkSpells
import Derived.Laws.CopyOwn
import Derived.Maps.AppendAt
import Derived.Test.YtbhpofdafhahgaaGreatDoorProg
import Derived.LaidEql
import Derived.Stop.Asserts
import Derived.RowKitTokens
import Derived.Test.YtbhpofdafhahgaaGreatDoorRows
import Derived.ProofKit
import Derived.OpenShut
import Derived.ShutString
import Derived.LaidLaws
import Derived.LaidHandle
import Derived.Stop.Joined
import Derived.Deep.DeepHandedRow
import Derived.Deep.AppendLies
import Derived.RegionTactic
import Derived.OwnWalk
import Derived.Deep.RegionWith
import Derived.Deep.RegionHeld3
import Derived.Carry
import Derived.SliceStrings
import Derived.SizedLaws
import Derived.Deep.Slices
set_option linter.all false
set_option maxHeartbeats 8000000
set_option maxRecDepth 100000
namespace Go.Proofs
open Go.RowKit
variable {p a b c d e f g h q:Prop}
variable (w:World) (o:Obj)
theorem ze{α:Sort _}(a:α):∃y,a=y:=⟨a,rfl⟩
theorem zi(h:p):Hid p:=Lib.hid h
theorem za:Below w.heap.size w (w.alloc o):=(Below.refl _ _).alloc (Nat.le_refl _) _
theorem zb{w w1:World}{o:Obj}(h:w.alloc o=w1):Below w.heap.size w w1:=h▸za w o
theorem zF:∃w1,w.alloc o=w1/\Below w.heap.size w w1:=⟨_,rfl,za w o⟩
theorem zd(x:a)(y:b)(z:c):a/\b/\c:=⟨x,y,z⟩
theorem sS(xa:a)(xb:b)(xc:c)(xd:d):a/\b/\c/\d:=⟨xa,xb,xc,xd⟩
theorem TV(xa:a)(xb:b)(xc:c)(xd:d)(xe:e):a/\b/\c/\d/\e:=⟨xa,xb,xc,xd,xe⟩
theorem ze6(xa:a)(xb:b)(xc:c)(xd:d)(xe:e)(xf:f):a/\b/\c/\d/\e/\f:=⟨xa,xb,xc,xd,xe,xf⟩
theorem ze7(xa:a)(xb:b)(xc:c)(xd:d)(xe:e)(xf:f)(xg:g):a/\b/\c/\d/\e/\f/\g:=⟨xa,xb,xc,xd,xe,xf,xg⟩
theorem ze8(xa:a)(xb:b)(xc:c)(xd:d)(xe:e)(xf:f)(xg:g)(xh:h):a/\b/\c/\d/\e/\f/\g/\h:=⟨xa,xb,xc,xd,xe,xf,xg,xh⟩
theorem ze9{i:Prop}(xa:a)(xb:b)(xc:c)(xd:d)(xe:e)(xf:f)(xg:g)(xh:h)(xi:i):a/\b/\c/\d/\e/\f/\g/\h/\i:=⟨xa,xb,xc,xd,xe,xf,xg,xh,xi⟩
theorem zf(P:Program)(fn:Fn)(first aB:Array Value)(w:World):(Instr.makeFunc fn first aB).run P w= .ok (.func fn first aB) w:=rfl
theorem dz(xa:a)(xb:b):Hid a/\Hid b:=⟨xa,xb⟩
theorem kt(xa:a)(xb:b)(xc:c):Hid a/\Hid b/\Hid c:=⟨xa,xb,xc⟩
theorem yx(xa:a)(xb:b)(xc:c)(xd:d):Hid a/\Hid b/\Hid c/\Hid d:=⟨xa,xb,xc,xd⟩
theorem OW(xa:a)(xb:b)(xc:c)(xd:d)(xe:e):Hid a/\Hid b/\Hid c/\Hid d/\Hid e:=⟨xa,xb,xc,xd,xe⟩
theorem zh6(xa:a)(xb:b)(xc:c)(xd:d)(xe:e)(xf:f):Hid a/\Hid b/\Hid c/\Hid d/\Hid e/\Hid f:=⟨xa,xb,xc,xd,xe,xf⟩
theorem zh7(xa:a)(xb:b)(xc:c)(xd:d)(xe:e)(xf:f)(xg:g):Hid a/\Hid b/\Hid c/\Hid d/\Hid e/\Hid f/\Hid g:=⟨xa,xb,xc,xd,xe,xf,xg⟩
theorem zh8(xa:a)(xb:b)(xc:c)(xd:d)(xe:e)(xf:f)(xg:g)(xh:h):Hid a/\Hid b/\Hid c/\Hid d/\Hid e/\Hid f/\Hid g/\Hid h:=⟨xa,xb,xc,xd,xe,xf,xg,xh⟩
theorem zh9{i:Prop}(xa:a)(xb:b)(xc:c)(xd:d)(xe:e)(xf:f)(xg:g)(xh:h)(xi:i):Hid a/\Hid b/\Hid c/\Hid d/\Hid e/\Hid f/\Hid g/\Hid h/\Hid i:=⟨xa,xb,xc,xd,xe,xf,xg,xh,xi⟩
theorem zA(h:q)(g:q->p:=by intro _;omega):p:=g h
theorem zC{r:Prop}(h:q)(k:r)(g:q->r->p:=by intro _ _;omega):p:=g h k
theorem zD{r s:Prop}(h:q)(k:r)(l:s)(g:q->r->s->p:=by intro _ _ _;omega):p:=g h k l
theorem zj [Decidable p](h:decide p=true:=by rfl):p:=of_decide_eq_true h
theorem zo(h:p:=by omega):p:=h
theorem zp(h:p:=by kernel_rfl):p:=h
theorem zu(h:p:=by simp):p:=h
theorem zw(h:p:=by grind):p:=h
theorem zS(h:p:=by simp_all):p:=h
theorem zk{b:Bool}(h:b=true)(h':b=false):p:=Bool.noConfusion (h.symm.trans h')
abbrev au:= @List.getElem?_cons_zero
abbrev aF:= @List.getElem?_eq_getElem
abbrev ao:= @Nat.le_trans
abbrev ax:= @List.length_append
abbrev ai:= @Nat.le_refl
abbrev aL:= @List.getElem?_cons_succ
abbrev aK:= @Nat.lt_of_lt_of_le
abbrev aH:= @decide_eq_false
abbrev aP:= @List.length_take
abbrev bO:= @List.mem_of_getElem?
abbrev cR:= @List.getElem?_eq_some_iff
abbrev aQ:= @decide_eq_true
abbrev aX:= @List.nil_append
abbrev bE:= @List.length_cons
abbrev ah:= @if_pos
abbrev b9:= @beq_eq_false_iff_ne
abbrev aj:= @if_neg
abbrev di:= @List.take_append_drop
abbrev dx:= @List.take_of_length_le
abbrev aM:= @Nat.zero_le
abbrev bT:= @List.length_drop
abbrev dy:= @List.length_singleton
abbrev cJ:= @List.append_assoc
abbrev fF:= @Array.getD_eq_getD_getElem?
abbrev eR:= @Option.bind_eq_some_iff
abbrev dU:= @List.mem_singleton
abbrev fT:= @List.drop_eq_getElem_cons
abbrev dt:= @Nat.min_eq_left
abbrev dR:= @List.flatMap_cons
abbrev bZ:= @Nat.zero_add
abbrev cV:= @List.mem_cons
abbrev cI:= @Nat.add_zero
abbrev dH:= @List.append_nil
abbrev iI:= @List.getElem?_append_right
abbrev eK:= @List.take_add_one
abbrev eu:= @List.cons_append
abbrev fS:= @List.pairwise_append
abbrev eS:= @Option.bind_some
abbrev eT:= @List.length_map
abbrev eQ:= @List.mem_append
abbrev ie:= @List.length_pos_iff
abbrev ew:= @Nat.add_assoc
abbrev kc:= @List.getElem?_append_left
abbrev iH:= @List.flatMap_append
abbrev fB:= @Option.some.inj
abbrev gN:= @List.take_length
abbrev jg:= @List.drop_succ_cons
abbrev eJ:= @Nat.lt_or_ge
abbrev jG:= @Nat.pow_le_pow_right
abbrev gH:= @List.map_append
abbrev j9:= @List.length_replicate
abbrev kd:= @List.mem_cons_of_mem
abbrev jd:= @of_decide_eq_true
abbrev ik:= @List.take_left'
abbrev jC:= @List.set_cons_zero
abbrev lG:= @List.mem_iff_getElem?
abbrev oz:= @Int.tmod_eq_emod_of_nonneg
abbrev jZ:= @List.takeWhile_cons
abbrev je:= @List.not_mem_nil
abbrev qo:= @List.eq_nil_of_length_eq_zero
abbrev oO:= @List.pairwise_iff_getElem
abbrev np:= @List.filter_eq_nil_iff
abbrev cy:= @Ne.symm
abbrev mQ:= @List.mem_of_mem_take
abbrev nd:= @List.drop_eq_nil_iff
abbrev lO:= @List.getElem?_drop
abbrev lM:= @List.pairwise_cons
abbrev gF:= @Nat.le_of_eq
abbrev jK:= @List.range_succ
abbrev ua:= @List.take_append_of_le_length
abbrev oK:= @List.getElem?_eq_none
abbrev jD:= @List.drop_zero
abbrev jf:= @List.map_cons
abbrev ke:= @List.drop_left'
abbrev iG:= @Nat.le_of_lt
abbrev iE:= @List.mem_map
abbrev lQ:= @List.mem_flatMap
abbrev lU:= @Option.getD_some
abbrev tY:= @List.getD_eq_getElem?_getD
abbrev qy:= @List.length_eq_one_iff
abbrev ow:= @List.length_take_le
abbrev qv:= @List.cons_lt_cons_iff
abbrev oP:= @decide_eq_true_iff
abbrev qB:= @List.mem_of_mem_drop
abbrev qq:= @List.take_succ_cons
abbrev ni:= @List.append_inj
abbrev tV:= @Option.map_eq_some_iff
abbrev ub:= @List.drop_of_length_le
abbrev yz:= @Array.getElem?_eq_some_iff
abbrev ve:= @List.setIfInBounds_toArray
abbrev gJ:= @Nat.not_lt
abbrev mE:= @Option.getD_none
abbrev oB:= @Option.isSome_none
abbrev oQ:= @Option.isSome_some
abbrev kL:= @List.drop_drop
abbrev Bi:= @List.take_succ_eq_append_getElem
abbrev uR:= @List.eq_of_mem_replicate
abbrev jT:= @Nat.sub_self
abbrev oX:= @Bool.and_eq_true
abbrev uE:= @List.drop_eq_nil_of_le
abbrev qX:= @Nat.add_sub_cancel
abbrev rB:= @List.set_cons_succ
abbrev qF:= @decide_eq_true_eq
abbrev ru:= @List.length_range
abbrev rq:= @List.count_append
abbrev rz:= @List.foldl_append
abbrev uZ:= @List.getElem?_of_mem
abbrev mH:= @Nat.lt_trans
abbrev AE:= @List.getElem?_take_of_lt
abbrev BN:= @Array.getElem?_push_size
abbrev qZ:= @Bool.eq_iff_iff
abbrev qT:= @List.foldl_cons
abbrev vf:= @Bool.false_eq_true
abbrev oU:= @List.sum_cons
abbrev Ay:= @Nat.testBit_lt_two_pow
abbrev vj:= @List.getElem?_map
abbrev uH:= @Option.some.injEq
abbrev iU:= @or_false
abbrev re:= @List.take_zero
abbrev vF:= @Array.toList_inj
abbrev Ip:= @List.drop_append_of_le_length
abbrev uN:= @List.flatMap_nil
abbrev BM:= @List.getElem?_modify
abbrev qR:= @List.map_take
abbrev uD:= @List.length_nil
abbrev uM:= @List.cons.injEq
abbrev uF:= @UInt8.toNat_inj
abbrev uO:= @List.mem_filter
abbrev Hv:= @Int.tdiv_eq_ediv_of_nonneg
abbrev Co:= @Nat.xor_lt_two_pow
abbrev AZ:= @List.getElem?_take
abbrev qL:= @List.map_nil
abbrev AX:= @List.filter_append
abbrev Bl:= @Int.toNat_natCast
abbrev AU:= @List.ext_getElem?
abbrev ry:= @Nat.one_mul
abbrev IZ:= @Nat.add_sub_cancel_left
abbrev qH:= @Nat.add_mul
abbrev vw:= @List.map_drop
abbrev Hw:= @List.length_eq_zero_iff
abbrev Cy:= @List.map_toArray
abbrev BP:= @List.take_append
abbrev Ci:= @Nat.not_lt_zero
abbrev AY:= @Option.map_some
abbrev Bw:= @Bool.not_true
abbrev qQ:= @eq_of_heq
abbrev uz:= @beq_iff_eq
abbrev ak:= @Go.RowKit.Below.refl
abbrev aY:= @Go.IntWalk.i64_in
abbrev dC:= @Go.World.block_lt_of_cell?
abbrev bH:= @Go.bodyPost_ret
abbrev dA:= @Go.World.ownsRow_nil
abbrev bV:= @Go.info_parts
abbrev gA:= @Go.run_underlying
abbrev iL:= @Go.Sem.run_bind
abbrev lE:= @Go.IntKind.wrap_u64
abbrev mS:= @Go.RowKit.Below.heap_alloc
abbrev il:= @Go.wpS_region
abbrev lB:= @Go.IntWalk.u64_in
abbrev oN:= @Go.Result.andThen_ok
abbrev vt:= @Go.World.cell?_alloc_lt
abbrev Cv:= @Go.World.cell?_setCell_other
abbrev lj:= @Go.RowKit.Below.trans
abbrev mF:= @Go.cell_of_row
abbrev ln:= @Go.RowKit.Below.size
abbrev fO:= @Go.wpS_seq
abbrev rh:= @Go.wp_loop_rounds
abbrev oS:= @Go.wpList_plain
abbrev Cb:= @Go.ByteArray.toList_eq
abbrev ox:= @Go.rounds_succ
abbrev Bt:= @Go.World.grownBy.refl
abbrev BU:= @Go.RowKit.Below.heap_setCell
abbrev kO:= @Go.run_mark
abbrev qM:= @Go.leaves_cons
abbrev uT:= @Go.IntWalk.u8_in
abbrev qS:= @Go.grownCap_ge
abbrev vC:= @Go.callsD_of_wpS
abbrev AK:= @Go.World.ownsRow.lt
abbrev Cn:= @Go.World.size_alloc
abbrev oG:= @Go.wpS_cond
end Go.Proofs
namespace Go.Proofs.YtbhpofdafhahgaaGreatDoor
open Go.RowKit
variable (l:List UInt8)
def bv:List Value:=l.map λc=>Value.int .u8 (c.toNat:Int)
@[simp] theorem als :(bv l).length=l.length:=by simp[bv]
theorem nu(r:List UInt8):bv (l++r)=bv l++bv r:=by simp[bv]
theorem Pf:∀v∈bv l,v.oneCell'=true:=by intro v hv;obtain⟨c,_,rfl⟩:=iE.1 hv;rfl
theorem ahx(i:Nat)(h:i<l.length):(bv l)[i]?=some (.int .u8 (l[i].toNat:Int)):=by simp[bv,aF h]
def ay(w:World)(g:Nat)(t:TypeId)(cs:List Value):Prop:=w.heap[g]?=some (.cells cs.toArray t (0,0))
section
variable {w w':World} {g:Nat} {t:TypeId} {cs:List Value}
theorem ay.lt(h:ay w g t cs):g<w.heap.size:=by
 rcases eJ g w.heap.size with hlt|Ze
 ·omega
 ·unfold ay at h;grind
theorem ay.cell(h:ay w g t cs)(i:Nat):w.cell? ⟨g,i,none⟩=cs[i]?:=by rw[mF w g i cs.toArray t (0,0) h];simp
theorem ay.frozen(h:ay w g t cs)(i:Nat):w.frozen? ⟨g,i,none⟩=false:=by unfold ay at h;simp[World.frozen?,h]
theorem ay.new(w:World)(t:TypeId)(cs:List Value):ay (w.alloc (.cells cs.toArray t)) w.heap.size t cs:=heap_alloc_new w _
theorem ay.newAt(w:World)(t:TypeId)(cs:List Value)(n:Nat)(h:n=w.heap.size):ay (w.alloc (.cells cs.toArray t)) n t cs:=by subst h;exact heap_alloc_new w _
theorem ay.drew(h:ay w g t cs):ay w.drew g t cs:=h
theorem ay.alloc(h:ay w g t cs)(o:Obj):ay (w.alloc o) g t cs:=(mS w o g h.lt).trans h
theorem ay.bw(h:ay w g t cs)(i:Nat)(u:Value):ay (w.setCell ⟨g,i,none⟩ u) g t (cs.set i u):=by
 unfold ay at h|-
 simp[World.setCell,Array.getElem?_modify,h]
theorem ay.mK(h:ay w g t cs){p:Addr}(hp:g≠p.block)(u:Value):ay (w.setCell p u) g t cs:=(BU w p u g hp).trans h
theorem ay.aa{B:Nat}(h:ay w g t cs)(hb:Below B w w')(hg:g<B):ay w' g t cs:=(hb.block g hg).trans h
theorem ay.grown{row:Option Nat}(h:ay w g t cs)(hb:w.grownBy w' row)(hg:some g≠row):ay w' g t cs:=(hb.block g h.lt hg).trans h
theorem ay.dv{GV:List Value}{t':TypeId}(h:ay w g t cs)(h':ay w g t' GV):cs=GV:=by
 unfold ay at h h'
 grind
end
section
variable {a w w':World} {row:Option Nat}
variable {g B:Nat}
theorem kQ(h:a.grownBy w row)(o:Obj):a.grownBy (w.alloc o) row:=
 ⟨h.os,h.tape,h.output,ao h.size (by simp),λi hi hne=>(mS w o i (aK hi h.size)).trans (h.block i hi hne)⟩
theorem Ds(h:a.grownBy w (some g)){p:Addr}(hp:p.block=g\/a.heap.size<=p.block)(u:Value):a.grownBy (w.setCell p u) (some g):=
 ⟨h.os,h.tape,h.output,by simpa [World.setCell] using h.size,λi hi hne=>(BU w p u i (by
   grind)).trans (h.block i hi hne)⟩
theorem KM(h:Below a.heap.size a w)(row:Option Nat):a.grownBy w row:=⟨h.os,h.tape,h.output,h.size,λi hi _=>h.block i hi⟩
theorem zN(h:w.grownBy w' (some g))(hB:B<=g)(hs:B<=w.heap.size):Below B w w':=
 ⟨h.os,h.tape,h.output,h.size,λk hk=>h.block k (by omega) (by grind)⟩
theorem below_drewN(h:Below B a w)(n:Nat):Below B a (w.drewN n):=⟨h.os,h.tape,h.output,h.size,h.block⟩
end
variable (v h:Value) (t a p:Addr) (W w:World)
theorem nJ(b o j:Nat):(⟨b,o,none⟩:Addr).add j=⟨b,o+j,none⟩:=by unfold Addr.add;simp
theorem MT(c c':Array Value)(t:TypeId):(w.alloc (.cells c t)).setRow w.heap.size c'=w.alloc (.cells c' t):=by
 unfold World.setRow World.alloc;congr 1
 grind
theorem zE(t:TypeId)(cs:List Value):∃g w1,w.heap.size=g/\w.alloc (.cells cs.toArray t)=w1/\Below w.heap.size w w1/\ay w1 g t cs:=⟨_,_,rfl,rfl,za _ _,ay.new w t cs⟩
theorem zB{w w1:World}{cs:List Value}{t:TypeId}{g:Nat}(h:w.alloc (.cells cs.toArray t)=w1)(hg:w.heap.size=g):ay w1 g t cs:=by rw[<-h,<-hg];exact ay.new w t _
abbrev dP(w':World):Prop:=Below w.heap.size w w'
abbrev bG:=Calls Tryz.prog
open Go.Extern.Stop Go.Stop Go.Extern
def GE:Prop:=w.cell? ⟨0,0,none⟩=some (.iface 306 (.agg #[.pointer (some ⟨2,73,none⟩)]))
theorem adW(t:Value)(w:World):
 bG 134 #[.nilIface,t] w λe w'=>e= .returned (.bool false)/\w=w':=by
 go_enter Tryz.func134,Tryz.ntmps134;go_wp2;go_ret;exact⟨rfl,rfl⟩
theorem Tryz.Mk:(ReflectliteValue.unpack (.iface 226 (.pointer (some t)))).run Tryz.prog w
 = .ok (.agg #[.pointer (some ⟨2,226,none⟩),.pointer (some ⟨w.heap.size,0,none⟩),.int .u64 150]) (w.alloc (.cells #[.pointer (some t)] 226)):=zp
theorem Tryz.acr:(ReflectliteValue.methodAny (ReflectliteValue.valueError "reflectlite.Value.Type" 0) (λt _ _ _=>ReflectliteType.toType t) #[.agg #[.pointer (some ⟨2,226,none⟩),.pointer (some a),.int .u64 150]]).run Tryz.prog w
 = .ok (.iface 306 (.agg #[.pointer (some ⟨2,226,none⟩)])) w:=zp
theorem Tryz.Bx:(Go.method 570 306 (.agg #[h]) "Kind").run Tryz.prog w= .ok (305,h) w:=zp
theorem Tryz.aeU:((ReflectliteType.abiMethod λt=>(λa:Nat=>Value.int IntKind.u8 (a:Int))<$>Rtype.kind t) #[.pointer (some ⟨2,226,none⟩)]).run Tryz.prog w= .ok (.int .u8 22) w:=zp
theorem Tryz.ahT:((ReflectliteType.abiMethod λt=>(λa:Nat=>Value.int IntKind.u8 (a:Int))<$>Rtype.kind t) #[.pointer (some ⟨2,224,none⟩)]).run Tryz.prog w= .ok (.int .u8 22) w:=zp
theorem rlm(z:Sem Value)(f:TypeId->Addr->Nat->Nat->Sem Value)(v:Value):
 ReflectliteValue.method z f #[v]=(do match<-ReflectliteValue.parts v with|none=>z|some (t,a,fl)=>f t a fl (fl%32)):=rfl
theorem Tryz.YM:(ReflectliteValue.parts (.agg #[.pointer (some ⟨2,226,none⟩),.pointer (some a),.int .u64 150])).run Tryz.prog w= .ok (some (226,a,150)) w:=zp
theorem Tryz.XK(ha:W.cell? a=some (.pointer (some p))):
 (ReflectliteValue.method (ReflectliteValue.valueError "reflectlite.Value.IsNil" 0) ReflectliteValue.isNil #[.agg #[.pointer (some ⟨2,226,none⟩),.pointer (some a),.int .u64 150]]).run Tryz.prog W= .ok (.bool false) W:=by
 rw[rlm];simp only[iL,Tryz.YM,Result.andThen];simp[ReflectliteValue.isNil,loadVar,isAgg,underlying,Tryz.underlying226,ha,Result.andThen]
theorem Tryz.AR:(Go.method 570 306 (.agg #[h]) "Elem").run Tryz.prog w= .ok (376,.agg #[h]) w:=zp
theorem Tryz.oA:(Go.method 570 306 (.agg #[h]) "Implements").run Tryz.prog w= .ok (377,.agg #[h]) w:=zp
theorem Tryz.mI:(Go.method 570 306 (.agg #[h]) "AssignableTo").run Tryz.prog w= .ok (374,.agg #[h]) w:=zp
theorem Tryz.aeD:(ReflectliteType.method ReflectliteType.elem #[.agg #[.pointer (some ⟨2,226,none⟩)]]).run Tryz.prog w= .ok (.iface 306 (.agg #[.pointer (some ⟨2,224,none⟩)])) w:=zp
theorem Tryz.FI:(ReflectliteType.relation "Implements" ReflectliteType.implements_ #[.agg #[.pointer (some ⟨2,224,none⟩)],.iface 306 (.agg #[.pointer (some ⟨2,73,none⟩)])]).run Tryz.prog w= .ok (.bool true) w:=zp
theorem Tryz.agK:(ReflectliteType.typeOf #[.iface 224 v]).run Tryz.prog w= .ok (.iface 306 (.agg #[.pointer (some ⟨2,224,none⟩)])) w:=zp
theorem Tryz.GN:(ReflectliteType.typeOf #[.iface 30 v]).run Tryz.prog w= .ok (.iface 306 (.agg #[.pointer (some ⟨2,30,none⟩)])) w:=zp
theorem Tryz.MP:(ReflectliteType.relation "AssignableTo" ReflectliteType.assignableTo #[.agg #[.pointer (some ⟨2,224,none⟩)],.iface 306 (.agg #[.pointer (some ⟨2,224,none⟩)])]).run Tryz.prog w= .ok (.bool true) w:=zp
theorem Tryz.Nx:(ReflectliteType.relation "AssignableTo" ReflectliteType.assignableTo #[.agg #[.pointer (some ⟨2,30,none⟩)],.iface 306 (.agg #[.pointer (some ⟨2,224,none⟩)])]).run Tryz.prog w= .ok (.bool false) w:=zp
theorem Tryz.Oq:(ReflectliteType.relation "AssignableTo" ReflectliteType.assignableTo #[.agg #[.pointer (some ⟨2,30,none⟩)],.iface 306 (.agg #[.pointer (some ⟨2,30,none⟩)])]).run Tryz.prog w= .ok (.bool true) w:=zp
theorem Tryz.Zr:(ReflectliteValue.unpack (.iface 229 (.pointer (some t)))).run Tryz.prog w
 = .ok (.agg #[.pointer (some ⟨2,229,none⟩),.pointer (some ⟨w.heap.size,0,none⟩),.int .u64 150]) (w.alloc (.cells #[.pointer (some t)] 229)):=zp
theorem Tryz.aiM:(ReflectliteValue.methodAny (ReflectliteValue.valueError "reflectlite.Value.Type" 0) (λt _ _ _=>ReflectliteType.toType t) #[.agg #[.pointer (some ⟨2,229,none⟩),.pointer (some a),.int .u64 150]]).run Tryz.prog w
 = .ok (.iface 306 (.agg #[.pointer (some ⟨2,229,none⟩)])) w:=zp
theorem Tryz.aiP:((ReflectliteType.abiMethod λt=>(λa:Nat=>Value.int IntKind.u8 (a:Int))<$>Rtype.kind t) #[.pointer (some ⟨2,229,none⟩)]).run Tryz.prog w= .ok (.int .u8 22) w:=zp
theorem Tryz.amd:((ReflectliteType.abiMethod λt=>(λa:Nat=>Value.int IntKind.u8 (a:Int))<$>Rtype.kind t) #[.pointer (some ⟨2,30,none⟩)]).run Tryz.prog w= .ok (.int .u8 2) w:=zp
theorem Tryz.X1:(ReflectliteValue.parts (.agg #[.pointer (some ⟨2,229,none⟩),.pointer (some a),.int .u64 150])).run Tryz.prog w= .ok (some (229,a,150)) w:=zp
theorem Tryz.afq(ha:W.cell? a=some (.pointer (some p))):
 (ReflectliteValue.method (ReflectliteValue.valueError "reflectlite.Value.IsNil" 0) ReflectliteValue.isNil #[.agg #[.pointer (some ⟨2,229,none⟩),.pointer (some a),.int .u64 150]]).run Tryz.prog W= .ok (.bool false) W:=by
 rw[rlm];simp only[iL,Tryz.X1,Result.andThen];simp[ReflectliteValue.isNil,loadVar,isAgg,underlying,Tryz.underlying229,ha,Result.andThen]
theorem Tryz.akB:(ReflectliteType.method ReflectliteType.elem #[.agg #[.pointer (some ⟨2,229,none⟩)]]).run Tryz.prog w= .ok (.iface 306 (.agg #[.pointer (some ⟨2,30,none⟩)])) w:=zp
theorem Tryz.Qg:(ReflectliteType.relation "Implements" ReflectliteType.implements_ #[.agg #[.pointer (some ⟨2,30,none⟩)],.iface 306 (.agg #[.pointer (some ⟨2,73,none⟩)])]).run Tryz.prog w= .ok (.bool true) w:=zp
theorem Tryz.abo(e:Addr)(w:World):(ReflectliteValue.unpack (.iface 224 (.pointer (some e)))).run Tryz.prog w
 = .ok (.agg #[.pointer (some ⟨2,224,none⟩),.pointer (some ⟨w.heap.size,0,none⟩),.int .u64 150]) (w.alloc (.cells #[.pointer (some e)] 224)):=zp
theorem Tryz.abx(k:Int)(w:World):(ReflectliteValue.unpack (.iface 30 (.int .i64 k))).run Tryz.prog w
 = .ok (.agg #[.pointer (some ⟨2,30,none⟩),.pointer (some ⟨w.heap.size,0,none⟩),.int .u64 130]) (w.alloc (.cells #[.int .i64 k] 30)):=zp
open Go.ChangeShapes Go.WideShapes Go.ChangeAt
theorem own:ownKnob Tryz.prog.godebug=none:=zp
theorem laidOut:laidOutB Tryz.prog=true:=zp
theorem Tryz.et:Tryz.prog.globalNamed "errors.errorType" =some 0:=zp
theorem Tryz.rt:(Tryz.prog.cutTypes.find? (·.1== "internal/reflectlite.rtype")).map (·.2)=some 306:=zp
theorem Tryz.aiL:((List.range 470).filter λt=>Tryz.prog.rowNamed t [101,114,114,111,114])=[73]:=zp
theorem Tryz.size:Tryz.prog.types.size=470:=by simp
theorem Kq{l:List (String×DataW Unit)}{W:World}(h:handlesMet Tryz.prog l W)(hl:("errors.errorType",Rows.laid_errors_errorType)∈l):GE W:=by
 obtain⟨name,u,ty,e1,e2,e3,e4,e5⟩:=h _ hl;have en:name=[101,114,114,111,114]:=(fB e1).symm;subst en;obtain rfl:=fB (Tryz.rt.symm.trans e2);have hm:ty∈(List.range 470).filter λt=>Tryz.prog.rowNamed t [101,114,114,111,114]:=zS;rw[Tryz.aiL]at hm;obtain rfl:=dU.1 hm;have hh:typeHandle Tryz.prog 73= .pointer (some ⟨2,73,none⟩):=zp;rw[hh]at e5;have hc:=World.var?_cell Tryz.et e5 0;unfold GE
 grind
noncomputable def ZR(os:Os):World:=
 let w0:=World.holding Tryz.prog os ⟨#[],#[],[]⟩
 {w0 with heap:=w0.heap.modify 0 λ
  | .cells _ t frozen=> .cells #[.iface 306 (.agg #[.pointer (some ⟨2,73,none⟩)])] t frozen
  |o=>o}
namespace Pl
variable (v n h:Nat) (l:List UInt8) (c:UInt8)
def po:Nat:=(h*33+c.toNat+1)%4294967291
def iZ:Nat:=l.foldl po 5381
theorem Wz:po h c<4294967291:=Nat.mod_lt _ (by decide)
theorem adr:∀h,h<4294967291->l.foldl po h<4294967291:=by
 induction l with
 |nil=>simp
 |cons c r ih=>intro h _;exact ih _ (Wz h c)
theorem uV:iZ l<4294967291:=adr l _ (by decide)
theorem aae:iZ (l++ [c])=po (iZ l) c:=by simp[iZ]
def uw:Nat:=if v%2=1 then v/2^^^3988292384 else v/2
def Zo:Nat->Nat->Nat
 |0,v=>v
 |n+1,v=>uw (Zo n v)
def aep:Nat:=Zo 8 v
theorem Ic{v:Nat}(h:v<4294967296):uw v<4294967296:=by
 unfold uw;split
 ·exact Co (n:=32) (by omega) (by decide)
 ·omega
theorem afV{v:Nat}(h:v<4294967296)(n:Nat):Zo n v<4294967296:=by
 induction n with
 |zero=>exact h
 |succ n ih=>exact Ic ih
def ym:Nat:=aep (v^^^c.toNat)
def nM:Nat:=l.foldl ym 4294967295
theorem N2{v:Nat}(h:v<4294967296)(c:UInt8):ym v c<4294967296:=
 afV (Co (n:=32) h (by have:=c.toNat_lt;omega)) 8
theorem P1:nM (l++ [c])=ym (nM l) c:=by simp[nM]
theorem Jw:∀h,h<4294967296->l.foldl ym h<4294967296:=by
 induction l with
 |nil=>simp
 |cons c r ih=>intro h hh;exact ih _ (N2 hh c)
theorem abd:nM l<4294967296:=Jw l _ (by decide)
def be:Nat->Nat->List UInt8
 |0,_=> []
 |k+1,v=>UInt8.ofNat (v/256^k)::be k v
theorem aG(k v:Nat):(be k v).length=k:=by induction k with|zero=>rfl|succ k ih=>simp[be,ih]
def lh:List UInt8:=be 4 n
theorem xQ:lh n=[UInt8.ofNat (n/16777216),UInt8.ofNat (n/65536),UInt8.ofNat (n/256),UInt8.ofNat n]:=by simp[lh,be]
end Pl
variable {w w':World} {cs:List Value} {A:Option Addr}
variable (l:List UInt8) (n:Nat)
def aw(w:World)(A:Option Addr)(l:List UInt8):Prop:=
 l=[]\/∃b off,A=some ⟨b,off,none⟩/\∀i,(h:i<l.length)->w.cell? ⟨b,off+i,none⟩=some (.int .u8 (l[i].toNat:Int))
theorem yw(k:Nat)(h:k<l.length):l.take (k+1)=l.take k++ [l[k]]:=by simp
theorem aw.dm{w:World}{A:Option Addr}{l:List UInt8}(h:aw w A l)(k:Nat)(hk:k<l.length):
 ∃b off,A=some ⟨b,off,none⟩/\w.cell? ⟨b,off+k,none⟩=some (.int .u8 (l[k].toNat:Int)):=by
 rcases h with rfl|⟨b,off,rfl,h⟩
 ·grind
 grind
def bM:Value:= .agg #[.int .u8 ((n:Int)/16777216),.int .u8 ((n:Int)/65536%256),.int .u8 ((n:Int)/256%256),.int .u8 ((n:Int)%256)]
theorem DB(A:Option Addr)(aB:Nat)(l:List UInt8)(w:World)(hb:aw w A l)(hm:l.length<=9223372036854775807):
 Calls Tryz.prog 59 #[.slice A l.length aB] w λe w'=>e= .returned (bM (Pl.iZ l))/\Below w.heap.size w w':=by
 go_enter Tryz.func59,Tryz.ntmps59;go_wp2
 go_loop [3,8] (λh i=>∃k:Nat,k<=l.length/\i= .int .i64 k/\h= .int .u64 (Pl.iZ (l.take k))) (λ_ i=>l.length-(intOf i).toNat)
 case atStart=>exact⟨0,aM _,rfl,rfl⟩
 case round=>
  obtain⟨k,hk,rfl,rfl⟩:=hrel;have hlt:=Pl.uV (l.take k);by_cases Sa:k<l.length
  ·obtain⟨b,off,rfl,hc⟩:=hb.dm k Sa;have yg:=World.block_lt_of_cell? _ _ hc;have CC:(l[k].toNat:Int)<256:=by have:=l[k].toNat_lt;omega
   go_wp2
   go_round
   case rel=>refine⟨k+1,by omega,by go_num,?_⟩;rw[yw l k Sa,Pl.aae];simp[Pl.po]
   case measure=>simp[intOf];omega
  ·have yX:k=l.length:=by omega
   subst yX;rw[gN]at hlt;simp only[gN];go_wp2;refine bodyPost_ret (v:=bM (Pl.iZ l)) (by simp[results,Tryz.results59,go_sem,bM]) rfl ⟨rfl,?_⟩;exact(Below.refl _ _).alloc (ai _) _
theorem Tryz.jm:(Tryz.prog.info? 5).map (λi=>(i.zero,i.size,i.bytes))=some (some (.int .u8 0),1,1):=by kernel_rfl
theorem Tryz.acC:(Tryz.prog.info? 5).map (·.size)=some 1:=by kernel_rfl
def IU:List Value:=List.replicate n (.int .u8 0)
theorem KI(v:Value)(n:Nat):madeCells #[v] n=(List.replicate n v).toArray:=by
 apply Array.ext
 ·simp[madeCells]
 ·intro i h1 h2;simp[madeCells,Nat.mod_one]
theorem Jy(x:Int)(n:Nat)(hx:x=n)(hn:n<=281474976710656)(w:World):
 (Instr.makeSlice 29 (.int .i64 x) (.int .i64 x)).run Tryz.prog w= .ok (.slice (some ⟨w.heap.size,0,none⟩) n n) (w.alloc (.cells (IU n).toArray 5)):=by
 subst hx;obtain⟨i,hi,nQ,kK,mY⟩:=bV Tryz.jm;have h:=run_make (P:=Tryz.prog) w 29 5 i (.int .u8 0) Tryz.underlying29 hi nQ .i64 .i64 n n (by omega) (by omega) (by grind) (by omega);rw[h];simp[kK,Value.cells,KI,IU]
theorem Rv(hn:n<4294967296)(w:World):
 Calls Tryz.prog 58 #[bM n] w λe w'=>e= .returned (.string ⟨(Pl.lh n).toArray⟩)/\Below w.heap.size w w':=by
 unfold bM
 have hcv:=run_convert_bytes_back (P:=Tryz.prog) (w.alloc (.cells #[.int .u8 ((n:Int)/16777216),.int .u8 ((n:Int)/65536%256),.int .u8 ((n:Int)/256%256),.int .u8 ((n:Int)%256)] 80)) 29 9 5
  ⟨w.heap.size,0,none⟩ 4 (Pl.lh n) Tryz.underlying29 Tryz.underlying5 Tryz.underlying9 (by
    intro j hj;rw[nJ,World.cell?_alloc_new];have hj4:j<4:=hj;simp only[Pl.xQ]
    match j,hj4 with
    |0,_=>simp;omega
    |1,_=>simp
    |2,_=>simp
    |3,_=>simp)
 have hl:(Pl.lh n).length=4:=rfl;rw[hl]at hcv;go_enter Tryz.func58,Tryz.ntmps58;go_wp2;go_ret;exact⟨rfl,(ak _ _).alloc (ai _) _⟩
theorem DX(A:Option Addr)(aB:Nat)(l:List UInt8)(w:World)(hb:aw w A l)(hm:l.length<=9223372036854775807):
 Calls Tryz.prog 25 #[.slice A l.length aB] w λe w'=>e= .returned (.string ⟨(Pl.lh (Pl.iZ l)).toArray⟩)/\Below w.heap.size w w':=by
 have hlt:=Pl.uV l;go_enter Tryz.func25,Tryz.ntmps25;go_wp2_with fail;refine(DB A aB l _ hb hm).mono ?_;rintro e w1 ⟨rfl,aI⟩;go_wp2_with fail;refine(Rv _ (by omega) _).mono ?_;rintro e w2 ⟨rfl,bz⟩;go_wp2;go_ret;exact⟨rfl,aI.trans (bz.mono aI.size)⟩
theorem aiy(i:Nat)(h:i<l.length):(bv l)[i]?=some (.int .u8 (l[i].toNat:Int)):=ahx l i h
def Src(w:World)(A:Option Addr)(cs:List Value):Prop:=
 cs=[]\/∃b off,A=some ⟨b,off,none⟩/\∀j u,cs[j]?=some u->w.cell? ⟨b,off+j,none⟩=some u
theorem Src.dE{g:Nat}{t:TypeId}(h:ay w g t cs):Src w (some ⟨g,0,none⟩) cs:=
 .inr ⟨_,_,rfl,λj u hu=>by rw[bZ,h.cell,hu]⟩
theorem Src.dm{w:World}{A:Option Addr}{cs:List Value}(h:Src w A cs)(j:Nat)(u:Value)(hu:cs[j]?=some u):
 ∃b off,A=some ⟨b,off,none⟩/\w.cell? ⟨b,off+j,none⟩=some u:=by
 rcases h with rfl|⟨b,off,rfl,h⟩
 ·cases hu
 grind
theorem Src.bQ(h:Src w A cs)(hk:∀p u,w.cell? p=some u->w'.cell? p=some u):Src w' A cs:=by
 rcases h with h|⟨b,off,rfl,h⟩
 ·exact .inl h
 ·exact .inr ⟨b,off,rfl,λj u hu=>hk _ _ (h j u hu)⟩
theorem bW(hb:Below w.heap.size w w')(p:Addr)(u:Value)(h:w.cell? p=some u):w'.cell? p=some u:=
 (hb.cell (dC _ _ h)).trans h
theorem Src.aa(h:Src w A cs)(hb:Below w.heap.size w w'):Src w' A cs:=h.bQ (bW hb)
theorem Src.take(h:Src w A cs)(n:Nat):Src w A (cs.take n):=by
 rcases h with rfl|⟨b,off,rfl,h⟩
 ·exact .inl (by simp)
 ·exact .inr ⟨b,off,rfl,λj u hu=>by
   rw[AZ]at hu;split at hu
   ·exact h j u hu
   ·cases hu⟩
theorem bJ{aq:Nat}{e:TypeId}{size n:Nat}{v:Value}{xs:List Value}(h:w.ownsRow aq e size v n xs):∃A aB,v= .slice A n aB/\n<=aB/\Src w A xs/\(∀a,A=some a->v.ownBlock=some a.block):=by
 rcases h.2 with⟨rfl,rfl⟩|⟨g,aB,cur,rfl,_,hg,wJ,_,hcs,aes⟩
 ·exact⟨none,0,rfl,(by omega),.inl (qo (by simpa using h.1)),(by simp)⟩
 ·refine⟨_,aB,rfl,wJ,.inr ⟨g,0,rfl,λj u hu=>?_⟩,λa ha=>by cases ha;rfl⟩;have:=h.cells (g:=g) rfl j u hu;rwa [nJ]at this
theorem ig{need old:Nat}(h:old<need):Builtin.nextslicecap need old<=need+need/4+512:=by
 unfold Builtin.nextslicecap;split
 ·omega
 ·split
  ·omega
  ·rw[growBy_four];split
   ·omega
   ·split
    ·omega
    ·split
     ·omega
     ·split<;>omega
section
variable {P:Program} (w:World)
variable {o:Oper} {a:Act} {K:Act->World->Prop} {Q:Exit->Act->World->Prop} {ops:Array Oper}
theorem DG(aq:Nat)(t ty e:TypeId)(i:TypeInfo)(size:Nat)(ht:P.underlying t=some (.slice e))(hi:P.info? e=some i)
 (v:Value) (n:Nat) (xs:List Value) (bI:w.ownsRow aq e size v n xs) (c:Nat):(Builtin.append_ #[t,t] ty #[v,.slice none 0 c]).run P w= .ok v w:=by
 rcases bI.2 with⟨rfl,rfl⟩|⟨g,aB,cur,rfl,_,_,wJ,_⟩
 ·simp[Builtin.append_,gA ht,sizeOf,typeInfo,hi,Builtin.lenOf,Builtin.firstCells]
 ·simp[Builtin.append_,gA ht,sizeOf,typeInfo,hi,Builtin.lenOf,Builtin.firstCells,wJ,storeCells]
theorem Gp(aq:Nat)(t ty e:TypeId)(i:TypeInfo)(z:Value)(size bytes:Nat)(ht:P.underlying t=some (.slice e))(hi:P.info? e=some i)(hz:i.zero=some z)
 (jE:i.size=size) (pr:i.bytes=bytes) (Ev:z.cells.size=size) (hsz:0<size)
 (v:Value) (n:Nat) (xs:List Value) (bI:w.ownsRow aq e size v n xs)
 (a:Addr) (m c:Nat) (news:List Value) (hl:news.length=m*size) (adx:∀j u,news[j]?=some u->w.cell? (a.add j)=some u) (h1:∀u∈news,u.oneCell'=true)
 (vH:n+m<=maxLen) (kS:∀old,old<n+m->Builtin.nextslicecap (n+m) old*bytes<=281474976710656) (de:aq<=w.heap.size):
 ∃v' w',(Builtin.append_ #[t,t] ty #[v,.slice (some a) m c]).run P w= .ok v' w'/\w'.ownsRow aq e size v' (n+m) (xs++news)/\w.grownBy w' v.ownBlock/\
  (v'.ownBlock=v.ownBlock\/v'.ownBlock=some w.heap.size):=by
 subst jE;subst pr;have ajD:n+m<=9223372036854775807:=by simp only[maxLen]at vH;omega
 have bU:(xs++news).length=(n+m)*i.size:=by rw[ax,bI.1,hl,qH]
 have grown:∀(old:Nat),old<n+m->∀(row:Option Nat),
  (w.drew.alloc (.cells (xs.toArray++news.toArray++Builtin.zeroCells z.cells (grownCap w (n+m) old e-(n+m))) e)).ownsRow aq e i.size
    (.slice (some ⟨w.heap.size,0,none⟩) (n+m) (grownCap w (n+m) old e)) (n+m) (xs++news)/\
  w.grownBy (w.drew.alloc (.cells (xs.toArray++news.toArray++Builtin.zeroCells z.cells (grownCap w (n+m) old e-(n+m))) e)) row:=by
  intro old ho row;have Ze:=qS w (n+m) old e;have hcm:grownCap w (n+m) old e<=maxLen:=grownCap_le_maxLen w (n+m) old e vH;refine⟨⟨bU,.inr ⟨w.heap.size,_,_,rfl,de,heap_alloc_new w.drew _,Ze,hcm,?_,?_⟩⟩,⟨rfl,rfl,rfl,by simp,λk hk _=>mS w.drew _ k hk⟩⟩
  ·simp only[Array.size_append,List.size_toArray,size_zeroCells,Ev,bI.1,hl,<-qH]
   grind
  grind
 rcases bI.2 with⟨rfl,rfl⟩|⟨g,aB,cur,rfl,IH,hg,wJ,hcm,hcs,aes⟩
 ·have hx:xs=[]:=by simp_all
  subst hx;by_cases hm:m=0
  ·subst hm;have hn:news=[]:=by grind
   subst hn;refine⟨.slice none 0 0,w,?_,(by grind),⟨rfl,rfl,rfl,(by omega),(by simp)⟩,(by simp)⟩;simp[Builtin.append_,gA ht,sizeOf,typeInfo,hi,Builtin.lenOf,Builtin.firstCells,loadCells,loadCellsFrom]
  ·have pL:=kS 0 (by omega);rw[nextslicecap_zero (by omega)]at pL;simp only[bZ]at pL;have hr:=run_append_nil (P:=P) w t ty e i z ht hi hz a m c news hl adx (by omega) (by omega) pL;have YA:=grown 0 (by omega) (Value.ownBlock (.slice none 0 0));simp only[bZ,aX,Array.empty_append]at YA|-
   exact⟨_,_,hr,YA.1,YA.2,Or.inr rfl⟩
 ·by_cases hroom:n+m<=aB
  ·have jn:n*i.size+news.length<=cur.size:=by rw[hl,hcs,<-qH];exact Nat.mul_le_mul_right _ hroom
   have hr:=run_append_room (P:=P) w t ty e i ht hi g n aB cur hg a m c news hl adx h1 hroom jn;refine⟨_,_,hr,⟨bU,.inr ⟨g,aB,_,rfl,IH,setRow_heap w g cur _ e _ hg,hroom,hcm,?_,?_⟩⟩,⟨rfl,rfl,rfl,by simp,λk _ hk=>setRow_other w g k _ (λe=>hk (by simp[Value.ownBlock,e]))⟩,Or.inl rfl⟩
   ·grind
   grind
  ·have holds:∀j u,xs[j]?=some u->w.cell? ((⟨g,0,none⟩:Addr).add j)=some u:=bI.cells (g:=g) rfl;have hr:=run_append_grow (P:=P) w t ty e i z ht hi hz ⟨g,0,none⟩ n aB xs bI.1 holds a m c news hl adx (by omega) (by omega) (by grind);have YA:=grown aB (by omega) (Value.ownBlock (.slice (some ⟨g,0,none⟩) n aB));exact⟨_,_,hr,YA.1,YA.2,Or.inr rfl⟩
theorem xt(aq:Nat)(t ty e:TypeId)(i:TypeInfo)(z:Value)(size bytes:Nat)(ht:P.underlying t=some (.slice e))(hi:P.info? e=some i)(hz:i.zero=some z)
 (jE:i.size=size) (pr:i.bytes=bytes) (Ev:z.cells.size=size) (hsz:0<size)
 (v:Value) (n:Nat) (xs:List Value) (bI:w.ownsRow aq e size v n xs)
 (A:Option Addr) (m c:Nat) (news:List Value) (hl:news.length=m*size) (hr:Src w A news) (h1:∀u∈news,u.oneCell'=true)
 (vH:n+m<=maxLen) (kS:∀old,old<n+m->Builtin.nextslicecap (n+m) old*bytes<=281474976710656) (de:aq<=w.heap.size):
 ∃v' w',(Builtin.append_ #[t,t] ty #[v,.slice A m c]).run P w= .ok v' w'/\w'.ownsRow aq e size v' (n+m) (xs++news)/\w.grownBy w' v.ownBlock/\
  (v'.ownBlock=v.ownBlock\/v'.ownBlock=some w.heap.size):=by
 rcases A with _|ad
 ·have hn:news=[]:=by
   rcases hr with h|⟨_,_,h,_⟩
   ·exact h
   grind
  subst hn;have hm:m=0:=by
   rcases Nat.eq_zero_or_pos m with h0|h0
   ·exact h0
   ·have:=Nat.mul_pos h0 hsz;grind
  subst hm;exact⟨v,w,DG w aq t ty e i size ht hi v n xs bI c,by grind,Bt w _,.inl rfl⟩
 ·have Cp:∀j u,news[j]?=some u->w.cell? (ad.add j)=some u:=by intro j u hu;obtain⟨b,off,h,hc⟩:=hr.dm j u hu;injection h with h;subst h;rw[nJ];exact hc
  exact Gp (P:=P) w aq t ty e i z size bytes ht hi hz jE pr Ev hsz v n xs bI ad m c news hl Cp h1 vH kS de
theorem j7(s x:Operand)(t:TypeId)
 (ho:o.op= .call {callee:= .builtin .append,args:= #[s,x],argTypes:= #[t,t]})
 (aq:Nat) (e:TypeId) (i:TypeInfo) (z:Value) (size bytes:Nat) (ht:P.underlying t=some (.slice e)) (hi:P.info? e=some i) (hz:i.zero=some z)
 (jE:i.size=size) (pr:i.bytes=bytes) (Ev:z.cells.size=size) (hsz:0<size)
 (v:Value) (n:Nat) (xs:List Value) (hs:a.eval s=v) (bI:w.ownsRow aq e size v n xs)
 (A:Option Addr) (m c:Nat) (news:List Value) (hx:a.eval x= .slice A m c) (hl:news.length=m*size) (hr:Src w A news) (h1:∀u∈news,u.oneCell'=true)
 (vH:n+m<=maxLen) (kS:∀old,old<n+m->Builtin.nextslicecap (n+m) old*bytes<=281474976710656) (de:aq<=w.heap.size)
 (h:∀v' w',w'.ownsRow aq e size v' (n+m) (xs++news)->w.grownBy w' v.ownBlock->(v'.ownBlock=v.ownBlock\/v'.ownBlock=some w.heap.size)->K (a.put o.dst v') w'):o.wp P a w K Q:=by
 obtain⟨v',w',hrun,h2,h3,h4⟩:=xt (P:=P) w aq t o.type e i z size bytes ht hi hz jE pr Ev hsz v n xs bI A m c news hl hr h1 vH kS de;unfold Oper.wp execOp;simp only[ho,resolve,invoke,builtin,iL,Sem.run_pure,oN,Cy,jf,qL,hs,hx,hrun];exact h v' w' h2 h3 h4
theorem cQ{rest:List Oper}(qO:o.guard=none)(s x:Operand)(t:TypeId)
 (ho:o.op= .call {callee:= .builtin .append,args:= #[s,x],argTypes:= #[t,t]})
 (aq:Nat) (e:TypeId) (i:TypeInfo) (z:Value) (size bytes:Nat) (ht:P.underlying t=some (.slice e)) (hi:P.info? e=some i) (hz:i.zero=some z)
 (jE:i.size=size) (pr:i.bytes=bytes) (Ev:z.cells.size=size) (hsz:0<size)
 (v:Value) (n:Nat) (xs:List Value) (hs:a.eval s=v) (bI:w.ownsRow aq e size v n xs)
 (A:Option Addr) (m c:Nat) (news:List Value) (hx:a.eval x= .slice A m c) (hl:news.length=m*size) (hr:Src w A news) (h1:∀u∈news,u.oneCell'=true)
 (vH:n+m<=maxLen) (kS:∀old,old<n+m->Builtin.nextslicecap (n+m) old*bytes<=281474976710656) (de:aq<=w.heap.size)
 (h:∀v' w',w'.ownsRow aq e size v' (n+m) (xs++news)->w.grownBy w' v.ownBlock->(v'.ownBlock=v.ownBlock\/v'.ownBlock=some w.heap.size)->wpList P ops Q rest (a.put o.dst v') w'):wpList P ops Q (o::rest) a w:=
 oS qO λ_ hK=>j7 w s x t ho aq e i z size bytes ht hi hz jE pr Ev hsz v n xs hs bI A m c news hx hl hr h1 vH kS de λv' w' h2 h3 h4=>hK _ _ (h v' w' h2 h3 h4)
theorem fY{E:Prop}(qO:o.guard=none)(s x:Operand)(t:TypeId)
 (ho:o.op= .call {callee:= .builtin .append,args:= #[s,x],argTypes:= #[t,t]})
 (aq:Nat) (e:TypeId) (i:TypeInfo) (z:Value) (size bytes:Nat) (ht:P.underlying t=some (.slice e)) (hi:P.info? e=some i) (hz:i.zero=some z)
 (jE:i.size=size) (pr:i.bytes=bytes) (Ev:z.cells.size=size) (hsz:0<size)
 (v:Value) (n:Nat) (xs:List Value) (hs:a.eval s=v) (bI:w.ownsRow aq e size v n xs)
 (A:Option Addr) (m c:Nat) (news:List Value) (hx:a.eval x= .slice A m c) (hl:news.length=m*size) (hr:Src w A news) (h1:∀u∈news,u.oneCell'=true)
 (vH:n+m<=maxLen) (kS:∀old,old<n+m->Builtin.nextslicecap (n+m) old*bytes<=281474976710656) (de:aq<=w.heap.size)
 (h:∀v' w',w'.ownsRow aq e size v' (n+m) (xs++news)->w.grownBy w' v.ownBlock->(v'.ownBlock=v.ownBlock\/v'.ownBlock=some w.heap.size)->K (a.put o.dst v') w'):
 if Region.wanted o (yielded ops a.tmps)=true then Oper.wp P o a w K Q else E:=by
 have hw:Region.wanted o (yielded ops a.tmps)=true:=by simp[Region.wanted,qO]
 rw[ah hw];exact j7 w s x t ho aq e i z size bytes ht hi hz jE pr Ev hsz v n xs hs bI A m c news hx hl hr h1 vH kS de h
end
namespace Pl
variable {n:Nat}
variable (ls:List (List UInt8)) (l:List UInt8)
def half(n:Nat):Nat:=2^Nat.log2 (n-1)
theorem nO(n:Nat):0<half n:=Nat.two_pow_pos _
theorem qf(h:2<=n):half n<n:=by have:=Nat.log2_self_le (n:=n-1) (by omega);unfold half;omega
theorem ahD{j:Nat}(h1:j=0\/2^j<n)(h2:n<=2*2^j)(hn:1<=n):2^j=half n:=by
 unfold half;congr 1;rcases eJ 1 n with h|h
 ·have hne:n-1≠0:=by omega
  have hj:2^j<=n-1:=by grind
  have hlt:n-1<2^(j+1):=by omega
  exact((Nat.log2_eq_iff hne).2 (by omega)).symm
 ·obtain rfl:n=1:=by omega
  simp_all
def root(ls:List (List UInt8)):Nat:=
 match ls with
 | []=>iZ []
 | [l]=>iZ (0::l)
 |a::b::r=>iZ (1::(be 4 (root ((a::b::r).take (half (r.length+2))))++be 4 (root ((a::b::r).drop (half (r.length+2))))))
termination_by ls.length
decreasing_by
 all_goals
  have h1:=nO (r.length+2);have h2:=qf (n:=r.length+2) (by omega)
  grind
theorem Qe:root []=iZ []:=by rw[root]
theorem tW:root [l]=iZ (0::l):=by rw[root]
theorem yi(h:2<=ls.length):root ls=iZ (1::(be 4 (root (ls.take (half ls.length)))++be 4 (root (ls.drop (half ls.length))))):=by
 match ls,h with
 |a::b::r,_=>rw[root];rfl
theorem kx:root ls<4294967291:=by
 match ls with
 | []=>rw[Qe];exact uV _
 | [l]=>rw[tW];exact uV _
 |a::b::r=>rw[yi _ (by simp)];exact uV _
def num:Nat:=l.foldl (λv c=>256*v+c.toNat) 0
theorem Te(a b c d:UInt8):num [a,b,c,d]=((a.toNat*256+b.toNat)*256+c.toNat)*256+d.toNat:=by simp[num];omega
theorem afW(a b c d:UInt8):be 4 (num [a,b,c,d])=[a,b,c,d]:=by
 have ha:=a.toNat_lt;have hb:=b.toNat_lt;have hc:=c.toNat_lt;have hd:=d.toNat_lt;rw[Te,show∀n,be 4 n=lh n fromλ_=>rfl,xQ];have e:∀(x:UInt8) (n:Nat),n%256=x.toNat->UInt8.ofNat n=x:=by intro x n h;apply uF.1;simp_all
 rw[e a _ (by omega),e b _ (by omega),e c _ (by omega),e d _ (by omega)]
def vG:Nat:=num ((l++ [0,0,0,0]).take 4)
theorem aif:∃a b c d,(l++ [0,0,0,0]).take 4=[a,b,c,d]:=by
 match l with
 | []=>simp
 | [_]=>simp
 | [_,_]=>simp
 | [_,_,_]=>simp
 |a::b::c::d::r=>simp
theorem ZX:be 4 (vG l)=(l++ [0,0,0,0]).take 4:=by obtain⟨a,b,c,d,h⟩:=aif l;rw[vG,h,afW]
theorem aaQ:vG l<4294967296:=by obtain⟨a,b,c,d,h⟩:=aif l;have ha:=a.toNat_lt;have hb:=b.toNat_lt;have hc:=c.toNat_lt;have hd:=d.toNat_lt;rw[vG,h,Te];omega
end Pl
variable {w:World} {A:Option Addr} {l:List UInt8} {ls:List (List UInt8)} {B g:Nat} {t:TypeId} {a0 a1 a2 a3:Value}
variable (n a b:Nat)
theorem aw.src(h:aw w A l):Src w A (bv l):=by
 rcases h with rfl|⟨b,off,rfl,h⟩
 ·exact .inl rfl
 ·refine .inr ⟨b,off,rfl,λj u hu=>?_⟩;have hj:j<l.length:=by
   rcases eJ j l.length with h'|h'
   ·exact h'
   simp_all
  rw[aiy l j hj]at hu
  grind
theorem Src.bytes(h:Src w A (bv l)):aw w A l:=by
 rcases h with h|⟨b,off,rfl,h⟩
 ·left;have:=congrArg List.length h;simp at this
  grind
 ·exact .inr ⟨b,off,rfl,λi hi=>h i _ (aiy l i hi)⟩
theorem aw.bQ{w':World}(h:aw w A l)(hb:Below w.heap.size w w'):aw w' A l:=(h.src.aa hb).bytes
theorem agf(e:TypeId)(x:Value):(w.alloc (.cells #[x] e)).ownsRow w.heap.size e 1 (.slice (some ⟨w.heap.size,0,none⟩) 1 1) 1 [x]:=
 ⟨rfl,.inr ⟨w.heap.size,1,#[x],rfl,(by omega),heap_alloc_new w _,(by omega),by simp[maxLen],rfl,rfl⟩⟩
theorem iK{n m:Nat}(h:n+m<=140737488355328):∀old,old<n+m->Builtin.nextslicecap (n+m) old*1<=281474976710656:=by intro old ho;exact growslice_fits ho (by omega)
theorem Mb(A:Option Addr)(aB:Nat)(l:List UInt8)(w:World)(hb:aw w A l)(hm:l.length<=140737488351232):
 Calls Tryz.prog 253 #[.slice A l.length aB] w λe w'=>∃A' cap',e= .returned (.slice A' (l.length+1) cap')/\aw w' A' (0::l)/\Below w.heap.size w w'/\l.length+1<=cap'/\∀p,A'=some p->w.heap.size<=p.block/\p.block<w'.heap.size:=by
 obtain⟨i0,hi,nQ,kK,mY⟩:=bV Tryz.jm;have hs:=(hb.bQ (w':=w.alloc (.cells #[.int .u8 0] 5)) ((ak _ _).alloc (ai _) _)).src;go_enter Tryz.func253,Tryz.ntmps253;go_wp2_with (at_builtin;refine cQ _ rfl _ _ 29 rfl w.heap.size 5 i0 (.int .u8 0) 1 1 Tryz.underlying29 hi nQ kK mY rfl (by decide) _ 1 [.int .u8 0] rfl (agf _ _) A l.length aB (bv l) rfl (by simp) hs (Pf _) (by simp only[maxLen];omega) (iK (by omega)) (by simp) ?_;intro v' w1 bI ams yT);obtain⟨A1,yL,rfl,fo,tX,yT⟩:=bJ bI;have hlt:=Lib.hid (λp hp=>bI.lt _ (yT p hp));have X5:Hid (l.length+1<=yL):=by rw[Hid];omega
 clear fo;go_wp2;go_ret;refine⟨A1,yL,by simp[Nat.add_comm],Src.bytes (by simpa [bv] using tX),((ak _ _).alloc (ai _) _).grown ams (by simp) (λk hk=>?_),X5,hlt⟩;cases hk;exact ai _
theorem aeW(A:Option Addr)(aB:Nat)(l:List UInt8)(w:World)(hb:aw w A l)(hm:l.length<=140737488351232):
 Calls Tryz.prog 253 #[.slice A l.length aB] w λe w'=>∃A' cap',e= .returned (.slice A' (l.length+1) cap')/\aw w' A' (0::l)/\Below w.heap.size w w':=
 (Mb A aB l w hb hm).mono (by simp_all)
theorem Q3(w:World)(h1:1<=n)(h2:n<=4611686018427387903):
 Calls Tryz.prog 249 #[.int .i64 (n:Int)] w λe w'=>e= .returned (.int .i64 (Pl.half n:Nat))/\w=w':=by
 go_enter Tryz.func249,Tryz.ntmps249;go_wp2
 go_loop [3] (λi=>∃j k:Nat,Hid (2^j=k)/\i= .int .i64 (k:Int)/\1<=k/\k<=n/\(j=0\/k<n)) (λi=>n-(intOf i).toNat)
 case atStart=>exact⟨0,1,rfl,rfl,by omega,h1,.inl rfl⟩
 case round=>
  obtain⟨j,k,HK,rfl,rP,pX,hj⟩:=hrel;by_cases hlt:2*k<n
  ·go_wp2
   go_round
   case rel=>exact⟨j+1,2*k,by rw[Hid,Nat.pow_succ,HK.out,Nat.mul_comm],by go_num,by omega,by omega,.inr hlt⟩
   case measure=>simp[intOf];omega
  ·have hh:Hid (k=Pl.half n):=by
    have hx:=HK.out;rw[<-hx]at hlt pX hj|-
    exact Pl.ahD (by rcases hj with h|h;exact .inl h;exact .inr h) (by omega) h1
   go_wp2;go_ret;exact⟨by rw[<-hh.out];rfl,rfl⟩
def hc:List Value:=[.int .u8 ((n:Int)/16777216),.int .u8 ((n:Int)/65536%256),.int .u8 ((n:Int)/256%256),.int .u8 ((n:Int)%256)]
theorem CT(hn:n<4294967296):bv (Pl.be 4 n)=hc n:=by have:=Pl.xQ n;unfold Pl.lh at this;rw[this];simp[bv,hc];omega
theorem JR:∀v∈hc n,v.oneCell'=true:=by intro v hv;simp[hc]at hv;rcases hv with rfl|rfl|rfl|rfl<;>rfl
theorem aah(aq n:Nat)(e:TypeId)(x:Value)(hn:n=w.heap.size)(hb:aq<=n):(w.alloc (.cells #[x] e)).ownsRow aq e 1 (.slice (some ⟨n,0,none⟩) 1 1) 1 [x]:=by subst hn;exact⟨rfl,.inr ⟨w.heap.size,1,#[x],rfl,hb,heap_alloc_new w _,zo,by simp[maxLen],rfl,rfl⟩⟩
theorem MD(w:World)(ha:a<4294967296)(hb:b<4294967296):
 bG 254 #[bM a,bM b] w λe w'=>∃A' cap',e= .returned (.slice A' 9 cap')/\aw w' A' (1::(Pl.be 4 a++Pl.be 4 b))/\dP w w'/\9<=cap'/\∀p,A'=some p->w.heap.size<=p.block/\p.block<w'.heap.size:=by
 obtain⟨i0,hi,nQ,kK,mY⟩:=bV Tryz.jm;have yH:=CT a ha;have dM:=CT b hb;have B1:ay ((w.alloc (.cells (hc a).toArray 80)).alloc (.cells (hc b).toArray 80)) w.heap.size 80 (hc a):=(ay.new _ _ _).alloc _;have B2:ay ((w.alloc (.cells (hc a).toArray 80)).alloc (.cells (hc b).toArray 80)) (w.heap.size+1) 80 (hc b):=ay.newAt _ _ _ _ zu;have S1:=Src.dE (B1.alloc (.cells #[.int .u8 1] 5));have B3:=B2.alloc (.cells #[.int .u8 1] 5);have aql:=aah (w:=(w.alloc (.cells (hc a).toArray 80)).alloc (.cells (hc b).toArray 80)) w.heap.size (w.heap.size+1+1) 5 (.int .u8 1) zu zo;clear B1 B2;go_enter Tryz.func254,Tryz.ntmps254;go_wp2_with (first
  |(at_builtin
    refine cQ _ rfl (.tmp 6) (.tmp 7) 29 rfl w.heap.size 5 i0 (.int .u8 0) 1 1 Tryz.underlying29 hi nQ kK mY rfl zj (.slice (some ⟨w.heap.size+1+1,0,none⟩) 1 1) 1 [.int .u8 1] rfl aql (some ⟨w.heap.size,0,none⟩) 4 4 (hc a) rfl rfl S1 (JR a) (by simp only[maxLen];omega) (iK zo) (by simp;omega) ?_;intro v1 w1 mU nY asN;have S2:=zi (Src.dE (B3.grown nY (by simp[Value.ownBlock])));have Rn:=nY.size)
  |(at_builtin
    refine cQ _ rfl (.tmp 9) (.tmp 10) 29 rfl w.heap.size 5 i0 (.int .u8 0) 1 1 Tryz.underlying29 hi nQ kK mY rfl zj v1 5 _ rfl mU (some ⟨w.heap.size+1,0,none⟩) 4 4 (hc b) rfl rfl S2 (JR b) (by simp only[maxLen];omega) (iK zo) (by simp at Rn;omega) ?_;intro v2 w2 ee rQ Fk))
 obtain⟨A1,yL,rfl,fo,tX,yT⟩:=bJ ee;obtain⟨hlt,X5⟩:=dz (λp hp=>ee.lt _ (yT p hp)) fo;go_wp2;go_ret;refine⟨A1,yL,zu,Src.bytes ?_,?_,X5,hlt⟩
 ·have:bv (1::(Pl.be 4 a++Pl.be 4 b))=[.int .u8 1]++hc a++hc b:=by rw[<-yH,<-dM];simp[bv]
  rw[this];exact tX
 ·have h1:Below w.heap.size w w1:=(((za _ _).alloc zu _).alloc (by simp;omega) _).grown nY (by simp;omega) (λk hk=>by cases hk;simp;omega);refine h1.grown rQ h1.size (λk hk=>?_);rcases asN with e|e
  ·rw[e]at hk;cases hk;simp;omega
  ·rw[e]at hk;cases hk;simp;omega
theorem acp(w:World)(ha:a<4294967296)(hb:b<4294967296):
 bG 254 #[bM a,bM b] w λe w'=>∃A' cap',e= .returned (.slice A' 9 cap')/\aw w' A' (1::(Pl.be 4 a++Pl.be 4 b))/\dP w w':=
 (MD a b w ha hb).mono zS
def BB(w:World)(A:Option Addr)(ls:List (List UInt8)):Prop:=
 ls=[]\/∃b off,A=some ⟨b,off,none⟩/\∀(i:Nat) l,ls[i]?=some l->l.length<=140737488351232/\∃A' aB,l.length<=aB/\w.cell? ⟨b,off+i,none⟩=some (.slice A' l.length aB)/\aw w A' l
theorem BB.bQ{w w':World}{A:Option Addr}{ls:List (List UInt8)}(h:BB w A ls)(hb:dP w w'):BB w' A ls:=by
 rcases h with h|⟨b,off,rfl,h⟩
 ·exact .inl h
 ·refine .inr ⟨b,off,rfl,λi l hl=>?_⟩;obtain⟨h1,A',aB,h2,h3,h4⟩:=h i l hl;exact⟨h1,A',aB,h2,bW hb _ _ h3,h4.bQ hb⟩
theorem BB.take(h:BB w A ls)(k:Nat):BB w A (ls.take k):=by
 rcases h with rfl|⟨b,off,rfl,h⟩
 ·exact .inl zu
 ·refine .inr ⟨b,off,rfl,λi l hl=>?_⟩;rw[AZ]at hl;split at hl
  ·exact h i l hl
  ·cases hl
theorem BB.drop{b off:Nat}(h:BB w (some ⟨b,off,none⟩) ls)(k:Nat):BB w (some ⟨b,off+k,none⟩) (ls.drop k):=by
 rcases h with rfl|⟨b',Lb,e,h⟩
 ·exact .inl zu
 ·cases e;refine .inr ⟨_,_,rfl,λi l hl=>?_⟩;rw[lO]at hl;rw[ew];exact h _ l hl
theorem BB.addr(h:BB w A ls)(hn:0<ls.length):∃b off,A=some ⟨b,off,none⟩:=by
 rcases h with rfl|⟨b,off,rfl,_⟩
 ·grind
 simp
theorem BB.dm{w:World}{b off:Nat}{ls:List (List UInt8)}(h:BB w (some ⟨b,off,none⟩) ls)(i:Nat)(l:List UInt8)(hl:ls[i]?=some l):
 l.length<=140737488351232/\∃A' aB,l.length<=aB/\w.cell? ⟨b,off+i,none⟩=some (.slice A' l.length aB)/\aw w A' l:=by
 rcases h with rfl|⟨b',Lb,e,h⟩
 ·grind
 grind
theorem im{a:World}(h:Below B a.drew w):Below B a w:=⟨h.os,h.tape,h.output,h.size,h.block⟩
theorem abb(w:World):aw w none []:= .inl rfl
theorem ay.R0(h:ay w g t [a0,a1,a2,a3])(x0 x1 x2 x3:Value):
 ay ((((w.setCell ⟨g,0,none⟩ x0).setCell ⟨g,1,none⟩ x1).setCell ⟨g,2,none⟩ x2).setCell ⟨g,3,none⟩ x3) g t [x0,x1,x2,x3]:=
 (((h.bw 0 x0).bw 1 x1).bw 2 x2).bw 3 x3
theorem rC{a:World}(h:Below B a w)(hg:B<=g)(x0 x1 x2 x3:Value):
 Below B a ((((w.setCell ⟨g,0,none⟩ x0).setCell ⟨g,1,none⟩ x1).setCell ⟨g,2,none⟩ x2).setCell ⟨g,3,none⟩ x3):=
 (((h.setCell hg x0).setCell hg x1).setCell hg x2).setCell hg x3
theorem CN(w:World)(g n:Nat)(h:ay w g 80 (hc n)):(loadVar 80 ⟨g,0,none⟩).run Tryz.prog w= .ok (bM n) w:=by have c0:=h.cell 0;have c1:=h.cell 1;have c2:=h.cell 2;have c3:=h.cell 3;simp only[hc,aL,au]at c0 c1 c2 c3;simp[go_sem,c0,c1,c2,c3,bM]
theorem nD{fn:Func}{t:Tmp}{tmps:Array Value}{n:Nat}(h:fn.results= #[.cell t 80])(ht:tmps.getD t undef= .pointer (some ⟨g,0,none⟩))(hB:ay w g 80 (hc n)):
 (results fn tmps).run Tryz.prog w= .ok (bM n) w:=by
 have hl:=CN w g n hB;simp only[fF]at ht;simp[results,h,ht,hl,asAddr]
theorem Zm(A:Option Addr)(aB:Nat)(w:World):
 bG 250 #[.slice A 0 aB] w λe w'=>e= .returned (bM (Pl.root []))/\dP w w':=by
 rw[Pl.Qe];go_enter Tryz.func250,Tryz.ntmps250;go_wp2_with fail;refine(DB none 0 [] _ (abb _) zu).mono ?_;rintro e w1 ⟨rfl,aI⟩;unfold bM;have B:=(ay.new w 80 [.int .u8 0,.int .u8 0,.int .u8 0,.int .u8 0]).aa aI zu;have c0:=B.cell 0;have c1:=B.cell 1;have c2:=B.cell 2;have c3:=B.cell 3;have f0:=B.frozen 0;have f1:=B.frozen 1;have f2:=B.frozen 2;have f3:=B.frozen 3;simp only[aL,au]at c0 c1 c2 c3;go_wp2_with fail;refine bH (v:=bM (Pl.iZ [])) (nD rfl rfl (B.R0 _ _ _ _)) rfl ⟨rfl,?_⟩;exact rC ((za _ _).trans (aI.mono zu)) (ai _) _ _ _ _
theorem eh(h:ay w g t [a0,a1,a2,a3]):
 w.cell? ⟨g,0,none⟩=some a0/\w.cell? ⟨g,1,none⟩=some a1/\w.cell? ⟨g,2,none⟩=some a2/\w.cell? ⟨g,3,none⟩=some a3/\
 w.frozen? ⟨g,0,none⟩=false/\w.frozen? ⟨g,1,none⟩=false/\w.frozen? ⟨g,2,none⟩=false/\w.frozen? ⟨g,3,none⟩=false:=
 ⟨h.cell 0,h.cell 1,h.cell 2,h.cell 3,h.frozen 0,h.frozen 1,h.frozen 2,h.frozen 3⟩
theorem ay.afa(w:World):ay (w.alloc (.cells #[.int .u8 0,.int .u8 0,.int .u8 0,.int .u8 0] 80)) w.heap.size 80 [.int .u8 0,.int .u8 0,.int .u8 0,.int .u8 0]:=ay.new w _ _
theorem SZ(l:List UInt8)(b off aB:Nat)(w:World)(hb:BB w (some ⟨b,off,none⟩) [l]):
 bG 250 #[.slice (some ⟨b,off,none⟩) 1 aB] w λe w'=>e= .returned (bM (Pl.root [l]))/\dP w w':=by
 rw[Pl.tW];obtain⟨hl,A',cap',fo,hc,tA⟩:=hb.dm 0 l rfl;have hlt:=dC _ _ hc;simp only[cI]at hc;have ana:=tA.bQ (w':=w.alloc (.cells #[.int .u8 0,.int .u8 0,.int .u8 0,.int .u8 0] 80)) (za _ _);go_enter Tryz.func250,Tryz.ntmps250;go_wp2_with fail;refine(aeW A' cap' l _ ana hl).mono ?_;rintro e w1 ⟨A2,fC,rfl,bz,tK⟩;go_wp2_with fail;refine(DB A2 fC (0::l) _ bz (by simp;omega)).mono ?_;rintro e w2 ⟨rfl,tI⟩;unfold bM;have hB:=(((ay.afa w).aa tK zu).aa tI (by have:=tK.size;simp at this;omega));have H:Below w.heap.size w w2:=((za _ _).trans (tK.mono zu)).trans (tI.mono (by have:=tK.size;simp at this;omega));obtain⟨c0,c1,c2,c3,f0,f1,f2,f3⟩:=eh hB;clear tK tI ana tA hb bz;go_wp2_with fail;refine bH (v:=bM (Pl.iZ (0::l))) (nD rfl rfl (hB.R0 _ _ _ _)) rfl ⟨rfl,?_⟩;exact rC H (ai _) _ _ _ _
theorem ZO(w w1 w2 w3 w4:World)(o:Obj)(h1:Below (w.alloc o).heap.size (w.alloc o) w1)(h2:dP w1 w2)(h3:dP w2 w3)(h4:dP w3 w4):
 Below (w.alloc o).heap.size (w.alloc o) w4/\dP w w4:=by
 have h12:=h1.trans (h2.mono h1.size);have h13:=h12.trans (h3.mono h12.size);have h14:=h13.trans (h4.mono h13.size);exact⟨h14,((ak _ _).alloc zo _).trans (h14.mono zu)⟩
theorem aam(ls:List (List UInt8))(b off aB:Nat)(w:World)(hn:2<=ls.length)(hb:BB w (some ⟨b,off,none⟩) ls)(hc:ls.length<=aB)(hm:ls.length<=4611686018427387903)
 (ih:∀(ls':List (List UInt8)) (A:Option Addr) (aB:Nat) (w:World),ls'.length<ls.length->BB w A ls'->ls'.length<=aB->
   bG 250 #[.slice A ls'.length aB] w λe w'=>e= .returned (bM (Pl.root ls'))/\dP w w'):
 bG 250 #[.slice (some ⟨b,off,none⟩) ls.length aB] w λe w'=>e= .returned (bM (Pl.root ls))/\dP w w':=by
 rw[Pl.yi ls hn];obtain⟨k,hk⟩:=ze (Pl.half ls.length);have rP:=Pl.nO ls.length;have pK:=Pl.qf hn;rw[hk]at rP pK|-
 have hT:∀W,BB W (some ⟨b,off,none⟩) (ls.take k)->bG 250 #[.slice (some ⟨b,off,none⟩) k aB] W λe w'=>e= .returned (bM (Pl.root (ls.take k)))/\Below W.heap.size W w':=by intro W hW;have:=ih (ls.take k) (some ⟨b,off,none⟩) aB W (by simp;omega) hW (by simp;omega);rwa [aP,dt (iG pK)]at this
 have hD:∀W,BB W (some ⟨b,off+k,none⟩) (ls.drop k)->bG 250 #[.slice (some ⟨b,off+k,none⟩) (ls.length-k) (aB-k)] W λe w'=>e= .returned (bM (Pl.root (ls.drop k)))/\Below W.heap.size W w':=by intro W hW;have:=ih (ls.drop k) (some ⟨b,off+k,none⟩) (aB-k) W (by simp;omega) hW (by simp;omega);rwa [bT]at this
 obtain⟨ht,hd,HT,HD,HK⟩:=OW (hb.take k) (hb.drop k) hT hD hk;obtain⟨n,wM⟩:=ze ls.length;rw[wM]at hn hc hm pK|-
 have HN:=zi wM;have q0:((n:Int)==0)=false:=by simp;omega
 have q1:((n:Int)==1)=false:=by simp;omega
 clear hT hD hk ih hb wM;go_enter Tryz.func250,Tryz.ntmps250;go_wp2_with fail;refine(Q3 n _ zo zo).mono ?_;rintro e w' ⟨rfl,rfl⟩;rw[<-HN.out,HK.out];obtain⟨TN,vT,hB0⟩:=kt (ht.out.bQ (w':=w.alloc (.cells #[.int .u8 0,.int .u8 0,.int .u8 0,.int .u8 0] 80)) (za _ _)) (hd.out.bQ (w':=w.alloc (.cells #[.int .u8 0,.int .u8 0,.int .u8 0,.int .u8 0] 80)) (za _ _)) (ay.afa w);have hlt:k<aB:=zA HN.out;have hlc:ls.length<=aB:=zA HN.out;have Sa:k<=ls.length:=zA HN.out;have hx0:(0:Int)<=(k:Int):=zo;have vL:(k:Int)<=(aB:Int):=zo;have qG:(k:Int)<=(ls.length:Int):=zo;have hx3:¬aB=k:=zo;have LR:=Pl.kx (ls.take k);have Mg:=Pl.kx (ls.drop k);go_wp2_with fail
 go_region_held3 (λ_=>True) (trivial) (first
  |(go_at_call 250;(with_reducible refine(HT.out _ ?_).mono ?_);exact TN.out;rintro e w1 ⟨rfl,aeh⟩;have aI:=im aeh)
  |(go_at_call 250;(with_reducible refine(HD.out _ ?_).mono ?_);exact vT.out.bQ aI;rintro e w2 ⟨rfl,bz⟩)
  |(go_at_call 254;refine(acp _ _ _ zo zo).mono ?_;rintro e w3 ⟨A3,mL,rfl,bg,vV⟩)
  |(go_at_call 59;refine(DB _ _ (1::(Pl.be 4 (Pl.root (ls.take k))++Pl.be 4 (Pl.root (ls.drop k)))) _ bg (by simp[Pl.aG])).mono ?_;rintro e w4 ⟨rfl,MA⟩
    have fj:=ZO w w1 w2 w3 w4 _ aI bz vV MA;have Lf:=hB0.out.aa fj.1 zu;obtain⟨c0,c1,c2,c3,f0,f1,f2,f3⟩:=eh Lf;obtain⟨hB',anr⟩:=dz Lf fj.2;clear Lf fj aI aeh bz vV MA bg;unfold bM))
 go_wp2;refine bH (v:=bM (Pl.iZ (1::(Pl.be 4 (Pl.root (ls.take k))++Pl.be 4 (Pl.root (ls.drop k)))))) (nD rfl rfl (hB'.out.R0 _ _ _ _)) rfl ⟨rfl,?_⟩;exact rC anr.out (ai _) _ _ _ _
theorem DR:∀(ls:List (List UInt8)) (A:Option Addr) (aB:Nat) (w:World),ls.length<=n->BB w A ls->ls.length<=aB->ls.length<=4611686018427387903->
 bG 250 #[.slice A ls.length aB] w λe w'=>e= .returned (bM (Pl.root ls))/\dP w w':=by
 induction n with
 |zero=>intro ls A aB w hn hb hc hm;obtain rfl:ls=[]:=zw;exact Zm A aB w
 |succ n ih=>
  intro ls A aB w hn hb hc hm
  match ls,hn,hb,hc,hm with
  | [],_,_,_,_=>grind
  | [l],_,hb,_,_=>obtain⟨b,off,rfl⟩:=hb.addr zu;exact SZ l b off aB w hb
  |x::y::r,hn,hb,hc,hm=>obtain⟨b,off,rfl⟩:=hb.addr zu;exact aam (x::y::r) b off aB w zu hb hc hm zw
theorem aaS(l:List UInt8):bv (l.take (Nat.min l.length 4))++List.drop (0+Nat.min l.length 4) [.int .u8 0,.int .u8 0,.int .u8 0,.int .u8 0]=hc (Pl.vG l):=by
 rw[<-CT _ (Pl.aaQ l),Pl.ZX]
 match l with
 | []=>rfl
 | [_]=>rfl
 | [_,_]=>rfl
 | [_,_,_]=>rfl
 |a::b::c::d::r=>simp
def wX:ByteArray:=⟨(Pl.lh n).toArray⟩
theorem aac:(wX n).data.toList=Pl.be 4 n:=rfl
theorem aaH:(wX n).size=4:=by show(Pl.lh n).toArray.size=4;simp[Pl.lh,Pl.aG]
theorem Src.addr{cs:List Value}(h:Src w A cs)(hn:0<cs.length):∃b off,A=some ⟨b,off,none⟩:=by
 rcases h with rfl|⟨b,off,rfl,_⟩
 ·grind
 simp
theorem Src.cell{w:World}{b off:Nat}{cs:List Value}(h:Src w (some ⟨b,off,none⟩) cs)(j:Nat)(u:Value)(hu:cs[j]?=some u):w.cell? ⟨b,off+j,none⟩=some u:=by
 obtain⟨b',Lb,e,hc⟩:=h.dm j u hu
 grind
section
variable {H:Type} {enc:TypeId×Value->H} {P:Program} {W W':World}
theorem Ma(hl:laidOutB P=true)(hb:dP W W'):∀(ts:List TypeId) (vs:List Value) (ds:List (DataW H)) (ps:List MemPlace),(∀t∈ts,P.readableRec t=true/\t<P.types.size)->
 DataW.TrodAll enc P W 0 (λ_=>true) true ts vs ds ps->(∀x∈ps,x.block<W.heap.size)->DataW.TrodAll enc P W' 0 (λb=>decide (b<W.heap.size)) true ts vs ds ps
 | [],vs,ds,ps,_,h,_=>by obtain⟨rfl,rfl,rfl⟩:=trodAll_nil h;exact trodAll_mk0
 |t::ts,vs,ds,ps,hr,h,hlt=>by obtain⟨v,gj,d,ds',p,q,rfl,rfl,rfl,hd,jy⟩:=trodAll_cons h;have h1:=hr t zu;exact trodAll_cons_mk (Below.trod hl h1.1 h1.2 hd hb zS) (Ma hl hb ts gj ds' q zw jy zS)
end
namespace Pl
theorem ajQ(s x j:Nat)(h:j<s):(be s x)[j]?=some (UInt8.ofNat (x/256^(s-1-j))):=by
 induction s generalizing j with
 |zero=>omega
 |succ s ih=>
  match j with
  |0=>simp[be]
  |j+1=>
   rw[be,aL,ih j zo]
   grind
theorem Nk(s x j:Nat)(h:j<s):(be s x).take (j+1)=(be s x).take j++ [UInt8.ofNat (x/256^(s-1-j))]:=by
 have hl:j<(be s x).length:=by rw[aG];exact h
 rw[Bi hl];have:=ajQ s x j h
 grind
def header(b h r:Nat):List UInt8:=66::(be 4 b++be 4 h++be 4 r)
theorem eZ(b h r:Nat):(header b h r).length=13:=by simp[header,aG]
end Pl
namespace Pl
variable (l:List UInt8) (k:Nat)
def entry(n:Nat)(time:List UInt8)(ops r:Nat):List UInt8:=be 4 n++time++ [UInt8.ofNat ops]++be 4 r
theorem Qz{P:List UInt8->Prop}(h0:P [])(h1:∀l c,P l->P (l++ [c]))(l:List UInt8):P l:=by
 have h:∀r:List UInt8,P r.reverse:=by
  intro r
  induction r with
  |nil=>exact h0
  |cons c r ih=>grind
 simpa using h l.reverse
theorem wU(c:UInt8):num (l++ [c])=256*num l+c.toNat:=by simp[num]
theorem Cj:num l<256^l.length:=by refine Qz (P:=λl=>num l<256^l.length) (by simp[num]) (λl c ih=>?_) l;rw[wU,ax,dy,Nat.pow_succ];have:=c.toNat_lt;omega
theorem eN:num (l.take k)<256^k:=
 aK (Cj _) (jG zj zw)
theorem XA(v:Nat):be (k+1) v=be k (v/256)++ [UInt8.ofNat v]:=by
 induction k generalizing v with
 |zero=>simp[be]
 |succ k ih=>rw[be,ih v,be,eu];congr 2;rw[Nat.div_div_eq_div_mul,Nat.pow_succ,Nat.mul_comm]
theorem Vf:be l.length (num l)=l:=by refine Qz (P:=λl=>be l.length (num l)=l) rfl (λl c ih=>?_) l;rw[ax,dy,XA,wU];have:=c.toNat_lt;rw[show(256*num l+c.toNat)/256=num l by omega,ih];simp
end Pl
end Go.Proofs.YtbhpofdafhahgaaGreatDoor
