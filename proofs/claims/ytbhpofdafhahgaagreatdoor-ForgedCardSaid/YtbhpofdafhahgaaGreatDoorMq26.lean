/- Part 26: CrX CrW DyV DyW DyX DyY PlA PlB PlC PlD PlE FgB. -/
import Derived.Test.YtbhpofdafhahgaaGreatDoorMq11
import Derived.Test.YtbhpofdafhahgaaGreatDoorMq25
set_option linter.all false
set_option maxHeartbeats 8000000
set_option maxRecDepth 100000
namespace Go.Proofs.YtbhpofdafhahgaaGreatDoor
open Go.RowKit Go.Maps Go.WideMaps
variable [Inhabited eH]
variable {a:Value}
variable (gT g first:Nat) (V:ia) (v vD op:Value) (ms:List (Nat×List Pl.Pr)) (n go B:Nat) (time:Int) (r g2 jX:Nat) (os:List Pl.jb) (l nm:List UInt8) (w:World) (e:Ending) (w':World) (d:Pl.Dk) (rd:Int) (s:Pl.ST 0) (aA:Nat)
def uQ:Pl.Dk:=(d.change (.wr (first+2) (Pl.eV []))).change .sy
theorem aol(bl:Nat)(m:Tm)(vD:Value)(d:Pl.Dk)(rd:Int)(w:World)(hT:ny w gT m)(hms:m.saved=none)(hmq:m.seq=0)(hmr:m.root=r)(hd:aJ w m.g vD d rd)(hl:d.aW<0)(hn:16<=m.n)(mV:m.n<=4096)(hf:m.first+m.n<=d.aV.length)
 (hr:cX w r 0 (fR bl)) (rJ:fZ w bl []) (zrr:Zn r) (zT:Zn gT) (J0:∀k,dF m.g vD k->Zn k) (hlw:LO<=w.heap.size) (yR:pz w):
 bG 204 #[.pointer (some ⟨gT,0,none⟩)] w λe w'=>e= .returned (.tuple #[])/\qw jc w w'/\Gk w w'/\aJ w' m.g vD (((uQ m.first d).change (.wr (m.first+1) (jI 1 2 (Pl.fc m.n [2])))).change .sy) rd:=by
 have hmm:= @run_makeMap Tryz.prog;obtain⟨gt,Ub⟩:=ze w.heap.size;obtain⟨w1,dj⟩:=ze (w.alloc (.cells #[.pointer (some ⟨gT,0,none⟩)] 140));obtain⟨b,hb⟩:=ze w1.heap.size;obtain⟨w2,iA⟩:=ze (w1.alloc (.map #[] 0));obtain⟨gu,hgu⟩:=ze w2.heap.size;obtain⟨w3,fX⟩:=ze (w2.alloc (.cells #[.map (some b)] 365));obtain⟨gx,hgx⟩:=ze w3.heap.size;obtain⟨w4,qz⟩:=ze (w3.alloc (.cells #[.int .i64 2] 3));have aI:=zb dj;have bz:=zb iA;have bg:=zb fX;have cj:=zb qz;have B1:=zB dj Ub;have U2:eW w2 b 0 []:=by rw[<-iA,<-hb];exact eW.made w1
 have B3:=zB fX hgu;have BX:=zB qz hgx;have jv:=aI.trans ((bz.trans (bg.mono bz.size)).mono aI.size);have mN:=jv.trans (cj.mono jv.size);have Pq:Below w4.heap.size w4 w4.drew:=(ak _ _).drew;have adJ:=mN.trans (Pq.mono mN.size);have BT3:=B1.aa (bz.trans (bg.mono bz.size)) B1.lt;have U4:eW w4.drew b 0 []:=U2.sp (ag.ae ((bg.trans (cj.mono bg.size)).trans (Pq.mono (bg.trans (cj.mono bg.size)).size)) (λ_=>False)) id;have BT4:=BT3.aa cj BT3.lt;have c0:=BT3.cell 0;have c1:=B3.cell 0;simp only[au]at c0 c1;have c4:w3.cell? ⟨gT,4,none⟩=some (.pointer none):=by have:=(hT.aa jv hT.lt).cell 4;rw[GK,hms]at this;exact this
 have XV:=hT.aa mN hT.lt;have abG:=agy gT gu gx gt b r bl 2 m vD d rd w4.drew (XV.aa Pq XV.lt) (hd.aa adJ) hl hf zo mV (hr.aa adJ hr.lt) (rJ.aa adJ) ((B3.aa cj B3.lt).aa Pq (B3.aa cj B3.lt).lt) (BX.aa Pq BX.lt) (BT4.aa Pq BT4.lt) U4 zrr (by rw[<-hgx];exact .inl (ao hlw jv.size)) J0;unfold dJ at abG;have C4:Hid (w4.cell? ⟨gT,3,none⟩=some (.pointer (some ⟨r,0,none⟩))):=by rw[Hid,<-hmr];exact XV.cell 3
 have D4:Hid (w4.cell? ⟨gt,0,none⟩=some (.pointer (some ⟨gT,0,none⟩))):=BT4.cell 0;obtain⟨alJ,aoc,F0,aoZ,HEV,HLW,HMQ,HMR⟩:=zh8 abG adJ (XV.aa Pq XV.lt) (BT4.aa Pq BT4.lt) yR hlw hmq hmr;have c30:=C4.out;have d40:=D4.out;clear hT hms hmq hmr hd hr rJ hlw yR aI bz bg cj B1 U2 B3 BX jv mN Pq adJ BT3 U4 BT4 XV abG;go_enter Tryz.func204,Tryz.ntmps204;go_wp2_with fail;clear c30 d40;refine aN 6 (λW=>W.cell? ⟨gT,3,none⟩=some (.pointer (some ⟨r,0,none⟩))) (λW=>W.cell? ⟨gt,0,none⟩=some (.pointer (some ⟨gT,0,none⟩))) zp C4.out D4.out (λaz=>?_);refine zt 0 (h:=zt 1 (h:=zt 2 (h:=zt 3 (h:=zl 4 (h:=zt 5 (h:=?_))))));refine zr 6 λK hK=>?_;go_simp;refine alJ.out.mono ?_;rintro e w5 ⟨rfl,QH,JC,Kf,hr5⟩;obtain⟨d5,afB⟩:=ze (d.change (.wr (m.first+2) (Pl.eV [])));have hl5:d5.aW<0:=by rw[<-afB,fV hl];exact hl
 have hn5:d5.aV.length=d.aV.length:=by rw[<-afB,ea]
 rw[afB]at Kf;have mm:=QH.aC F0.out zj;have akZ:=QH.aC aoZ.out zj;have HF5:Hid (qw jc w w5):=(qw.ae aoc.out).trans (QH.mono (by simp[jc,ug]));have HG5:Hid (Gk w w5):=(Gk.ae aoc.out).trans JC;have D5:Hid (w5.cell? ⟨gt,0,none⟩=some (.pointer (some ⟨gT,0,none⟩))):=akZ.cell 0;obtain⟨HSY,Oh,apg,Ye,HD5⟩:=OW (LN gT m vD d5 rd w5 mm Kf) mm akZ hr5 Kf;clear QH JC Kf hr5 mm akZ alJ;go_wp2_with fail;refine hK.out _ _ ⟨zk zp,D5.out⟩ (λaz=>?_);clear hK K;(try simp only[Act.put,zq1,zq2,zP,zq4,zq5,RR]);refine bh zp ?_ _;clear az;have d0:=D5.out;go_wp2_with fail;refine HSY.out.mono ?_;rintro e w6 ⟨wD,hd6,jV⟩;obtain rfl:=wD.Jx hl5;obtain⟨d6,agj⟩:=ze (d5.change .sy);have hl6:d6.aW<0:=by rw[<-agj,fV hl5];exact hl5
 have hn6:d6.aV.length=d.aV.length:=by rw[<-agj,ea,hn5]
 have hmd:uQ m.first d=d6:=by unfold uQ;rw[afB,agj]
 rw[agj]at hd6;have PB:=HD5.out.kinds;have Ui:Hid (Gk w w6):=HG5.out.trans (Gk.pw HD5.out zo J0 jV);have HF6:Hid (qw jc w w6):=HF5.out.trans ⟨_,jV,PB.spare.mono (by simp[jc,ug])⟩;have GU:=jV.cY PB Oh.out zj;have adj:=jV.cY PB apg.out zj;have hr6:=jV.cY PB Ye.out zj;obtain⟨b2,bz⟩:=ze w6.heap.size;obtain⟨w7,MI,yM⟩:=zF w6 (.map #[] 0);have RF:Below w6.heap.size w6 w7.drew:=yM.drew;have U7:eW w7 b2 0 []:=by rw[<-MI,<-bz];exact eW.made w6
 have hus:=aoK gT r 2 bl b2 (ar []) (ar []) true w7.drew (hr6.aa RF hr6.lt) zj zj (U7.sp (ag.ae ((ak _ _).drew) (λ_=>False)) id) (by rw[<-bz];exact .inl (ao HLW.out Ui.out.2.2.size));unfold dJ at hus;have HUS:=zi hus;have HF7:Hid (qw jc w w7.drew):=HF6.out.trans (qw.ae RF);have HG7:Hid (Gk w w7.drew):=Ui.out.trans (Gk.ae RF);have alD:=HG7.out.1 HEV.out;obtain⟨HT7,amx,HR7,HD7⟩:=yx (GU.aa RF GU.lt) (adj.aa RF adj.lt) (hr6.aa RF hr6.lt) (hd6.aa RF);have J8:w7.cell? ⟨gT,3,none⟩=some (.pointer (some ⟨r,0,none⟩)):=by rw[<-HMR.out];exact(GU.aa yM GU.lt).cell 3
 have C7:=zi (And.intro J8 alD);have D7:Hid (w7.cell? ⟨gt,0,none⟩=some (.pointer (some ⟨gT,0,none⟩))):=(adj.aa yM adj.lt).cell 0;have HMD:=zi hmd;clear wD hd6 jV PB GU adj hr6 yM RF U7 hus alD J8 hmd d0 HSY;go_wp2_with fail;refine aN 7 (λW=>W.cell? ⟨gT,3,none⟩=some (.pointer (some ⟨r,0,none⟩))/\W.cell? ⟨1,0,none⟩=some (.string (ar []))/\W.cell? ⟨1,1,none⟩=some (.string (ar []))/\W.cell? ⟨1,2,none⟩=some (.bool true)) (λW=>W.cell? ⟨gt,0,none⟩=some (.pointer (some ⟨gT,0,none⟩))) zp C7.out D7.out (λaz=>?_);refine zt 0 (h:=zt 1 (h:=zt 2 (h:=zt 3 (h:=zl 4 (h:=zl 5 (h:=zt 6 (h:=?_)))))));refine zr 7 λK hK=>?_;go_simp;refine HUS.out.mono ?_;rintro e w8 ⟨rfl,hU8,hF8,hg8⟩;obtain⟨q,hq⟩:=ze (m.seq+1);have hq1:q=1:=by rw[<-hq,HMQ.out]
 have hqi:(m.seq:Int)+1=(q:Int):=zo;have hwq:IntKind.u64.wrap ((m.seq:Int)+1)=(q:Int):=by rw[hqi];exact lB _ zo
 have asD:q<18446744073709551616:=zo;obtain⟨tp,htp⟩:=ze 2;obtain⟨pc,hpc⟩:=ze (Pl.fc m.n [2]);have EO:pc<=4096:=by rw[<-hpc];exact ao (Pl.Mo _ _) mV
 have hwt:IntKind.u64.wrap (tp:Int)=(tp:Int):=lB _ zo;have YQ:IntKind.u64.wrap (pc:Int)=(pc:Int):=lB _ zo;have hT8:=hF8.aC HT7.out zj;have acv:=hF8.aC amx.out zj;have hr8:cX w8 r tp (fR bl):=htp▸hF8.aC HR7.out zj;have hd8:aJ w8 m.g vD d6 rd:=by obtain⟨F,h1,h2⟩:=hF8;exact HD7.out.sp h1 h2 zu zu
 have HF8:Hid (qw jc w w8):=HF7.out.trans (hF8.mono zu);have HG8:Hid (Gk w w8):=HG7.out.trans hg8;obtain⟨HU8,Wv,Uw,adn,HD8⟩:=OW hU8 hT8 acv hr8 hd8;have D8:Hid (w8.cell? ⟨gt,0,none⟩=some (.pointer (some ⟨gT,0,none⟩))):=acv.cell 0;obtain⟨HQ,HTP,HPC⟩:=kt hq1 htp hpc;obtain⟨w9,En,qA⟩:=zF w8 (.cells #[.int .u8 84] 5 (1,2));have Dt:pC w9 w8.heap.size 5 1 (.slice (some ⟨w8.heap.size,0,none⟩) 1 1) 1 (bv [84]):=by rw[<-En];exact Lz w8 84 zo
 have acD:=zi (mw (.slice (some ⟨w8.heap.size,0,none⟩) 1 1) 1 [84] q 8 w8.heap.size w9 Dt qA.size asD zo zo zo);have hm:=kO (P:=Tryz.prog) w8 29 5 #[.int .u8 84] 1 Tryz.underlying29 Tryz.underlying5 rfl;rw[En]at hm;have La:w9.cell? ⟨gT,5,none⟩=some (.int .u64 (m.seq:Nat)):=(hT8.aa qA hT8.lt).cell 5;have d9:w9.cell? ⟨gt,0,none⟩=some (.pointer (some ⟨gT,0,none⟩)):=(acv.aa qA acv.lt).cell 0;have Py:=zi qA;clear hU8 hF8 hg8 hT8 acv hr8 hd8 hq hq1 htp hpc qA Dt F0 aoZ Oh apg Ye HD5 HT7 amx HR7 HD7 HUS;go_wp2_with fail;refine hK.out _ _ ⟨zk zp,D8.out⟩ (λaz=>?_);clear hK K;(try simp only[Act.put,zq1,zq2,zP,zq4,zq5,RR]);refine bh zp ?_ _;clear az;go_wp2_with fail;refine acD.out.mono ?_;rintro e pZ ⟨v1,rfl,mU,UJ,_⟩;have Jg:Hid (Below w8.heap.size w8 pZ):=Py.out.trans UJ;have EB:=zi mU;have d10:pZ.cell? ⟨gt,0,none⟩=some (.pointer (some ⟨gT,0,none⟩)):=(Uw.out.aa Jg.out Uw.out.lt).cell 0;have J8:pZ.cell? ⟨gT,3,none⟩=some (.pointer (some ⟨r,0,none⟩)):=by rw[<-HMR.out];exact(Wv.out.aa Jg.out Wv.out.lt).cell 3
 have Ug:pZ.cell? ⟨r,0,none⟩=some (.int .i64 (tp:Nat)):=(adn.out.aa Jg.out adn.out.lt).cell 0;clear mU UJ La d9 hm hwq;have atw:tp<=4096:=zA HTP.out;go_wp2_with fail;refine(mw v1 9 ([84]++Pl.be 8 q) tp 4 w8.heap.size pZ (.own EB.out) Jg.out.size zo zo zo zo).mono ?_;rintro e Et ⟨v2,rfl,ee,oJ,_⟩;have aaa:Hid (Below w8.heap.size w8 Et):=Jg.out.trans oJ;have kJ:=zi ee;have bU:∀ty,(Builtin.len_ #[365] ty #[.map (some b2)]).run Tryz.prog Et= .ok (.int .i64 (pc:Nat)) Et:=λty=>by rw[<-HPC.out];exact(HU8.out.sp (ag.ae aaa.out (λ_=>False)) id).len m.n (λj hj=>by rw[dU.1 hj];omega) ty
 clear ee oJ d10 J8 Ug;go_wp2_with fail;refine(mw v2 13 ([84]++Pl.be 8 q++Pl.be 4 tp) pc 4 w8.heap.size Et (.own kJ.out) aaa.out.size zo zo zo zo).mono ?_;rintro e Dz ⟨v3,rfl,kW,eC,_⟩;have X4:Below w8.heap.size w8 Dz:=aaa.out.trans eC;have XW:Below w8.heap.size w8 Dz.drew:=X4.drew;obtain⟨A3,mL,rfl,ahR,Xs,_⟩:=bJ kW;have hst:([84]++Pl.be 8 q++Pl.be 4 tp++Pl.be 4 pc:List UInt8)=jI q tp pc:=by simp[jI]
 have pr:aw Dz A3 (jI q tp pc):=by rw[<-hst];exact Src.bytes Xs
 obtain⟨qm,hqm⟩:=ze (q%2);have hq1:=HQ.out;have amO:qm=1:=zo;have hqr:(q:Int)%2=(qm:Int):=zo;have hqt:Int.tmod (q:Int) 2=(qm:Int):=by rw[oz zo];exact hqr
 have hwm:IntKind.i64.wrap (qm:Int)=(qm:Int):=aY _ zo;have atx:IntKind.u64.wrap (qm:Int)=(qm:Int):=lB _ zo;have hwq:IntKind.u64.wrap ((m.seq:Int)+1)=(q:Int):=by rw[hqi];exact lB _ zo
 have HWR:=zi (IW gT m vD d6 rd qm (jI q tp pc) Dz.drew (Wv.out.aa XW Wv.out.lt) (HD8.out.aa XW) zo (by rw[LY];omega));have C12:Hid (aw Dz A3 (jI q tp pc)):=pr;have D12:Hid (Dz.cell? ⟨gt,0,none⟩=some (.pointer (some ⟨gT,0,none⟩))/\Dz.cell? ⟨gT,5,none⟩=some (.int .u64 (m.seq:Nat))):=⟨(Uw.out.aa X4 Uw.out.lt).cell 0,(Wv.out.aa X4 Wv.out.lt).cell 5⟩;obtain⟨HQM,IC⟩:=dz amO XW;have hcv:∀W,aw W A3 (jI q tp pc)->(convert 29 9 (.slice A3 17 mL)).run Tryz.prog W= .ok (.string (ar (jI q tp pc))) W:=λW hW=>by have:=dQ W A3 (jI q tp pc) mL hW;rwa [LY]at this
 clear kW eC X4 Xs hst pr bU hqm amO hq1 XW;go_wp2_with fail;refine aN 10 (λW=>aw W A3 (jI q tp pc)) (λW=>W.cell? ⟨gt,0,none⟩=some (.pointer (some ⟨gT,0,none⟩))/\W.cell? ⟨gT,5,none⟩=some (.int .u64 (m.seq:Nat))) zp C12.out D12.out (λaz=>?_);refine zt 0 (h:=zt 1 (h:=zt 2 (h:=zt 3 (h:=zt 4 (h:=zt 5 (h:=zt 6 (h:=zt 7 (h:=zt 8 (h:=?_)))))))));(try simp only[Act.put,zq1,zq2,zP,zq4,zq5,RR]);refine Hg (i:=9) (oi:=_) (v:=?_) rfl zp zp zp zp (λ_ _ _ h=>h) (.inl ⟨by rfl,?_⟩) (by assumption) ?_;rotate_left
 ·intro W lR;have hcw:=hcv W lR.1;go_simp;(try rfl)
 refine zr 10 λK hK=>?_;go_simp;rw[show IntKind.i64.wrap ((IntKind.u64.wrap (q:Int)).tmod 2)=(qm:Int) by rw[lB _ zo,hqt,hwm]];refine HWR.out.mono ?_;rintro e w13 ⟨wD,agc,UR⟩;obtain rfl:=wD.Jx hl6;have aiR:=HD8.out.aa IC.out;have Tn:=aiR.kinds;obtain⟨d7,adb⟩:=ze (d6.change (.wr (m.first+qm) (jI q tp pc)));have hl7:d7.aW<0:=by rw[<-adb,fV hl6];exact hl6
 have hn7:d7.aV.length=d.aV.length:=by rw[<-adb,ea,hn6]
 rw[adb]at agc;have ahf:=UR.cY Tn (Wv.out.aa IC.out Wv.out.lt) zj;have abV:=UR.cY Tn (Uw.out.aa IC.out Uw.out.lt) zj;have arP:=UR.cY Tn (adn.out.aa IC.out adn.out.lt) zj;have arM:=zi ((HU8.out.sp (ag.ae IC.out (λ_=>False)) id).only UR Tn);have asY:Hid (Gk w w13):=(HG8.out.trans (Gk.ae IC.out)).trans (Gk.pw aiR zo J0 UR);have apz:Hid (qw jc w w13):=(HF8.out.trans (qw.ae IC.out)).trans ⟨_,UR,Tn.spare.mono (by simp[jc,ug])⟩;have D13:Hid (w13.cell? ⟨gt,0,none⟩=some (.pointer (some ⟨gT,0,none⟩))/\w13.cell? ⟨gT,5,none⟩=some (.int .u64 (m.seq:Nat))):=⟨abV.cell 0,ahf.cell 5⟩;obtain⟨alo,asT,amr,aov,arG⟩:=OW (LN gT m vD d7 rd w13 ahf agc) ahf abV agc adb;clear wD agc UR aiR Tn ahf abV arP adb hcv Wv Uw adn HD8;go_wp2_with fail;refine hK.out _ _ ⟨zk zp,D13.out⟩ (λaz=>?_);clear hK K;(try simp only[Act.put,zq1,zq2,zP,zq4,zq5,RR]);refine bh zp ?_ _;clear az;have d13:=D13.out.1;go_wp2_with fail;refine alo.out.mono ?_;rintro e PM ⟨wD,ajh,aaZ⟩;obtain rfl:=wD.Jx hl7;clear d13;obtain⟨d8,aiv⟩:=ze (d7.change .sy);rw[aiv]at ajh;have abJ:=aov.out.kinds;have akN:Hid (Gk w PM):=asY.out.trans (Gk.pw aov.out zo J0 aaZ);have apx:Hid (qw jc w PM):=apz.out.trans ⟨_,aaZ,abJ.spare.mono (by simp[jc,ug])⟩;have Vg:=aaZ.cY abJ asT.out zj;have Sv:=aaZ.cY abJ amr.out zj;have akn:=arM.out.only aaZ abJ;have hne:b2≠gT:=akn.ne Vg;have Ub:gt≠gT:=Sv.ne Vg zj;obtain⟨Vh,aph⟩:=ze (PM.setCell ⟨gT,5,none⟩ (.int .u64 (q:Nat)));have age:ay Vh gT 242 ((GK m).set 5 (.int .u64 (q:Nat))):=by rw[<-aph];exact Vg.bw 5 _
 have agM:ag (·=gT) PM Vh:=by rw[<-aph];exact(ag.refl (·=gT) PM).zs 5
 obtain⟨Ys,afN⟩:=ze (Vh.setCell ⟨gT,6,none⟩ (.int .i64 (pc:Nat)));have agY:ay Ys gT 242 (((GK m).set 5 (.int .u64 (q:Nat))).set 6 (.int .i64 (pc:Nat))):=by rw[<-afN];exact age.bw 6 _
 have akv:ag (·=gT) PM Ys:=by rw[<-afN];exact agM.setCell (p:=⟨gT,6,none⟩) (.inl rfl) _
 have c5:PM.cell? ⟨gT,5,none⟩=some (.int .u64 (m.seq:Nat)):=Vg.cell 5;have d14:PM.cell? ⟨gt,0,none⟩=some (.pointer (some ⟨gT,0,none⟩)):=Sv.cell 0;have d15:Vh.cell? ⟨gt,0,none⟩=some (.pointer (some ⟨gT,0,none⟩)):=(agM.aC Sv Ub).cell 0;have d16:Ys.cell? ⟨gt,0,none⟩=some (.pointer (some ⟨gT,0,none⟩)):=(akv.aC Sv Ub).cell 0;have c3:Ys.cell? ⟨gT,3,none⟩=some (.pointer (some ⟨r,0,none⟩)):=by rw[<-HMR.out];exact agY.cell 3
 have c6:Vh.cell? ⟨gT,6,none⟩=some (.int .i64 (m.ej:Nat)):=age.cell 6;have c4':Ys.cell? ⟨gT,4,none⟩=some (amV m.saved):=agY.cell 4;have f14:PM.frozen? ⟨gT,5,none⟩=false:=Vg.frozen 5;have f15:Vh.frozen? ⟨gT,6,none⟩=false:=age.frozen 6;have f16:Ys.frozen? ⟨gT,4,none⟩=false:=agY.frozen 4;have bU:∀ty,(Builtin.len_ #[365] ty #[.map (some b2)]).run Tryz.prog Vh= .ok (.int .i64 (pc:Nat)) Vh:=λty=>by rw[<-HPC.out];exact(akn.sp agM hne).len m.n (λj hj=>by rw[dU.1 hj];omega) ty
 obtain⟨arZ,HGT,amo,asP,aqF⟩:=OW akv Ub Vg ajh aiv;clear wD ajh aaZ abJ Sv akn Vg age agM agY akv hne Ub aiv;obtain⟨C16,D16⟩:=dz c3 d16;have D17:Hid ((Ys.drew.setCell ⟨gT,4,none⟩ (.pointer (some ⟨r,0,none⟩))).cell? ⟨gt,0,none⟩=some (.pointer (some ⟨gT,0,none⟩))):=(((ag.refl (·=gT) Ys).drew).setCell (p:=⟨gT,4,none⟩) (.inl rfl) _).cell d16 HGT.out;go_wp2_with fail;refine aN 7 (λW=>W.cell? ⟨gT,3,none⟩=some (.pointer (some ⟨r,0,none⟩))) (λW=>W.cell? ⟨gt,0,none⟩=some (.pointer (some ⟨gT,0,none⟩))) zp C16.out D16.out (λaz=>?_);refine zt 0 (h:=zt 1 (h:=zt 2 (h:=zt 3 (h:=zl 4 (h:=zt 5 (h:=zt 6 (h:=?_)))))));refine zr 7 λK hK=>?_;go_simp;refine hK.out _ _ ⟨zk zp,D17.out⟩ (λaz=>?_);clear hK K;(try simp only[Act.put,zq1,zq2,zP,zq4,zq5,RR]);refine bh zp ?_ _;clear az;go_wp2_with fail;go_end0;have hoF:ag (·=gT) PM (Ys.drew.setCell ⟨gT,4,none⟩ (.pointer (some ⟨r,0,none⟩))):=(arZ.out.drew).setCell (p:=⟨gT,4,none⟩) (.inl rfl) _;have hk9:bR (·=gT) PM [242]:=aD amo.out;have e1:(((uQ m.first d).change (.wr (m.first+1) (jI 1 2 (Pl.fc m.n [2])))).change .sy)=d8:=by rw[<-aqF.out,<-arG.out,HMD.out,HQM.out,HQ.out,<-HTP.out,HPC.out]
 exact⟨rfl,apx.out.trans ⟨_,hoF,hk9.spare.mono (by simp[jc])⟩,akN.out.trans (Gk.of1 amo.out rfl zT hoF),by rw[e1];exact asP.out.iC hoF hk9 zj zj⟩
theorem aeV{first n:Nat}{d:Pl.Dk}(hl:d.aW<0)(hn:2<n)(hf:first+2<d.aV.length):Pl.yJ (λj=>(uQ first d).look (first+j)) n 0 (2:Nat) ([]:List Pl.Pr):=by refine⟨zo,hn,?_⟩;show(uQ first d).look (first+2)=_;unfold uQ;rw[mX,vh (Pl.kU hl) hf,ah rfl];rfl
theorem afh{first:Nat}{d:Pl.Dk}(hl:d.aW<0):d.run ([.wr (first+2) (Pl.eV [])]++ [.sy])=(uQ first d,true):=by
 have h1:d.run [.wr (first+2) (Pl.eV [])]=(d.change (.wr (first+2) (Pl.eV [])),true):=by rw[Pl.Dk.iW,Pl.kU hl,ah rfl,Pl.Dk.qb]
 rw[aez h1,Pl.kU (by rw[fV hl];exact hl)];rfl
theorem Le(gt g first n:Nat)(vD:Value)(d:Pl.Dk)(rd:Int)(w:World)(hB:ay w gT 242 [.pointer (some ⟨g,0,none⟩),.int .i64 (first:Nat),.int .i64 (n:Nat),.pointer none,.pointer none,.int .u64 0,.int .i64 0,.bool false])(ht:ay w gt 140 [.pointer (some ⟨gT,0,none⟩)])
 (h:aJ w g vD d rd) (hl:d.aW<0) (hn:16<=n) (mV:n<=4096) (hf:first+n<=d.aV.length) (yR:pz w) (J0:∀k,dF g vD k->Zn k) (hlt:Zn gT) (hlw:LO<=w.heap.size):
 bG 231 #[.pointer (some ⟨gt,0,none⟩)] w λe w'=>e= .returned (.tuple #[])/\nH g vD d rd first n w w':=by
 obtain⟨m0,PH⟩:∃m:Tm,(⟨g,first,n,0,none,0,0,false⟩:Tm)=m:=⟨_,rfl⟩;have eg:m0.g=g:=by rw[<-PH]
 have ef:m0.first=first:=by rw[<-PH]
 have hk:=h.kinds;obtain⟨rest,jy⟩:∃r:List Value,[.int .i64 (n:Nat),.pointer none,.pointer none,.int .u64 0,.int .i64 0,.bool false]=r:=⟨_,rfl⟩;rw[show([.pointer (some ⟨g,0,none⟩),.int .i64 (first:Nat),.int .i64 (n:Nat),.pointer none,.pointer none,.int .u64 0,.int .i64 0,.bool false]:List Value)= .pointer (some ⟨g,0,none⟩):: .int .i64 (first:Nat)::rest by rw[<-jy]]at hB;have w1h:=Oo gT m0 rest vD d rd 0 [] w (by rw[eg,ef];exact hB) (by rw[eg];exact h) (by rw[ef];omega) zu;rw[eg,ef,show ar []=⟨#[]⟩from rfl]at w1h;have d0:w.cell? ⟨gt,0,none⟩=some (.pointer (some ⟨gT,0,none⟩)):=ht.cell 0;have h0:0<d.aV.length:=zo;go_enter Tryz.func231,Tryz.ntmps231;go_wp2_with fail;refine w1h.mono ?_;rintro e w1 ⟨wD,vT,uX⟩;obtain rfl:=wD.Jx hl;obtain⟨d1,agd⟩:=ze (d.change (.wr (first+0) []));have l7:d1.aW<0:=by rw[<-agd,fV hl];exact hl
 have ma:d1.aV.length=d.aV.length:=by rw[<-agd,ea]
 rw[agd]at vT;have Fb:=uX.cY hk hB zj;have Iy:=uX.cY hk ht zj;have nY:=Gk.pw h h0 J0 uX;have WZ:qw jc w w1:=⟨_,uX,hk.spare.mono (by simp[jc,ug])⟩;have w2h:=Oo gT m0 rest vD d1 rd 1 [] w1 (by rw[eg,ef];exact Fb) (by rw[eg];exact vT) (by rw[ef];omega) zu;rw[eg,ef,show ar []=⟨#[]⟩from rfl]at w2h;have d1':w1.cell? ⟨gt,0,none⟩=some (.pointer (some ⟨gT,0,none⟩)):=Iy.cell 0;go_wp2_with fail;refine w2h.mono ?_;rintro e w2 ⟨wD,oZ,fw⟩;obtain rfl:=wD.Jx l7;obtain⟨d2,afS⟩:=ze (d1.change (.wr (first+1) []));have BJ:d2.aW<0:=by rw[<-afS,fV l7];exact l7
 have nX:d2.aV.length=d.aV.length:=by rw[<-afS,ea,ma]
 rw[afS]at oZ;have hK1:=vT.kinds;have EC:=fw.cY hK1 Fb zj;have Qi:=fw.cY hK1 Iy zj;have rQ:=nY.trans (Gk.pw vT zo J0 fw);have Fz:qw jc w w2:=WZ.trans ⟨_,fw,hK1.spare.mono (by simp[jc,ug])⟩;have w3h:=aeY gT m0 (.int .i64 (first:Nat)::rest) vD d2 rd w2 (by rw[eg];exact EC) (by rw[eg];exact oZ);rw[eg]at w3h;have d2':w2.cell? ⟨gt,0,none⟩=some (.pointer (some ⟨gT,0,none⟩)):=Qi.cell 0;go_wp2_with fail;refine w3h.mono ?_;rintro e w3 ⟨wD,Pt,sR⟩;obtain rfl:=wD.Jx BJ;obtain⟨d3,agP⟩:=ze (d2.change .sy);have rN:d3.aW<0:=by rw[<-agP,fV BJ];exact BJ
 have Er:d3.aV.length=d.aV.length:=by rw[<-agP,ea,nX]
 have IH:begun d first=d3:=by unfold begun;rw[agd,afS,agP]
 rw[agP]at Pt;have hK2:=oZ.kinds;have EY:=sR.cY hK2 EC zj;have SE:=sR.cY hK2 Qi zj;have Cr:=rQ.trans (Gk.pw oZ zo J0 sR);have FC:qw jc w w3:=Fz.trans ⟨_,sR,hK2.spare.mono (by simp[jc,ug])⟩;obtain⟨bl,w4,yg,qz,cj,BL⟩:=zE w3 346 [.slice none 0 0];obtain⟨r,hr⟩:=ze w4.heap.size;obtain⟨w5,wO,nB⟩:=zF w4 (.cells #[.int .i64 0,.iface 343 (.pointer (some ⟨bl,0,none⟩))] 265);have BR:cX w5 r 0 (fR bl):=by rw[<-wO,<-hr];exact ay.new w4 265 _
 have adB:=cj.trans (nB.mono cj.size);have vu:=EY.aa adB EY.lt;have mm:=SE.aa adB SE.lt;have Kf:=Pt.aa adB;have d5':w5.cell? ⟨gt,0,none⟩=some (.pointer (some ⟨gT,0,none⟩)):=mm.cell 0;have d3':w3.cell? ⟨gt,0,none⟩=some (.pointer (some ⟨gT,0,none⟩)):=SE.cell 0;obtain⟨w6,nC⟩:=ze (w5.setCell ⟨gT,3,none⟩ (.pointer (some ⟨r,0,none⟩)));have jV:ag (·=gT) w5 w6:=by rw[<-nC];exact(ag.refl (·=gT) w5).zs 3
 have hk6:bR (·=gT) w5 [242]:=aD vu;have hTm:ny w6 gT ⟨g,first,n,r,none,0,0,false⟩:=by rw[<-nC];have:=vu.bw 3 (.pointer (some ⟨r,0,none⟩));rw[<-jy]at this;exact this
 have hRf:cX w6 r 0 (fR bl):=jV.cY hk6 BR zj;have hLf:fZ w6 bl []:=⟨none,0,jV.cY hk6 (BL.aa nB BL.lt) zj,ai _,.inl rfl,λp hp=>by cases hp⟩;have hd6:aJ w6 g vD d3 rd:=Kf.iC jV hk6 zj zj;have GU:=jV.cY hk6 mm zj;have Ai:Gk w w6:=(Cr.trans (Gk.ae adB)).trans (Gk.of1 vu rfl hlt jV);have hf6:qw jc w w6:=(FC.trans (qw.ae adB)).trans ⟨_,jV,hk6.spare.mono (by simp[jc])⟩;have hzr:Zn r:=by rw[<-hr];exact .inl (ao hlw (ao Cr.2.2.size cj.size))
 have HS:=aol gT r bl ⟨g,first,n,r,none,0,0,false⟩ vD d3 rd w6 hTm rfl rfl rfl hd6 rN hn mV (by show first+n<=d3.aV.length;omega) hRf hLf hzr hlt J0 (ao hlw Ai.2.2.size) (Ai.1 yR);have d6':w6.cell? ⟨gt,0,none⟩=some (.pointer (some ⟨gT,0,none⟩)):=GU.cell 0;have f6:∀i,w5.frozen? ⟨gT,i,none⟩=false:=λi=>vu.frozen i;have f63:=f6 3;have c53:w5.cell? ⟨gT,3,none⟩=some (.pointer none):=by have:=vu.cell 3;rw[<-jy]at this;exact this
 go_wp2_with fail;refine HS.mono ?_;rintro e w7 ⟨rfl,h8,h9,h10⟩;have HX:(nH g vD d rd first n w w7):=⟨hf6.trans h8,Ai.trans h9,[.wr (first+2) (Pl.eV [])],uQ first d3,(2:Nat),rd,(λc hc=> .inr ⟨2,_,dU.1 hc,ai _,je⟩),by
  rw[IH];exact afh rN,aeV rN zo zo,h10,tF.refl 100000 rd⟩
 go_wp2_with fail;go_end0;exact⟨rfl,HX⟩
theorem OS(vD:Value)(d:Pl.Dk)(rd:Int)(w:World)(h:aJ w g vD d rd)(hl:d.aW<0)(hn:16<=n)(mV:n<=4096)(hf:first+n<=d.aV.length)(yR:pz w)(J0:∀k,dF g vD k->Zn k)(hlw:LO<=w.heap.size):
 bG 176 #[.pointer (some ⟨g,0,none⟩),.int .i64 (first:Nat),.int .i64 (n:Nat)] w λe w'=>e= .returned .nilIface/\nH g vD d rd first n w w':=by
 have HP:=F3 g vD d rd first n w h hn hf;obtain⟨gT,w1,hgT,dj,aI,B1⟩:=zE w 242 [.pointer (some ⟨g,0,none⟩),.int .i64 (first:Nat),.int .i64 (n:Nat),.pointer none,.pointer none,.int .u64 0,.int .i64 0,.bool false];obtain⟨gt,w2,Ub,iA,bz,B2⟩:=zE w1 140 [.pointer (some ⟨gT,0,none⟩)];have eC:=aI.trans (bz.mono aI.size);have Pu:(bG 161 #[.func (.func 231) #[] #[.pointer (some ⟨gt,0,none⟩)]] w2 λe w'=>e= .returned .nilIface/\nH g vD d rd first n w2 w'):=by
  obtain⟨W1,tC,ja⟩:=zF w2 (.cells #[.nilIface] 73);have he:ay W1 w2.heap.size 73 [.nilIface]:=by rw[<-tC];exact ay.new w2 73 _
  have yH:=eC.trans (ja.mono eC.size);have hp:=Le gT gt g first n vD d rd W1 ((B1.aa bz B1.lt).aa ja (B1.aa bz B1.lt).lt) (B2.aa ja B2.lt) (h.aa yH) hl hn mV hf ((Gk.ae yH).1 yR) J0 (by rw[<-hgT];exact .inl hlw) (ao hlw yH.size);refine(ER 231 #[.pointer (some ⟨gt,0,none⟩)] w2 (λk w'=>k=0/\ay w' w2.heap.size 73 [.nilIface]/\nH g vD d rd first n w2 w') (JD _) ?_).mono ?_
  ·rw[tC];refine hp.mono ?_;rintro e w' ⟨rfl,hq⟩;have jM:=hq.1.aC he zj;exact⟨jM,0,.inl ⟨rfl,rfl⟩,rfl,jM,hq.before ja⟩
  ·rintro e sL ⟨k,w',_,⟨rfl,jM,hq⟩,ho,rfl⟩;exact⟨rfl,hq.only ho (aD jM) zj zj (λx hx e=>by omega) (Gk.of1 jM rfl (.inl (ao hlw eC.size)) ho)⟩
 have JJ:=zf Tryz.prog;go_enter Tryz.func176,Tryz.ntmps176;go_wp2_with fail;refine HP.mono ?_;rintro e w' ⟨rfl,rfl⟩;go_wp2_with fail;refine Pu.mono ?_;rintro e w' ⟨rfl,hq⟩;have HQ:=hq.before eC;go_wp2_with fail;go_ret;exact⟨rfl,HQ⟩
def Ko:Pl.Dk:=(Pl.jF d 0 24).1
theorem OH{d:Pl.Dk}(hl:d.aW<0):(Pl.jF d 0 24).2=0/\(Ko d).aW=d.aW/\(Ko d).aV.length=d.aV.length:=by
 unfold Ko;rw[Dc];obtain⟨e1,_,e3,e4⟩:=DL (Pl.mP 0 24) d hl 100 (λc hc i t e=>by
  subst e;unfold Pl.mP at hc
  grind)
 exact⟨zw,e3,e4⟩
theorem Vb(w:World)(h:aJ w g v d rd)(bU:d.aV.length=4096)(hl:d.aW<0)(hc:Ctx w)(hz:∀k,dF g v k->Zn k):
 bG 109 #[.pointer (some ⟨g,0,none⟩)] w λe w'=>e= .returned .nilIface/\∃w1,ag (dF g v) w w1/\nH g v (Ko d) rd 24 4072 w1 w':=by
 obtain⟨N6,X9,hle⟩:=OH hl;have HS:=nw g v d rd w h;rw[bU]at HS hle;have HW:=Td g v d rd 0 24 w h (by rw[bU];decide);rw[N6]at HW;have HS:=HS;have HW:=HW;have HX:=TV hc hz X9 hle hl;go_enter Tryz.func109,Tryz.ntmps109;go_wp2_with fail;refine HS.mono ?_;rintro e w1 ⟨rfl,rfl⟩;go_wp2_with fail;refine HW.mono ?_;rintro e w2 ⟨rfl,vT,uX⟩;obtain⟨hc,hz,X9,hle,hl⟩:=id HX;have rX:Ctx w2:=hc.gl (uX.mono (λk _ hk=>hz k hk));have Sp:=nw g v _ rd w2 vT;have HT:=OS g 24 4072 v (Ko d) rd w2 vT zo zj zj zo rX.ev hz rX.lo;rw[show(Pl.jF d 0 24).1.aV.length=4096 from hle]at Sp;have Sp:=Sp;have HT:=HT;rw[show oT 0= .nilIface from rfl];go_wp2_with fail;refine Sp.mono ?_;rintro e w3 ⟨rfl,rfl⟩;go_wp2_with fail;refine HT.mono ?_;rintro e w3 ⟨rfl,hp⟩;go_wp2_with fail;go_ret;exact⟨rfl,w2,uX,hp⟩
theorem nH.akf{g:Nat}{vD:Value}{d:Pl.Dk}{rd:Int}{first n:Nat}{w w':World}(h:nH g vD d rd first n w w')(hl:d.aW<0)(hf:first+n<=d.aV.length)(hn:16<=n):
 ∃(d':Pl.Dk) (s:Pl.ST 0) (cO:Int),aJ w' g vD d' cO/\d'.aW<0/\d'.aV.length=d.aV.length/\BQ d' first n 1 (Pl.top 0 s) (Pl.fc n (Pl.fg 0 s))/\Pl.yJ (λj=>d'.look (first+j)) n 0 s ([]:List Pl.Pr)/\tF 100000 rd cO/\∀j,j<first->d'.look j=d.look j:=by
 obtain⟨_,_,l,d1,s,cO,h1,h2,h3,h4,h5⟩:=h;have aI:(d.change (.wr (first+0) [])).aW<0:=by rw[fV hl];exact hl
 have bz:((d.change (.wr (first+0) [])).change (.wr (first+1) [])).aW<0:=by rw[fV aI];omega
 have bg:(begun d first).aW<0:=by unfold begun;rw[fV bz];omega
 have yg:(begun d first).aV.length=d.aV.length:=by unfold begun;rw[ea,ea,ea]
 have vT:d1.aW<0:=by have:=aex bg (l++ [.sy]);grind
 have oZ:(d1.change (.wr (first+1) (jI 1 (Pl.top 0 s) (Pl.fc n (Pl.fg 0 s))))).aW<0:=by rw[fV vT];omega
 obtain⟨k1,k2,k3⟩:=PN (seq:=0) h1 h2 h3 (by
  show d1.run [.wr (first+1) (jI 1 (Pl.top 0 s) (Pl.fc n (Pl.fg 0 s))),.sy]=_;rw[Pl.Dk.iW,ah (Pl.kU vT),Pl.Dk.iW,ah (Pl.kU oZ),Pl.Dk.qb])
  (λx hx hh=>by
    have e:(begun d first).look (first+0%2)=some ([]++Pl.gO (256-([]:List UInt8).length)):=by unfold begun;rw[mX,ri _ _ _ _ zo,show first+0%2=first+0 from rfl,vh (Pl.kU hl) zo,ah rfl]
    rw[e]at hx;injection hx with hx;rw[<-hx]at hh;exact absurd hh zj) zj zo zo
 refine⟨_,s,cO,h4,by rw[fV oZ];omega,zo,k1,k2,h5,λj hj=>?_⟩;have hr:=DL (l++ [.sy]) (begun d first) bg j (λc hc i t e=>by
  rcases eQ.1 hc with hc|hc
  ·rcases h1 c hc with h|⟨q,y,h,hq,_⟩
   ·grind
   grind
  grind)
 rw[h2]at hr;rw[mX,ri _ _ _ _ zo,hr.2.1];unfold begun;rw[mX,ri _ _ _ _ zo,ri _ _ _ _ zo]
theorem acW{d d':Pl.Dk}{l:Pl.Lg}(h:Pl.su d l)(hl:d'.aW<0)(hk:∀j,l.first<=j->j<l.first+2+l.data->d'.look j=d.look j):Pl.iz d' l.first (l.data+2)=(d',.inr l):=by
 have hd:=h.data;have he:=h.ep;have hr:(List.range l.data).map (λi=>d'.look (l.first+2+i))=(List.range l.data).map (λi=>d.look (l.first+2+i)):=
  List.map_congr_left (λi hi=>zw)
 unfold Pl.iz;rw[aj zo];simp only[hk l.first zo zo,hk (l.first+1) zo zo,h.slots,qX];rw[aj zo,hr,h.anU];have hst:Pl.tT d' l.eE l.first l.next l.data=[]:=by
  unfold Pl.tT;rw[List.map_eq_nil_iff,np];intro i hi;have Pk:=List.mem_range.1 hi;simp only[qF,not_and];intro hn ho;rw[hk _ zo zo]at ho;cases pK:d.look (l.first+2+i)with
  |none=>grind
  |some s=>
   have:=h.clean i s hn (by simpa using hi) pK
   grind
 simp only[hst,Pl.oY,List.isEmpty_nil,if_true,Pl.Dk.qb];have hb:=h.bad;cases l
 grind
def lgE:Pl.Lg:=⟨0,22,1,0,[],false⟩
theorem abF{d:Pl.Dk}(hl:d.aW<0)(hs:Pl.Sound d.aV)(bU:d.aV.length=4096):Pl.su (Ko d) lgE:=by obtain⟨d',h1,h2,h3⟩:=Pl.aag hl hs 0 24 zj zj zo;unfold Ko;rw[h1];exact h3
def agE:Prop:=Pl.iz d 0 24=(d,.inr lgE)/\∀k s,k<22->d.look (0+2+k)=some s->Pl.jQ (Pl.LV d 0 2) s=false
theorem Sg{d d':Pl.Dk}(hl:d.aW<0)(hs:Pl.Sound d.aV)(bU:d.aV.length=4096)(hl':d'.aW<0)(hk:∀j,j<24->d'.look j=(Ko d).look j):agE d':=by have h:=abF hl hs bU;refine⟨acW h hl' (λj _ hj=>hk j hj),λk s h1 h2=>?_⟩;have e:Pl.LV d' 0 2=max (max 0 (Pl.gw (d'.look (0+0)))) (Pl.gw (d'.look (0+1))):=rfl;have h3:=h.slots;have h4:max (Pl.gw ((Ko d).look 0)) (Pl.gw ((Ko d).look (0+1)))=1:=h3;rw[e,hk _ zj,hk _ zj,Nat.max_eq_right (aM _),h4];rw[hk _ zo]at h2;exact h.clean k s (aM _) h1 h2
theorem Zc{gT g a p r aA:Nat}{vD:Value}{d:Pl.Dk}{rd:Int}{s:Pl.ST 0}{w w':World}(hp:CJ gT g 24 4072 vD d rd 1 a p r w w')(hO:Pl.yJ (λj=>d.look (24+j)) 4072 0 s ([]:List Pl.Pr))(ha:Pl.top 0 s=a)(QC:p=Pl.fc 4072 (Pl.fg 0 s))(hl:d.aW<0)(hf:d.aV.length=4096)(fu:LO<=w.heap.size)(J0:∀k,dF g vD k->Zn k)(hr:2*aA+p+2<=4072)(h1:1<=aA):
 sO (YV gT g 24 4072 vD d 1 p r 0 s) (Pl.fg 0 s) [] aA [] w':=by
 have gP:Pl.ix ⟨0,([]:List Pl.Pr)⟩:=by refine⟨⟨zj,λp hp=>by cases hp⟩,?_⟩;show Pl.qu ([]:List Pl.Pr)/\∀p∈([]:List Pl.Pr),Pl.Hc [] none p.key;exact⟨List.Pairwise.nil,λp hp=>by cases hp⟩
 obtain⟨cO,_,hw,hG,hF,hS⟩:=hp.env (h:=0) (s:=s) (t:=([]:List Pl.Pr)) hO ha QC gP zj zo fu J0;exact⟨cO,_,r,⟨(by decide:(4072:Nat)<=4096),(by show d.aW≠0;omega),rfl,hr,h1⟩,hw,⟨⟨0,([]:List Pl.Pr)⟩,0,hG,gP,rfl,hF,(by show 0+p+2<=4072;omega),aM _⟩,(λm hm=>by cases hm),hS⟩
def anf(w:World)(e:Ending)(w':World):Prop:=
 ∃V:ia,e= .returned (.tuple #[aU V.gD,.nilIface])/\cU V 0 (.pointer none) [] w'/\V.b=⟨[],none,0⟩/\V.l=lgE/\V.E.d=d/\V.E.m.first=24/\V.aA=aA/\V.E.m.g=g/\V.E.vD=vD/\lW LJ noB w w'/\ag Zn w w'
theorem VZ(w:World)(h:aJ w g vD d rd)(hl:d.aW<0)(bU:d.aV.length=4096)(hs:BQ d 24 4072 1 (Pl.top 0 s) (Pl.fc 4072 (Pl.fg 0 s)))(hO:Pl.yJ (λj=>d.look (24+j)) 4072 0 s ([]:List Pl.Pr))(VI:agE d)(hc:Ctx w)(hz:∀k,dF g vD k->Zn k)(hr:2*aA+Pl.fc 4072 (Pl.fg 0 s)+2<=4072)(h1:1<=aA):
 bG 53 #[.pointer (some ⟨g,0,none⟩)] w (anf g vD d aA w):=by
 have HS:=nw g vD d rd w h;rw[bU]at HS;obtain⟨w1,dj⟩:=ze (w.alloc (.cells (Ud 0 0 (.pointer none) (.pointer none) (.pointer none) (.pointer none) false).toArray 144));obtain⟨gD,iJ⟩:=ze w.heap.size;have aI:=zb dj;have B1:ay w1 gD 144 (Ud 0 0 (.pointer none) (.pointer none) (.pointer none) (.pointer none) false):=by rw[<-dj,<-iJ];exact ay.new w 144 _
 have HW:=VC g vD d rd 0 24 w1 (h.aa aI) (by rw[bU];decide) (λk s h1 h2=>VI.2 k s h1 h2);have HS:=HS;have HW:=HW;have HX:=And.intro h (And.intro hl (And.intro bU (And.intro hs (ze9 hO VI hc hz hr h1 iJ aI B1))));unfold Ud at dj;go_enter Tryz.func53,Tryz.ntmps53;go_wp2_with fail;refine HS.mono ?_;rintro e w2 ⟨rfl,rfl⟩;go_wp2_with fail;refine HW.mono ?_;rintro e w2 ⟨_,fw,⟨k,e1,_⟩|⟨gl,va,vs,rR,l2,e1,rfl,hst,tN,hva⟩⟩
 ·rw[HX.2.2.2.2.2.1.1]at e1;cases e1
 rw[HX.2.2.2.2.2.1.1]at e1 hst;injection e1 with e1;subst e1;obtain⟨h,hl,bU,hs,hO,VI,hc,hz,hr,h1,iJ,aI,B1⟩:=id HX;have rP:bR (dF g vD) w1 [108,190]:=(h.aa aI).kinds;have B2:ay w2 gD 144 (Ud 0 0 (.pointer none) (.pointer none) (.pointer none) (.pointer none) false):=fw.cY rP B1 zj;obtain⟨w3,fX⟩:=ze (w2.setCell ⟨gD,2,none⟩ (.pointer (some ⟨gl,0,none⟩)));have B3:ay w3 gD 144 (Ud 0 0 (aU gl) (.pointer none) (.pointer none) (.pointer none) false):=by rw[<-fX];exact B2.bw 2 _
 have o3:ag (·=gD) w2 w3:=by rw[<-fX];exact(ag.refl (·=gD) w2).zs 2
 have k2:=aD B2;have Pt:aJ w3 g vD d rR:=hst.gq.iC o3 k2 zj zj;have Im:dB w3 gl g vD va vs d rR lgE:=⟨Pt,hst.cells.only o3 k2 zj,hst.rows.only o3 k2 zj zj⟩;have Je:=nw g vD d rR w3 Pt;rw[bU]at Je;have HT:=aaj g 24 4072 vD d rR 1 _ _ w3 Pt zo hs zj zj zo;have Je:=Je;have HT:=HT;have a2:w2.cell? ⟨gD,2,none⟩=some (.pointer none):=B2.cell 2;have f2:w2.frozen? ⟨gD,2,none⟩=false:=B2.frozen 2;have HY:=ze6 B3 Im fw o3 tN hva;go_wp2_with fail;refine Je.mono ?_;rintro e w4 ⟨rfl,rfl⟩;go_wp2_with fail;refine HT.mono ?_;rintro e w4 ⟨gT,r,rfl,hop⟩;obtain⟨B3,Im,fw,o3,tN,hva⟩:=id HY;obtain⟨h,hl,bU,hs,hO,VI,hc,hz,hr,h1,iJ,aI,B1⟩:=id HX;have XV:=Zc hop hO rfl rfl hl bU (ao hc.lo (ao aI.size (ao fw.size o3.size))) hz hr h1;obtain⟨_,_,hTm,hRf,_,o4⟩:=id hop;have kg:bR (·=g) w3 [108]:=λk hk=>by obtain⟨wr,sy,hg⟩:=Im.gq.aC;exact⟨_,zu,hk▸hg.dV⟩
 have B4:ay w4 gD 144 (Ud 0 0 (aU gl) (.pointer none) (.pointer none) (.pointer none) false):=o4.cY kg B3 zj;obtain⟨w5,wO⟩:=ze (w4.setCell ⟨gD,3,none⟩ (.pointer (some ⟨gT,0,none⟩)));have B5:ay w5 gD 144 (Ud 0 0 (aU gl) (aU gT) (.pointer none) (.pointer none) false):=by rw[<-wO];exact B4.bw 3 _
 have o5:ag (·=gD) w4 w5:=by rw[<-wO];exact(ag.refl (·=gD) w4).zs 3
 have k4:=aD B4;have mm:=sO.bQ XV o5 k4.sp_ zj;have aff:dW w5 gl g va lgE:=(Im.cells.only o4 kg zj).only o5 k4 zj;have agh:pR w5 va vs lgE.all:=(Im.rows.only o4 kg zj zj).only o5 k4 zj zj;have hzD:Zn gD:= .inl (by rw[<-iJ];exact hc.lo);have LQ:Zn g:=hz g (.inl rfl);have hG5:ag Zn w w5:=((((ag.ae aI Zn).aE (fw.mono (λk _ hk=>hz k hk))).aE (o3.mono (λk _ hk=>hk▸hzD))).aE (o4.mono (λk _ hk=>hk▸LQ))).aE (o5.mono (λk _ hk=>hk▸hzD));have La:=hc.gl hG5;have hF5:ag (dF g vD) w w5:=((((ag.ae aI (dF g vD)).aE fw).trans o3 (λk hk e=>by omega)).aE (o4.mono (λk _ hk=>hk▸ .inl rfl))).trans o5 (λk hk e=>by omega);have HRO:=MB (dS _ _ [] aA) (Nb _ _ [] aA []) w5 mm La (λ_ h=>h.elim);unfold iM.v at HRO;have a4:w4.cell? ⟨gD,3,none⟩=some (.pointer none):=B4.cell 3;have f4:w4.frozen? ⟨gD,3,none⟩=false:=B4.frozen 3;have c5:w5.cell? ⟨gD,3,none⟩=some (.pointer (some ⟨gT,0,none⟩)):=B5.cell 3;have HRO:=HRO;have HZ:=ze8 B5 mm aff agh hzD La hF5 hG5;go_wp2_with fail;refine HRO.mono ?_;rintro e w6 ⟨f6,gK,gM,rfl,jM,_,_⟩;obtain⟨B5,mm,aff,agh,hzD,La,hF5,hG5⟩:=id HZ;obtain⟨h,hl,bU,hs,hO,VI,hc,hz,hr,h1,iJ,aI,B1⟩:=id HX;have B6:=SF.aC (dS _ _ [] aA) f6 mm B5 zj;obtain⟨V,hV⟩:∃V:ia,(⟨gD,gl,gK,gM,0,0,va,vs,lgE,YV gT g 24 4072 vD d 1 (Pl.fc 4072 (Pl.fg 0 s)) r 0 s,Pl.fg 0 s,aA,⟨[],none,0⟩⟩:ia)=V:=⟨_,rfl⟩;obtain⟨w7,MI⟩:=ze (w6.setCell ⟨gD,4,none⟩ (.pointer (some ⟨gK,0,none⟩)));have o7:ag (·=gD) w6 w7:=by rw[<-MI];exact(ag.refl (·=gD) w6).zs 4
 have B7:ay w7 gD 144 (Ud 0 0 (aU gl) (aU gT) (aU gK) (.pointer none) false):=by rw[<-MI];exact B6.bw 4 _
 have k6:=aD B6;have hC7:lu V 0 (.pointer none) w7:=by
  subst hV;obtain⟨F,jV,hF6⟩:=f6.1.YK FO zj (λk t hk=>hk.elim);have hn:∀{t},t∈FO->∀k,F k->¬jh w5 k t:=λht k hk mr=>hF6 k _ hk mr ht;have apO:dW w6 gl g va lgE:=⟨jV.aC aff.aC (λhk=>hn (t:=252) zj _ hk aff.aC.dV),aff.small⟩;have asH:pR w6 va vs lgE.all:=⟨ud jV agh.own (λk hk=>hn (t:=29) zj k hk),λk v l hv hl=>ud jV (agh.each k v l hv hl) (λk hk=>hn (t:=5) zj k hk)⟩;refine⟨B7,apO.only o7 k6 zj,asH.only o7 k6 zj zj,hzD,λk hk=>?_⟩;have alE:LO<=w1.heap.size:=ao hc.lo aI.size;rcases hk with(hk|hk)|hk
  ·exact hz k hk
  ·exact .inl (ao alE (hk▸HY.2.2.2.2.1))
  ·exact .inl (ao alE (HY.2.2.2.2.2 k hk))
 have hD7:cU V 0 (.pointer none) [] w7:=by refine⟨hC7,?_,(La.gl f6.2.1).gl (o7.mono (λk _ hk=>hk▸hzD))⟩;subst hV;exact⟨o7.cY k6 jM.aC zj,sO.bQ jM.fv o7 k6.sp_ zj,jM.tq.kinds o7 k6 zj zj,jM.off,jM.lo⟩
 obtain⟨rd7,hd7⟩:=sO.gq hD7.book.fv;have hx5:lW LJ noB w w5:=(lW.lJ hF5 h.kinds).mono zj (λ_ h=>h);have hx6:lW LJ noB w5 w6:=f6.1.mono (λt ht=>by simp[LJ,ht]) (λ_ h=>h);have tu:lW LJ noB w w7/\ag Zn w w7:=⟨(hx5.trans hx6).since o7 (λx hx e=>by omega),(hG5.aE f6.2.1).aE (o7.mono (λk _ hk=>hk▸hzD))⟩;have wE:=agz V.gl V.E.m.g V.E.vD V.va V.vs V.E.d rd7 V.l w7 ⟨hd7,hC7.log,hC7.rows⟩ (by subst hV;exact aM _) (by subst hV;intro x hx;cases hx);have hVl:V.l.all=[]:=by subst hV;rfl
 rw[hVl,show V.gl=gl by subst hV;rfl]at wE;have wE:=wE;have HQ:(∀w8,Below w7.heap.size w7 w8->anf g vD d aA w (.returned (.tuple #[.pointer (some ⟨gD,0,none⟩),.nilIface])) w8):=λw8 h8=>by
  have h9:=hD7.aa h8;refine⟨V,?_,h9,?_,?_,?_,?_,?_,?_,?_,tu.1.trans (.ae h8),tu.2.aE (ag.ae h8 _)⟩
  all_goals (subst hV;rfl)
 have a6:w6.cell? ⟨gD,4,none⟩=some (.pointer none):=B6.cell 4;have g6:w6.frozen? ⟨gD,4,none⟩=false:=B6.frozen 4;have c7:w7.cell? ⟨gD,2,none⟩=some (.pointer (some ⟨gl,0,none⟩)):=B7.cell 2;unfold aU;go_wp2_with fail;refine wE.mono ?_;rintro e w8 ⟨vo,gj,rfl,ahm,h8⟩;obtain⟨A8,c8,rfl,_⟩:=bJ ahm.own;have HQ8:=HQ w8 h8;go_wp2_with fail
 go_loopw [65] (λi wr=>i= .int .i64 (0:Int)/\w8=wr) (λ_ _=>0)
 case atStart=>exact⟨rfl,rfl⟩
 case round=>obtain⟨rfl,rfl⟩:=hrel;go_wp2_with fail;go_ret2;exact HQ8
theorem mD{w:World}{be:Nat}{b c:Value}(h:ay w be 32 [a,b,c])(x0 x1 x2:Value):ag (·=be) w (((w.setCell ⟨be,0,none⟩ x0).setCell ⟨be,1,none⟩ x1).setCell ⟨be,2,none⟩ x2)/\ay (((w.setCell ⟨be,0,none⟩ x0).setCell ⟨be,1,none⟩ x1).setCell ⟨be,2,none⟩ x2) be 32 [x0,x1,x2]:=
 ⟨(((ag.refl (·=be) w).zs 0).zs 1).zs 2,((h.bw 0 x0).bw 1 x1).bw 2 x2⟩
def wN:Value:= .agg #[.int .i64 0,.string ⟨#[]⟩,.bool true]
def aip:Prop:=
 e= .returned wN/\lV V.gM w w'/\∃go r g2 mJ,cU V 0 (aU go) ((r,V.b.ps)::ms) w'/\ay w' go 166 [.int .i64 time,.slice none 0 0,dJ r,.map (some g2),.int .i64 (V.b.count:Nat)]/\p5 w' g2 mJ V.b.tb/\w.heap.size<=go/\w.heap.size<=g2
theorem IV(h:cU V 0 (.pointer none) ms w):
 bG 14 #[aU V.gD,.int .i64 time] w (aip V ms time w):=by
 obtain⟨w1,dj⟩:=ze (w.alloc wL);obtain⟨g0,jz⟩:=ze w.heap.size;have aI:=zb dj;have B1:=zB dj jz;have HB:=aaM V ms time w1 (h.aa aI);have HX:=sS h aI B1 jz;unfold wL at dj;go_enter Tryz.func14,Tryz.ntmps14;go_wp2_with fail;refine HB.mono ?_;rintro e w2 ⟨rfl,ho,go,r,g2,mJ,hD,hgo,EX,h1,h2⟩;have HT:=mf .nilIface 0 ⟨#[]⟩ w2 hD.ctx.ge (lz w2 0) zj;have HY:=ze6 ho hD hgo EX h1 h2;go_wp2_with fail;refine HT.mono ?_;rintro e w3 ⟨rfl,bg⟩;obtain⟨ho,hD,hgo,EX,h1,h2⟩:=id HY;obtain⟨h,aI,B1,jz⟩:=id HX;have hne:g0≠V.gD:=λe=>absurd ((e▸B1.dV).dv (h.aa aI).core.aC.dV) zj;have B3:ay w3 g0 32 [.int .i64 0,.string ⟨#[]⟩,.bool false]:=(ho.aC B1 hne).aa bg (ho.aC B1 hne).lt;have z0:=B3.cell 0;have z1:=B3.cell 1;have z2:=B3.cell 2;have hzf:=B3.frozen;simp only[au,aL]at z0 z1 z2;have LQ:Zn g0:= .inl (by rw[<-jz];exact h.ctx.lo);obtain⟨o4,B4⟩:=mD B3 (.int .i64 0) (.string ⟨#[]⟩) (.bool true);have hD3:=hD.aa bg;have HQ:(aip V ms time w (.returned wN) (((w3.setCell ⟨g0,0,none⟩ (.int .i64 0)).setCell ⟨g0,1,none⟩ (.string ⟨#[]⟩)).setCell ⟨g0,2,none⟩ (.bool true))):=by have ano:=hgo.aa bg hgo.lt;have hng:go≠g0:=λe=>absurd ((e▸ano.dV).dv B3.dV) zj;refine⟨rfl,((((lV.ae aI).trans (mC (h.aa aI) ho)).trans (.ae bg)).new o4 (λk hk=>by omega) h.ctx.lo),go,r,g2,mJ,hD3.bQ o4 (aD B3) zj (λk hk=>hk▸LQ),o4.aC ano hng,(EX.aa bg).kinds o4 (aD B3) zj zj,ao aI.size h1,ao aI.size h2⟩
 go_wp2_with fail;exact bH (nV rfl rfl B4) rfl HQ
def aaA(o:Pl.jb)(w:World)(e:Ending)(w':World):Prop:=
 e= .returned wN/\lV V.gM w w'/\∃nA,cU (V.put (Pl.aul V.b o).2 nA) 0 (aU go) ms w'/\gW go B time r g2 jX (os++ [o]) w'
theorem Qc(row:List Pl.Vl)(A:Option Addr)(n ca:Nat)(w:World)(h:cU V 0 (aU go) ms w)(hop:gW go B time r g2 jX os w)
 (hn:row.length=n) (P8:n<=100) (hs:Src w A (vcs row)) (YN:os.length<16) (hY:pW V.aA V.b ⟨2,nm,[],row⟩) (kj:V.b.count<1000000000):
 bG 42 #[aU V.gD,.string (ar nm),.slice A n ca] w (aaA V ms go B time r g2 jX os ⟨2,nm,[],row⟩ w):=by
 obtain⟨w1,dj⟩:=ze (w.alloc wL);obtain⟨g0,jz⟩:=ze w.heap.size;have aI:=zb dj;have B1:=zB dj jz;have HB:=Nu V ms go B time r g2 jX os nm row A n ca w1 (h.aa aI) (hop.aa aI) hn P8 (hs.aa aI) YN hY kj;have HX:=sS h aI B1 jz;unfold wL at dj;go_enter Tryz.func42,Tryz.ntmps42;go_wp2_with fail;refine HB.mono ?_;rintro e w2 ⟨rfl,hf,nA,hD,hO⟩;have HT:=mf .nilIface 0 ⟨#[]⟩ w2 hD.ctx.ge (lz w2 0) zj;have HY:=zd hf hD hO;go_wp2_with fail;refine HT.mono ?_;rintro e w3 ⟨rfl,bg⟩;obtain⟨hf,hD,hO⟩:=id HY;obtain⟨h,aI,B1,jz⟩:=id HX;have pj:g0≠V.gM:=λe=>by obtain⟨f,hm⟩:=(h.aa aI).book.tq.map;exact hm.kz _ (e▸B1.dV)
 have B2:ay w2 g0 32 [.int .i64 0,.string ⟨#[]⟩,.bool false]:=hf.1.aC B1 zj pj;have B3:=B2.aa bg B2.lt;have z0:=B3.cell 0;have z1:=B3.cell 1;have z2:=B3.cell 2;have hzf:=B3.frozen;simp only[au,aL]at z0 z1 z2;have LQ:Zn g0:= .inl (by rw[<-jz];exact h.ctx.lo);obtain⟨o4,B4⟩:=mD B3 (.int .i64 0) (.string ⟨#[]⟩) (.bool true);have HQ:(aaA V ms go B time r g2 jX os ⟨2,nm,[],row⟩ w (.returned wN) (((w3.setCell ⟨g0,0,none⟩ (.int .i64 0)).setCell ⟨g0,1,none⟩ (.string ⟨#[]⟩)).setCell ⟨g0,2,none⟩ (.bool true))):=
  ⟨rfl,((((lV.ae aI).trans hf).trans (.ae bg)).new o4 (λk hk=>by omega) h.ctx.lo),nA,(hD.aa bg).bQ o4 (aD B3) zj (λk hk=>hk▸LQ),(hO.aa bg).frame o4 (λk t hk mr=>by subst hk;rw[mr.dv B3.dV];decide)⟩
 go_wp2_with fail;exact bH (nV rfl rfl B4) rfl HQ
theorem NP(aZ:List Pl.Cl)(A:Option Addr)(n ca:Nat)(w:World)(h:cU V 0 (aU go) ms w)(hop:gW go B time r g2 jX os w)
 (hn:aZ.length=n) (P8:n<=100) (hs:Src w A (mq aZ)) (YN:os.length<16) (hY:pW V.aA V.b ⟨1,nm,aZ,[]⟩) (kj:V.b.count<1000000000):
 bG 62 #[aU V.gD,.string (ar nm),.slice A n ca] w (aaA V ms go B time r g2 jX os ⟨1,nm,aZ,[]⟩ w):=by
 obtain⟨w1,dj⟩:=ze (w.alloc wL);obtain⟨g0,jz⟩:=ze w.heap.size;have aI:=zb dj;have B1:=zB dj jz;have HB:=Nz V ms go B time r g2 jX os nm aZ A n ca w1 (h.aa aI) (hop.aa aI) hn P8 (hs.aa aI) YN hY kj;have HX:=sS h aI B1 jz;unfold wL at dj;go_enter Tryz.func62,Tryz.ntmps62;go_wp2_with fail;refine HB.mono ?_;rintro e w2 ⟨rfl,hf,nA,hD,hO⟩;have HT:=mf .nilIface 0 ⟨#[]⟩ w2 hD.ctx.ge (lz w2 0) zj;have HY:=zd hf hD hO;go_wp2_with fail;refine HT.mono ?_;rintro e w3 ⟨rfl,bg⟩;obtain⟨hf,hD,hO⟩:=id HY;obtain⟨h,aI,B1,jz⟩:=id HX;have pj:g0≠V.gM:=λe=>by obtain⟨f,hm⟩:=(h.aa aI).book.tq.map;exact hm.kz _ (e▸B1.dV)
 have B2:ay w2 g0 32 [.int .i64 0,.string ⟨#[]⟩,.bool false]:=hf.1.aC B1 zj pj;have B3:=B2.aa bg B2.lt;have z0:=B3.cell 0;have z1:=B3.cell 1;have z2:=B3.cell 2;have hzf:=B3.frozen;simp only[au,aL]at z0 z1 z2;have LQ:Zn g0:= .inl (by rw[<-jz];exact h.ctx.lo);obtain⟨o4,B4⟩:=mD B3 (.int .i64 0) (.string ⟨#[]⟩) (.bool true);have HQ:(aaA V ms go B time r g2 jX os ⟨1,nm,aZ,[]⟩ w (.returned wN) (((w3.setCell ⟨g0,0,none⟩ (.int .i64 0)).setCell ⟨g0,1,none⟩ (.string ⟨#[]⟩)).setCell ⟨g0,2,none⟩ (.bool true))):=
  ⟨rfl,((((lV.ae aI).trans hf).trans (.ae bg)).new o4 (λk hk=>by omega) h.ctx.lo),nA,(hD.aa bg).bQ o4 (aD B3) zj (λk hk=>hk▸LQ),(hO.aa bg).frame o4 (λk t hk mr=>by subst hk;rw[mr.dv B3.dV];decide)⟩
 go_wp2_with fail;exact bH (nV rfl rfl B4) rfl HQ
theorem Cw{fn:Func}{t s:Tmp}{tmps:Array Value}{w:World}{g:Nat}(h:fn.results= #[.tmp s,.cell t 32])(ht:tmps.getD t undef= .pointer (some ⟨g,0,none⟩))(hs:tmps.getD s undef=a)(hB:ay w g 32 [.int .i64 0,.string ⟨#[]⟩,.bool true]):
 (results fn tmps).run Tryz.prog w= .ok (.tuple #[a,wN]) w:=by
 have c0:=hB.cell 0;have c1:=hB.cell 1;have c2:=hB.cell 2;simp only[au,aL]at c0 c1 c2;simp only[fF]at ht hs;simp[results,h,ht,hs,go_sem,c0,c1,c2,asAddr,wN]
theorem FJ(x:Pl.fh)(Q:List Pl.fh)(w:World)(h:cU V 0 (aU go) ms w)(hop:gW go B (sig x.time) r g2 V.b.count x.ops w)
 (gP:Pl.nz x) (hg:Pl.Good Q V.b) (hr:V.b.ps.length+20<=V.aA) (N6:su V) (hp:(Pl.bj x).length<=230) (kj:V.b.count<1000000) (hne:x.ops≠ []):
 bG 63 #[aU V.gD] w λe w'=>e= .returned (.tuple #[.int .i64 ((V.b.count+1:Nat):Int),wN])/\abE V 0 ms x w w':=by
 obtain⟨w1,dj⟩:=ze (w.alloc wL);obtain⟨g0,jz⟩:=ze w.heap.size;have aI:=zb dj;have B1:=zB dj jz;have HB:=UF V ms go B r g2 x Q w1 (h.aa aI) (hop.aa aI) gP hg hr N6 hp kj hne;obtain⟨c1,rX⟩:=ze (V.b.count+1);rw[rX]at HB|-
 have HB:=HB;have HX:=sS h aI B1 jz;unfold wL at dj;go_enter Tryz.func63,Tryz.ntmps63;go_wp2_with fail;refine HB.mono ?_;rintro e w2 ⟨rfl,hf,nA,iw,gj,l',d',hD,jy⟩;have HT:=mf .nilIface 0 ⟨#[]⟩ w2 hD.ctx.ge (lz w2 0) zj;have HY:=zd hf hD jy;go_wp2_with fail;refine HT.mono ?_;rintro e w3 ⟨rfl,bg⟩;obtain⟨hf,hD,jy⟩:=id HY;obtain⟨h,aI,B1,jz⟩:=id HX;have pj:g0≠V.gM:=λe=>by obtain⟨f,hm⟩:=(h.aa aI).book.tq.map;exact hm.kz _ (e▸B1.dV)
 have B2:ay w2 g0 32 [.int .i64 0,.string ⟨#[]⟩,.bool false]:=hf.1.aC B1 zj pj;have B3:=B2.aa bg B2.lt;have z0:=B3.cell 0;have z1:=B3.cell 1;have z2:=B3.cell 2;have hzf:=B3.frozen;simp only[au,aL]at z0 z1 z2;have LQ:Zn g0:= .inl (by rw[<-jz];exact h.ctx.lo);obtain⟨o4,B4⟩:=mD B3 (.int .i64 0) (.string ⟨#[]⟩) (.bool true);have HQ:(abE V 0 ms x w (((w3.setCell ⟨g0,0,none⟩ (.int .i64 0)).setCell ⟨g0,1,none⟩ (.string ⟨#[]⟩)).setCell ⟨g0,2,none⟩ (.bool true))):=
  ⟨((((lV.ae aI).trans hf).trans (.ae bg)).new o4 (λk hk=>by omega) h.ctx.lo),nA,iw,gj,l',d',(hD.aa bg).bQ o4 (aD B3) zj (λk hk=>hk▸LQ),jy⟩
 go_wp2_with fail;exact bH (Cw rfl rfl rfl B4) rfl ⟨rfl,HQ⟩
def aoM:Prop:=
 ∃A aB,e= .returned (.tuple #[.slice A l.length aB,wN])/\l.length<=aB/\dn w' A (bv l) 5/\cU V 0 op ms w'/\lV V.gM w w'
theorem agn(h:cU V 0 op ms w)(uc:1<=n)(mV:n<=V.b.count)(og:V.b.count<1000000)(hroom:V.aA<=100000)(hl:(Pl.jw (Pl.jU (Pl.aum 112 n [])) V.b.ps).flatMap Pl.Pr.val=l):
 bG 11 #[aU V.gD,.int .i64 (n:Nat)] w (aoM V op ms l w):=by
 obtain⟨w1,dj⟩:=ze (w.alloc wL);obtain⟨g0,jz⟩:=ze w.heap.size;have aI:=zb dj;have B1:=zB dj jz;have HB:=akc V op ms n l w1 (h.aa aI) uc mV og hroom hl;have HX:=sS h aI B1 jz;unfold wL at dj;go_enter Tryz.func11,Tryz.ntmps11;go_wp2_with fail;refine HB.mono ?_;rintro e w2 ⟨A,aB,rfl,fo,ht,hD,hf⟩;have HT:=mf .nilIface 0 ⟨#[]⟩ w2 hD.ctx.ge (lz w2 0) zj;have HY:=sS hf hD fo ht;obtain⟨m,hm⟩:=ze l.length;have HM:=hm;rw[hm];go_wp2_with fail;refine HT.mono ?_;rintro e w3 ⟨rfl,bg⟩;obtain⟨hf,hD,fo,ht⟩:=id HY;obtain⟨h,aI,B1,jz⟩:=id HX;have pj:g0≠V.gM:=λe=>by obtain⟨f,hm⟩:=(h.aa aI).book.tq.map;exact hm.kz _ (e▸B1.dV)
 have B2:ay w2 g0 32 [.int .i64 0,.string ⟨#[]⟩,.bool false]:=hf.1.aC B1 zj pj;have B3:=B2.aa bg B2.lt;have z0:=B3.cell 0;have z1:=B3.cell 1;have z2:=B3.cell 2;have hzf:=B3.frozen;simp only[au,aL]at z0 z1 z2;have LQ:Zn g0:= .inl (by rw[<-jz];exact h.ctx.lo);obtain⟨o4,B4⟩:=mD B3 (.int .i64 0) (.string ⟨#[]⟩) (.bool true);have HQ:(aoM V op ms l w (.returned (.tuple #[.slice A m aB,wN])) (((w3.setCell ⟨g0,0,none⟩ (.int .i64 0)).setCell ⟨g0,1,none⟩ (.string ⟨#[]⟩)).setCell ⟨g0,2,none⟩ (.bool true))):=
  ⟨A,aB,by rw[HM],fo,(ht.bQ bg).jL o4 (λp hp e=>absurd ((e▸(ht.bQ bg).2 p hp).dv B3.dV) zj),(hD.aa bg).bQ o4 (aD B3) zj (λk hk=>hk▸LQ),((((lV.ae aI).trans hf).trans (.ae bg)).new o4 (λk hk=>by omega) h.ctx.lo)⟩
 go_wp2_with fail;exact bH (Cw rfl rfl rfl B4) rfl HQ
def D9:Prop:=w.heap.size<=w'.heap.size/\∀k t cs,ay w k t cs->t∉LJ++jc->ay w' k t cs
theorem D9.trans{a b c:World}(h:D9 a b)(k:D9 b c):D9 a c:=⟨ao h.1 k.1,λi t cs hb ht=>k.2 i t cs (h.2 i t cs hb ht) ht⟩
theorem D9.ae{w w':World}(h:dP w w'):D9 w w':=⟨h.size,λ_ _ _ hb _=>hb.aa h hb.lt⟩
def alx:Prop:=
 e= .returned wN/\Ctx w'/\Gl w w'/\D9 w w'/\∃(d':Pl.Dk) (s:Pl.ST 0) (cO:Int),aJ w' g vD d' cO/\d'.aW<0/\d'.aV.length=4096/\BQ d' 24 4072 1 (Pl.top 0 s) (Pl.fc 4072 (Pl.fg 0 s))/\Pl.yJ (λj=>d'.look (24+j)) 4072 0 s ([]:List Pl.Pr)/\agE d'
theorem QN(w:World)(h:aJ w g v d rd)(bU:d.aV.length=4096)(hl:d.aW<0)(hs:Pl.Sound d.aV)(hc:Ctx w)(hz:∀k,dF g v k->Zn k):
 bG 61 #[.pointer (some ⟨g,0,none⟩)] w (alx g v w):=by
 obtain⟨w1,dj⟩:=ze (w.alloc wL);obtain⟨g0,jz⟩:=ze w.heap.size;have aI:=zb dj;have B1:=zB dj jz;have HB:=Vb g v d rd w1 (h.aa aI) bU hl (hc.aa aI) hz;have HX:=ze9 h bU hl hs hc hz aI B1 jz;unfold wL at dj;go_enter Tryz.func61,Tryz.ntmps61;go_wp2_with fail;refine HB.mono ?_;rintro e w2 ⟨rfl,wm,hom,Ug⟩;obtain⟨h,bU,hl,hs,hc,hz,aI,B1,jz⟩:=id HX;have rP:bR (dF g v) w1 [108,190]:=(h.aa aI).kinds;have hcm:Ctx wm:=(hc.aa aI).gl (hom.mono (λk _ hk=>hz k hk));have lC:Ctx w2:=hcm.gl Ug.2.1.2.2;have tN:Gl w w2:=(ag.ae aI _).aE ((hom.mono (λk _ hk=>hz k hk)).aE Ug.2.1.2.2);have Kc:D9 w w2:=(D9.ae aI).trans ⟨ao hom.size Ug.1.size,λk t cs hB hn=>Ug.1.aC (hom.cY rP hB (λhc=>hn (by rcases cV.1 hc with rfl|hc;decide;rw[dU.1 hc];decide))) (λhc=>hn (List.mem_append_right _ hc))⟩;have X9:=(OH hl);have hop:=Ug.akf (by rw[X9.2.1];exact hl) (by rw[X9.2.2,bU];decide) zj;have B2:ay w2 g0 32 [.int .i64 0,.string ⟨#[]⟩,.bool false]:=(Ug.1.aC (hom.cY rP B1 zj) zj);have HT:=mf .nilIface 0 ⟨#[]⟩ w2 lC.ge (lz w2 0) zj;have HY:=TV lC tN Kc hop B2;go_wp2_with fail;refine HT.mono ?_;rintro e w3 ⟨rfl,bg⟩;obtain⟨lC,tN,Kc,hop,B2⟩:=id HY;obtain⟨h,bU,hl,hs,hc,hz,aI,B1,jz⟩:=id HX;have B3:=B2.aa bg B2.lt;have z0:=B3.cell 0;have z1:=B3.cell 1;have z2:=B3.cell 2;have hzf:=B3.frozen;simp only[au,aL]at z0 z1 z2;have LQ:Zn g0:= .inl (by rw[<-jz];exact hc.lo);obtain⟨o4,B4⟩:=mD B3 (.int .i64 0) (.string ⟨#[]⟩) (.bool true);have HQ:(alx g v w (.returned wN) (((w3.setCell ⟨g0,0,none⟩ (.int .i64 0)).setCell ⟨g0,1,none⟩ (.string ⟨#[]⟩)).setCell ⟨g0,2,none⟩ (.bool true))):=by
  obtain⟨d',s,cO,k1,k2,k3,k4,k5,k6,k7⟩:=hop;have X9:=(OH hl);have Ze:ag Zn w3 _:=o4.mono (λk _ hk=>hk▸LQ);refine⟨rfl,(lC.aa bg).gl Ze,(tN.aE (ag.ae bg _)).aE Ze,⟨ao (ao Kc.1 bg.size) o4.size,λk t cs hB hn=>?_⟩,d',s,cO,((k1.aa bg).only o4 (λk hk e=>?_)),k2,by rw[k3,X9.2.2,bU],k4,k5,Sg hl hs bU k2 (λj hj=>k7 j hj)⟩
  ·have h3:=(Kc.2 k t cs hB hn).aa bg (Kc.2 k t cs hB hn).lt;exact o4.aC h3 (λe=>by have:=hB.lt;omega)
  ·subst e;obtain⟨t,h1,h2⟩:=(k1.aa bg).kinds k hk;exact absurd (h2.dv B3.dV▸h1) zj
 go_wp2_with fail;exact bH (nV rfl rfl B4) rfl HQ
def ahH(w:World)(e:Ending)(w':World):Prop:=
 ∃V:ia,e= .returned (.tuple #[aU V.gD,wN])/\cU V 0 (.pointer none) [] w'/\V.b=⟨[],none,0⟩/\V.l=lgE/\V.E.d=d/\V.E.m.first=24/\V.aA=aA/\V.E.m.g=g/\V.E.vD=vD/\lW LJ noB w w'/\ag Zn w w'
theorem QD(w:World)(h:aJ w g vD d rd)(hl:d.aW<0)(bU:d.aV.length=4096)(hs:BQ d 24 4072 1 (Pl.top 0 s) (Pl.fc 4072 (Pl.fg 0 s)))(hO:Pl.yJ (λj=>d.look (24+j)) 4072 0 s ([]:List Pl.Pr))(VI:agE d)(hc:Ctx w)(hz:∀k,dF g vD k->Zn k)(hr:2*aA+Pl.fc 4072 (Pl.fg 0 s)+2<=4072)(h1:1<=aA):
 bG 21 #[.pointer (some ⟨g,0,none⟩)] w (ahH g vD d aA w):=by
 obtain⟨w1,dj⟩:=ze (w.alloc wL);obtain⟨g0,jz⟩:=ze w.heap.size;have aI:=zb dj;have B1:=zB dj jz;have HB:=VZ g vD d rd s aA w1 (h.aa aI) hl bU hs hO VI (hc.aa aI) hz hr h1;have HX:=sS hc aI B1 jz;unfold wL at dj;go_enter Tryz.func21,Tryz.ntmps21;go_wp2_with fail;refine HB.mono ?_;rintro e w2 ⟨V,rfl,hD,q⟩;have HT:=mf .nilIface 0 ⟨#[]⟩ w2 hD.ctx.ge (lz w2 0) zj;have HY:=And.intro hD q;obtain⟨gD,iJ⟩:=ze V.gD;unfold aU;rw[iJ];go_wp2_with fail;refine HT.mono ?_;rintro e w3 ⟨rfl,bg⟩;obtain⟨hD,q1,q2,q3,q4,q5,q6,q7,q8,q9⟩:=id HY;obtain⟨hc,aI,B1,jz⟩:=id HX;have B2:ay w2 g0 32 [.int .i64 0,.string ⟨#[]⟩,.bool false]:=q8.aC B1 zj (λh=>h);have B3:=B2.aa bg B2.lt;have z0:=B3.cell 0;have z1:=B3.cell 1;have z2:=B3.cell 2;have hzf:=B3.frozen;simp only[au,aL]at z0 z1 z2;have LQ:Zn g0:= .inl (by rw[<-jz];exact hc.lo);obtain⟨o4,B4⟩:=mD B3 (.int .i64 0) (.string ⟨#[]⟩) (.bool true);have HQ:(ahH g vD d aA w (.returned (.tuple #[.pointer (some ⟨gD,0,none⟩),wN])) (((w3.setCell ⟨g0,0,none⟩ (.int .i64 0)).setCell ⟨g0,1,none⟩ (.string ⟨#[]⟩)).setCell ⟨g0,2,none⟩ (.bool true))):=
  ⟨V,by rw[<-iJ];rfl,(hD.aa bg).bQ o4 (aD B3) zj (λk hk=>hk▸LQ),q1,q2,q3,q4,q5,q6,q7,(((lW.ae aI).trans q8).trans (.ae bg)).since o4 (λx hx e=>by omega),((((ag.ae aI _).aE q9).aE (ag.ae bg _)).aE (o4.mono (λk _ hk=>hk▸LQ)))⟩
 go_wp2_with fail;exact bH (Cw rfl rfl rfl B4) rfl HQ
namespace Pl
structure Ln where
 key:Nat
 word:List UInt8
 from_:Nat
def sC(k:Nat):List Ln->Nat->Int
 | [],_=> -1
 |x::r,i=>if x.key=k then(i:Int)else sC k r (i+1)
theorem WS{k:Nat}{l:List Ln}{i:Nat}{x:Ln}(h:l[i]?=some x):sC k (l.drop i) i=if x.key=k then(i:Int)else sC k (l.drop (i+1)) (i+1):=by obtain⟨hi,e⟩:=cR.1 h;rw[fT hi,e];rfl
theorem Jz{k:Nat}:∀(l:List Ln) (i:Nat),(∀x∈l,x.key≠k)->sC k l i= -1
 | [],_,_=>rfl
 |x::r,i,h=>by unfold sC;rw[aj zw,Jz r (i+1) zw]
def aeC(x:Ln)(s:List Ln×Bool)(p:Ln):List Ln×Bool:=if x.key<p.key/\s.2=false then(s.1++ [x]++ [p],true)else(s.1++ [p],s.2)
def vK(x:Ln)(l:List Ln):List Ln×Bool:=l.foldl (aeC x) ([],false)
def FE(x:Ln)(l:List Ln):List Ln:=if(vK x l).2 then(vK x l).1 else(vK x l).1++ [x]
theorem UU{x:Ln}{l:List Ln}{i:Nat}{p:Ln}(hp:l[i]?=some p):vK x (l.take (i+1))=aeC x (vK x (l.take i)) p:=by unfold vK;rw[eK,hp,rz];rfl
theorem Xe{x:Ln}{l:List Ln}(h:∀y∈l,y.key<=x.key):FE x l=l++ [x]:=by
 have:∀(m a:List Ln),(∀y∈m,y.key<=x.key)->m.foldl (aeC x) (a,false)=(a++m,false):=by
  intro m
  induction m with
  |nil=>simp
  |cons y m ih=>
   intro a hm;rw[qT];have:aeC x (a,false) y=(a++ [y],false):=by
    unfold aeC
    grind
   grind
 unfold FE vK
 grind
end Pl
variable {w w':World} {v:Value} {l:List Pl.Ln} {aq:Nat}
def Z0(x:Pl.Ln):List Value:=[.int .i64 (x.key:Nat),.string (ar x.word),.int .i64 (x.from_:Nat)]
def qe(l:List Pl.Ln):List Value:=l.flatMap Z0
theorem Tw(a b:List Pl.Ln):qe (a++b)=qe a++qe b:=by simp[qe]
theorem xw(l:List Pl.Ln):∀u∈qe l,u.oneCell'=true:=by intro u hu;obtain⟨x,_,hx⟩:=lQ.1 hu;unfold Z0 at hx;simp at hx;rcases hx with rfl|rfl|rfl<;>rfl
def sU(w:World)(v:Value)(l:List Pl.Ln):Prop:=∃A aB,v= .slice A l.length aB/\l.length<=aB/\dn w A (qe l) 97
theorem sU.nil(w:World):sU w (.slice none 0 0) []:=⟨none,0,rfl,ai _,.inl rfl,zu⟩
theorem sU.aa(h:sU w v l)(hb:Below w.heap.size w w'):sU w' v l:=by obtain⟨A,aB,e,hc,hs⟩:=h;exact⟨A,aB,e,hc,hs.bQ hb⟩
theorem sU.frame{F:Nat->Prop}(h:sU w v l)(ho:ag F w w')(hF:∀k,F k->¬jh w k 97):sU w' v l:=by obtain⟨A,aB,e,hc,hs⟩:=h;exact⟨A,aB,e,hc,hs.jL ho (λp hp hf=>hF _ hf (hs.2 p hp))⟩
theorem sU.TY{ts:List TypeId}{bs:Nat->Prop}(h:sU w v l)(hx:lW ts bs w w')(ht:97∉ts)(hb:∀k,bs k->¬jh w k 97):sU w' v l:=by obtain⟨A,aB,e,hc,hs⟩:=h;exact⟨A,aB,e,hc,hx.eo hs ht (λp hp hk=>hb _ hk (hs.2 p hp))⟩
theorem Tryz.xp:Elt 37 97 3:=by obtain⟨i,h1,h2,h3,h4⟩:=bV (show(Tryz.prog.info? 97).map (λi=>(i.zero,i.size,i.bytes))=some (some (.agg #[.int .i64 0,.string ⟨#[]⟩,.int .i64 0]),3,32) by kernel_rfl);exact⟨Tryz.underlying37,⟨i,_,h1,h2,h3,zo,rfl⟩,zo⟩
def vI(w:World)(aq:Nat)(v:Value)(l:List Pl.Ln):Prop:=Rw 97 3 w aq v l.length (qe l)
theorem vI.dm{w:World}{aq:Nat}{v:Value}{l:List Pl.Ln}(h:vI w aq v l):sU w v l:=by obtain⟨A,aB,rfl,h1,h2,_⟩:=h.eo;exact⟨A,aB,rfl,h1,h2⟩
theorem vI.snoc{q:Pl.Ln}(h:Rw 97 3 w aq v (l.length+1) (qe l++qe [q])):vI w aq v (l++ [q]):=by unfold vI;rw[Tw,ax];exact h
theorem Mv.IE{w0 a b:World}{u:Value}{e:TypeId}{s n:Nat}{cs:List Value}(de:w0.heap.size=aq)(hb:Below w0.heap.size w0 a)(hr:Rw e s a aq u n cs)(h:Mv a b u v):Below w0.heap.size w0 b:=by subst de;exact Mv.since hb hr h
theorem Hd{fn:Func}{t:Tmp}{tmps:Array Value}{g:Nat}{a b c:Value}(h:fn.results= #[.cell t 88])(ht:tmps.getD t undef= .pointer (some ⟨g,0,none⟩))(hB:ay w g 88 [a,b,c]):
 (results fn tmps).run Tryz.prog w= .ok (.agg #[a,b,c]) w:=by
 have c0:=hB.cell 0;have c1:=hB.cell 1;have c2:=hB.cell 2;simp only[au,aL]at c0 c1 c2;simp only[fF]at ht;simp[results,h,ht,go_sem,c0,c1,c2,asAddr]
theorem anJ(w:World)(x0 x1 x2:Value):∃w1 g,w.alloc (.cells #[.int .i64 0,.int .i64 0,.string ⟨#[]⟩] 88)=w1/\w.heap.size=g/\ay w1 g 88 [.int .i64 0,.int .i64 0,.string ⟨#[]⟩]/\
 Below w.heap.size w (((w1.setCell ⟨g,0,none⟩ x0).setCell ⟨g,1,none⟩ x1).setCell ⟨g,2,none⟩ x2)/\ay (((w1.setCell ⟨g,0,none⟩ x0).setCell ⟨g,1,none⟩ x1).setCell ⟨g,2,none⟩ x2) g 88 [x0,x1,x2]:=by
 obtain⟨w1,dj⟩:∃y,w.alloc (.cells #[.int .i64 0,.int .i64 0,.string ⟨#[]⟩] 88)=y:=by simp
 obtain⟨g,hg⟩:∃y,w.heap.size=y:=by simp
 have hb:=zb dj;have B1:=zB dj hg;exact⟨w1,g,dj,hg,B1,ju hb zo _ _ _,B1.Nj _ _ _⟩
theorem Og(k:Int)(w:World):bG 40 #[.int .i64 k] w λe w'=>e= .returned (.agg #[.int .i64 1,.int .i64 k,.string ⟨#[]⟩])/\Below w.heap.size w w':=by obtain⟨w1,g,dj,hg,B1,hb,B2⟩:=anJ w (.int .i64 1) (.int .i64 k) (.string ⟨#[]⟩);obtain⟨c0,c1,c2,f0,f1,f2⟩:=dD B1;rw[hg];rw[hg]at hb;go_enter Tryz.func40,Tryz.ntmps40;go_wp2_with fail;exact bH (Hd rfl rfl B2) rfl ⟨rfl,hb⟩
theorem Xb(s:ByteArray)(w:World):bG 41 #[.string s] w λe w'=>e= .returned (.agg #[.int .i64 2,.int .i64 0,.string s])/\Below w.heap.size w w':=by obtain⟨w1,g,dj,hg,B1,hb,B2⟩:=anJ w (.int .i64 2) (.int .i64 0) (.string s);obtain⟨c0,c1,c2,f0,f1,f2⟩:=dD B1;rw[hg];rw[hg]at hb;go_enter Tryz.func41,Tryz.ntmps41;go_wp2_with fail;exact bH (Hd rfl rfl B2) rfl ⟨rfl,hb⟩
theorem aar(k:Nat)(l:List Pl.Ln)(v:Value)(w:World)(h:sU w v l)(hn:l.length<=100000):
 bG 39 #[v,.int .i64 (k:Nat)] w λe w'=>e= .returned (.int .i64 (Pl.sC k l 0))/\w=w':=by
 obtain⟨A,aB,rfl,hc,hs⟩:=h;obtain⟨n,kG⟩:=ze l.length;rw[kG]at hn hc|-
 go_enter Tryz.func39,Tryz.ntmps39;go_wp2_with fail
 go_loopw [5] (λi wr=>∃j:Nat,j<=n/\i= .int .i64 (j:Int)/\Hid (Pl.sC k l 0=Pl.sC k (l.drop j) j)/\w=wr) (λi _=>n-(intOf i).toNat)
 case atStart=>exact⟨0,aM _,rfl,rfl,rfl⟩
 case round=>
  obtain⟨j,hj,rfl,HP,rfl⟩:=hrel;by_cases hjn:j<n
  ·obtain⟨p,hp⟩:∃p,l[j]?=some p:=⟨_,aF (by rw[kG];exact hjn)⟩;have dm:=jB (f:=Z0) (s:=3) (λ_=>rfl) l j p hp;obtain⟨b2,off,rfl,g0⟩:=hs.1.dm _ _ (dm 0 zo);rw[cI]at g0;have q1:(j:Int)<(n:Int):=zo;have hwj:IntKind.i64.wrap ((j:Int)+1)=(j:Int)+1:=aY _ zo;obtain⟨y,hy⟩:=ze p.key;have jz:w.cell? ⟨b2,off+j*3,none⟩=some (.int .i64 (y:Nat)):=by rw[<-hy];exact g0
   have PA:(Pl.sC k l 0=if y=k then(j:Int)else Pl.sC k (l.drop (j+1)) (j+1)):=by rw[HP.out,Pl.WS hp,hy]
   by_cases hk:y=k
   ·have TE:(Pl.sC k l 0=j):=by rw[PA,ah hk]
    have q2:((y:Int)==(k:Int))=true:=uz.2 zo;go_wp2_with fail;go_ret;exact⟨by rw[TE];rfl,by trivial⟩
   ·have TE:(Pl.sC k l 0=Pl.sC k (l.drop (j+1)) (j+1)):=by rw[PA,aj hk]
    have q2:((y:Int)==(k:Int))=false:=b9.2 zo;go_wp2_with fail;exact⟨⟨j+1,zo,by go_num,TE,by trivial⟩,by simp[intOf];omega⟩
  ·obtain rfl:j=n:=zo;have q1:decide ((j:Int)<(j:Int))=false:=aH zo;have h8:Pl.sC k l 0= -1:=by have:=HP.out;rw[ub (by rw[kG];omega)]at this;rw[this];rfl
   go_wp2_with fail;go_ret;exact⟨by rw[h8];rfl,by trivial⟩
end Go.Proofs.YtbhpofdafhahgaaGreatDoor
