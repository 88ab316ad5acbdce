/- A configuration as bytes: the walks of config's split and Put. -/
import Derived.Ground.SlmcProg
import Derived.Shelf.SlMaps.Clone
import Derived.StillTailTactics
import Derived.Test.YtjdgpcjbgjnahaaGreatDoorE12
import Derived.Test.YtjdgpcjbgjnahaaGreatDoorE10
import Derived.Test.YtjdgpcjbgjnahaaGreatDoorE9
import Derived.Test.YtjdgpcjbgjnahaaGreatDoorE11
import Derived.Test.YtjdgpcjbgjnahaaGreatDoorE1
set_option maxRecDepth 10000
set_option maxHeartbeats 1600000
set_option linter.unusedSimpArgs false
set_option linter.unusedVariables false
/- forest: Copy. -/
namespace Go.Proofs.YtjdgpcjbgjnahaaGreatDoor
open Go.RowKit Classical
def Tryz.laysCloneM_ren:Go.Shelf.Ren:=⟨fun|5=>123|7=>159|n=>n,fun|23=>150|25=>3|3=>184|4=>4|20=>20|n=>n,fun|n=>n⟩
theorem Tryz.laysCloneM:Go.Proofs.SlLaysW.n5 Tryz.prog Tryz.laysCloneM_ren:={
  mixed:=by kernel_rfl
  f5:=⟨Tryz.f123.name,by decide,Tryz.func123.trans (congrArg some (by kernel_rfl))⟩
  f7:=Tryz.func159.trans (congrArg some (by kernel_rfl))
  t4:=Tryz.underlying4
  a4:=Tryz.isAgg4
  z4:=Tryz.sizeOf4
  v4:=Tryz.zeroValue4
  t20:=Tryz.underlying20
  a20:=Tryz.isAgg20
  z20:=Tryz.sizeOf20
  v20:=Tryz.zeroValue20
  t23:=Tryz.underlying150
  a23:=Tryz.isAgg150
  z23:=Tryz.sizeOf150
  v23:=Tryz.zeroValue150 }
theorem aFO{w:World}{mb n:Nat}{m:Int->Option Value}(h:dA Tryz.prog 3 .i64 okA w mb m n):
    Calls Tryz.prog 123 #[.map (some mb)] w fun e w' =>e=.returned (.map (some w.heap.size))/\dA Tryz.prog 3 .i64 okA w' w.heap.size m n/\Fr [] w w' :=by
 obtain⟨D,h1,h2,h3,h4⟩:=h;refine(AnyW.maps_Clone_owns Tryz.laysCloneM 3 (sS okA) mb n D w h1).mono ?_;rintro _ w' ⟨rfl,k1,_,hB⟩;exact⟨rfl,⟨D,k1,h2,h3,h4⟩,Fr.of_below hB⟩
theorem aSI{w:World}{pf S V:Nat}{G:bX}{L:List Nat}(h:FAt w pf S V G L):Calls Tryz.prog 78 #[cH pf] w fun e w' =>∃pf', e=.returned (cH pf')/\∃L', FAt w' pf' S V G L' /\ Fr [] w w' /\ ∀q∈L', w.heap.size<=q:=by
 obtain⟨pl,g,ph,mb,l,key,n,h1,hH,hD,rfl⟩:=h;have hlt:=h1.lt;have hS:=h1.leS;have hV:=h1.leV;have c0:=h1.hd.cell 0;have c1:=h1.hd.cell 1;have c2:=h1.hd.cell 2;have c3:=h1.hd.cell 3;have c4:=h1.hd.cell 4;have c5:=h1.hd.cell 5;simp only[zJ,zK]at c0 c1 c2 c3 c4 c5;have HV:=qA (iM h1);have H:=qA h1;have HH:=qA hH;have HD:=qA hD;have HC1:=qA (fun(w' :World) (hf:Fr [] w w')=>aVS (LG.fr h1.lct hf (by simp) (by simp)));have HC2:=qA (fun(w' :World) (hf:Fr [] w w')=>aHL (hH.fr hf (by simp)));have HC3:=qA (fun(w' :World) (hf:Fr [] w w')=>aFO (h1.edges.same (hf.keep mb h1.edges.lt (by simp))));clear h1 hH hD;obtain⟨tr,htr⟩:∃tr,tr=cF S (aG G):=⟨_,rfl⟩;rw[<-htr]at c5;have HTR:=qA htr;clear htr;go_enter Tryz.func78,Tryz.ntmps78
 go_wp2_with fail
 refine HV.out.mono ?_;rintro _ w ⟨rfl,rfl⟩;go_wp2_with fail
 have hFa:Fr [] w (w.alloc (.cells #[.int .i64 V,.int .i64 S,cH pl,cH ph,.map (some mb),.int .i64 tr] 152)):=(Fr.refl [] w).alloc _;have hB0:Blk (w.alloc (.cells #[.int .i64 V,.int .i64 S,cH pl,cH ph,.map (some mb),.int .i64 tr] 152)) w.heap.size 152 [.int .i64 V,.int .i64 S,cH pl,cH ph,.map (some mb),.int .i64 tr]:=Blk.new w _ _;refine(HC1.out _ hFa).mono ?_;rintro _ w2 ⟨pl', g', rfl,hL2,hF2,hp2,hg2⟩;have hb2:=hF2.blk hB0 (by simp);have d2:=hb2.cell 2;have z2:=hb2.frozen 2;simp only[zJ,zK]at d2;have hne:pf≠w.heap.size:=by have:=H.out.hd.lt;omega
 have e3:=(hFa.trans' hF2).cell c3 (by simp);have e4:=(hFa.trans' hF2).cell c4 (by simp);have HF2:=qA (zI (hFa.trans' hF2) (zI hb2 (zI hL2 (zI hp2 hg2))));clear hFa hB0 hF2 hb2 hL2 hp2 hg2;go_wp2_with fail
 have hF2s:Fr [] w (w2.setCell ⟨w.heap.size,2,none⟩ (cH pl')):=HF2.out.1.setCell _ _ (.inr (qK _));refine(HC2.out _ hF2s).mono ?_;rintro _ w3 ⟨ph', rfl,l', hH3,hF3,hl3⟩;have hb3:=hF3.blk (HF2.out.2.1.set 2 (cH pl')) (by simp);have d3:=hb3.cell 3;have z3:=hb3.frozen 3;simp only[qU,qY,zJ,zK]at d3;have f4:=(hF2s.trans' hF3).cell c4 (by simp);have HF3:=qA (zI (hF2s.trans' hF3) (zI hb3 (zI hH3 (zI hF3 hl3))));clear hF2s hF3 hb3 hH3 hl3 d2 z2 e3 e4;go_wp2_with fail
 have hF3s:Fr [] w (w3.setCell ⟨w.heap.size,3,none⟩ (aP ph')):=HF3.out.1.setCell _ _ (.inr (qK _));refine(HC3.out _ hF3s).mono ?_;rintro _ w4 ⟨rfl,hI4,hF4⟩;have hb4:=hF4.blk (HF3.out.2.1.set 3 (aP ph')) (by simp);have d4:=hb4.cell 4;have z4:=hb4.frozen 4;simp only[qU,qY,zJ,zK]at d4;rw[World.size_setCell]at hI4 ⊢;have HF4:=qA (zI (hF3s.trans' hF4) (zI hb4 (zI hI4 hF4)));clear hF3s hF4 hb4 hI4;go_wp2_with fail
 go_ret;have G2:Fr [w.heap.size] w2 (w4.setCell ⟨w.heap.size,4,none⟩ (.map (some w3.heap.size))):=((((Fr.refl [w.heap.size] w2).setCell _ _ (.inl (by simp))).trans' (HF3.out.2.2.2.1.mono (by simp))).setCell _ _ (.inl (by simp))).trans' (HF4.out.2.2.2.mono (by simp)) |>.setCell _ _ (.inl (by simp))
 have G3:Fr [w.heap.size] w3 (w4.setCell ⟨w.heap.size,4,none⟩ (.map (some w3.heap.size))):=((((Fr.refl [w.heap.size] w3)).setCell _ _ (.inl (by simp))).trans' (HF4.out.2.2.2.mono (by simp))).setCell _ _ (.inl (by simp));have G4:Fr [w.heap.size] w4 (w4.setCell ⟨w.heap.size,4,none⟩ (.map (some w3.heap.size))):=(Fr.refl [w.heap.size] w4).setCell _ _ (.inl (by simp));have k1:=HF2.out.2.2.2;simp only[World.size_alloc]at k1;have k2:=HF2.out.1.size;have k3:=HF3.out.2.2.2.1.size;have k4:=HF3.out.2.2.2.2;rw[World.size_setCell]at k3 k4;have k5:=LG.lts HF2.out.2.2.1;have k6:=HF2.out.2.1.lt;have hlw:=HF3.out.2.2.1.lt;refine⟨w.heap.size,rfl,_,⟨pl', g', ph', w3.heap.size,l', key,n,⟨?_,LG.fr HF2.out.2.2.1 G2 (by simp;omega) (by simp;omega),HF4.out.2.2.1.same (G4.keep _ HF4.out.2.2.1.lt (by simp;omega)),H.out.gw,H.out.keys,H.out.cn,hS,hV,?_,?_,?_,?_,?_⟩,HF3.out.2.2.1.fr G3 (fun b hb=>?_),fun b hb=>?_,rfl⟩,HF4.out.1.setCell _ _ (.inr (qK _)),fun q hq=>?_⟩
 {
 have:=HF4.out.2.1.set 4 (.map (some w3.heap.size));rw[HTR.out]at this;exact this}
 · omega
 · omega
 · omega
 · omega
 · omega
 · have:=k4 b hb;simp;omega
 · have e1:=k4 b hb;have e2:=hlw b hb;omega
 {
 simp only[qB]at hq;rcases hq with rfl|rfl|rfl|rfl|hq
 · omega
 · omega
 · omega
 · omega
 · have:=k4 q hq;omega}
end Go.Proofs.YtjdgpcjbgjnahaaGreatDoor
namespace Go.Proofs.YtjdgpcjbgjnahaaGreatDoor
open Go.RowKit
section
variable {w w' :World} {pw pc ps px pf:Nat} {P:Wp} {Ks lx Lf:List Nat} {cl:Nat->Nat}
theorem aKJ(h:cU w pw pc ps px pf P Ks lx Lf cl):Calls Tryz.prog 31 #[cJ pw] w fun e w' =>e=.returned (.agg #[.int .i64 P.m,.int .i64 P.E,.int .i64 P.V,.int .i64 P.D])/\Fr [] w w' :=by
 have h1:=h.fr0 ((Fr.refl [] w).alloc (.cells #[.int .i64 0,.int .i64 0,.int .i64 0,.int .i64 0] 31));have HV:=qA (dC h1);have c0:=h1.hd.cell 0;have c1:=h1.hd.cell 1;have c2:=h1.hd.cell 2;have c3:=h1.hd.cell 3;have hb:=Blk.new w [.int .i64 P.m,.int .i64 P.E,.int .i64 P.V,.int .i64 P.D] 31;have r0:=hb.cell 0;have r1:=hb.cell 1;have r2:=hb.cell 2;have r3:=hb.cell 3;simp only[zJ,zK]at c0 c1 c2 c3 r0 r1 r2 r3;have HF:=qA ((Fr.refl [] w).alloc (.cells #[.int .i64 P.m,.int .i64 P.E,.int .i64 P.V,.int .i64 P.D] 31));clear h h1 hb;go_enter Tryz.func31,Tryz.ntmps31
 go_wp2_with fail
 refine HV.out.mono ?_;rintro _ _ ⟨rfl,rfl⟩;go_wp2
 exact bodyPost_ret (v:=.agg #[.int .i64 P.m,.int .i64 P.E,.int .i64 P.V,.int .i64 P.D]) (by simp[results,Tryz.results31,go_sem,r0,r1,r2,r3]) rfl ⟨rfl,HF.out⟩
end
structure CpS (w wr:World) (b:Nat) (l:List Value):Prop where
  hd:Blk wr b 38 l
  fr:Fr [] w wr
  lb:w.heap.size=b
section
variable {w wr w' :World} {b:Nat} {l:List Value}
theorem CpS.go(h:CpS w wr b l)(hf:Fr [] wr w'):CpS w w' b l:=⟨hf.blk h.hd (by simp),h.fr.trans' hf,h.lb⟩
theorem CpS.put(h:CpS w wr b l)(i:Nat)(v:Value):CpS w (wr.setCell ⟨b,i,none⟩ v) b (l.set i v):=⟨h.hd.set i v,h.fr.setCell _ _ (.inr (Nat.le_of_eq h.lb)),h.lb⟩
theorem CpS.one(_h:CpS w wr b l)(i:Nat)(v:Value):Fr [b] wr (wr.setCell ⟨b,i,none⟩ v):=(Fr.refl _ _).setCell _ _ (.inl (by simp))
end
section
variable {w w' :World} {pw pc ps px pf:Nat} {P:Wp} {Ks lx Lf:List Nat} {cl:Nat->Nat}
theorem aSJ(h:cU w pw pc ps px pf P Ks lx Lf cl):Calls Tryz.prog 43 #[cJ pw] w fun e w' =>∃b,e=.returned (cJ b)/\∃pc' ps' px' pf' Ks' lx' Lf' cl', cU w' b pc' ps' px' pf' P Ks' lx' Lf' cl' /\ Fr [] w w' /\ ∀q∈bZ b pc' Ks' lx' Lf', w.heap.size<=q:=by
 have HV:=qA (dC h);have HC:=qA (fun(w' :World) (hf:Fr [] w w')=>aRQ (h.clk.fr hf (by simp)));have HS:=qA (fun(w' :World) (hf:Fr [] w w')=>aHR (h.st.fr0 hf));have HX:=qA (fun(w' :World) (hf:Fr [] w w')=>aHN (h.sch.fr hf (by simp)));have HO:=qA (fun(w' :World) (hf:Fr [] w w')=>aSI (h.fo.fr hf (by simp)));have c0:=h.hd.cell 0;have c1:=h.hd.cell 1;have c2:=h.hd.cell 2;have c3:=h.hd.cell 3;have c4:=h.hd.cell 4;have c5:=h.hd.cell 5;have c6:=h.hd.cell 6;have c7:=h.hd.cell 7;have c8:=h.hd.cell 8;have c9:=h.hd.cell 9;simp only[zJ,zK]at c0 c1 c2 c3 c4 c5 c6 c7 c8 c9;have HK:=qA (fun(w' :World) (hf:Fr [] w w')=>zI (hf.cell c4 (by simp)) (zI (hf.cell c5 (by simp)) (zI (hf.cell c6 (by simp)) (hf.cell c7 (by simp)))));have hn:CpS w (w.alloc (.cells #[.int .i64 P.m,.int .i64 P.E,.int .i64 P.V,.int .i64 P.D,gL pc,fF ps,aP px,cH pf,.int .u64 P.added,.int .u64 P.gone] 38)) w.heap.size [.int .i64 P.m,.int .i64 P.E,.int .i64 P.V,.int .i64 P.D,gL pc,fF ps,aP px,cH pf,.int .u64 P.added,.int .u64 P.gone]:=
   ⟨Blk.new w _ _,(Fr.refl _ _).alloc _,rfl⟩
 have HN:=qA hn;clear h hn;go_enter Tryz.func43,Tryz.ntmps43
 go_wp2_with fail
 refine HV.out.mono ?_;rintro _ w ⟨rfl,rfl⟩;have d4:=(HK.out _ HN.out.fr).1;go_wp2_with fail
 clear c0 c1 c2 c3 c4 c5 c6 c7 c8 c9 d4 HV;generalize hW0:w.alloc (.cells #[.int .i64 P.m,.int .i64 P.E,.int .i64 P.V,.int .i64 P.D,gL pc,fF ps,aP px,cH pf,.int .u64 P.added,.int .u64 P.gone] 38)=W0 at *;clear hW0;generalize hb:w.heap.size=b at *;have Hb:=qA hb;clear hb;refine(HC.out W0 HN.out.fr).mono ?_;rintro _ W1 ⟨pc', rfl,hc,hF1,hpc⟩;have hN1:=HN.out.go hF1;have hp1:=hN1.put 4 (gL pc');have b4:=hN1.hd.cell 4;have z4:=hN1.hd.frozen 4;have k5:=(HK.out _ hp1.fr).2.1;simp only[zJ,zK,qU,qY]at b4 hp1;have H1:=qA (zI hc (zI hF1 (zI hpc (zI hp1 (hN1.one 4 (gL pc'))))));clear hc hF1 hpc hN1 hp1 HC;go_wp2_with fail
 clear b4 z4 k5;generalize W1.setCell ⟨b,4,none⟩ (gL pc')=V1 at *;refine(HS.out V1 H1.out.2.2.2.1.fr).mono ?_;rintro _ W2 ⟨ps', rfl,Ks', hc,hF2,hk2⟩;have hN2:=H1.out.2.2.2.1.go hF2;have hp2:=hN2.put 5 (fF ps');have b4:=hN2.hd.cell 5;have z4:=hN2.hd.frozen 5;have k6:=(HK.out _ hp2.fr).2.2.1;simp only[zJ,zK,qU,qY]at b4 hp2;have H2:=qA (zI hc (zI hF2 (zI hk2 (zI hp2 (hN2.one 5 (fF ps'))))));clear hc hF2 hk2 hN2 hp2 HS;go_wp2_with fail
 clear b4 z4 k6;generalize W2.setCell ⟨b,5,none⟩ (fF ps')=V2 at *;refine(HX.out V2 H2.out.2.2.2.1.fr).mono ?_;rintro _ W3 ⟨px', rfl,lx', hc,hF3,hk3⟩;have hN3:=H2.out.2.2.2.1.go hF3;have hp3:=hN3.put 6 (aP px');have b4:=hN3.hd.cell 6;have z4:=hN3.hd.frozen 6;have k7:=(HK.out _ hp3.fr).2.2.2;simp only[zJ,zK,qU,qY]at b4 hp3;have H3:=qA (zI hc (zI hF3 (zI hk3 (zI hp3 (hN3.one 6 (aP px'))))));clear hc hF3 hk3 hN3 hp3 HX;go_wp2_with fail
 clear b4 z4 k7;generalize W3.setCell ⟨b,6,none⟩ (aP px')=V3 at *;refine(HO.out V3 H3.out.2.2.2.1.fr).mono ?_;rintro _ W4 ⟨pf', rfl,Lf', hc,hF4,hk4⟩;have hN4:=H3.out.2.2.2.1.go hF4;have hp4:=hN4.put 7 (cH pf');have b4:=hN4.hd.cell 7;have z4:=hN4.hd.frozen 7;simp only[zJ,zK,qU,qY]at b4 hp4;have H4:=qA (zI hc (zI hF4 (zI hk4 (zI hp4 (hN4.one 7 (cH pf'))))));clear hc hF4 hk4 hN4 hp4 HO;go_wp2_with fail
 clear b4 z4;generalize W4.setCell ⟨b,7,none⟩ (cH pf')=V4 at *;go_ret;obtain⟨hc1,hF1,hpc,hn1,hG1⟩:=H1.out;obtain⟨hc2,hF2,hk2,hn2,hG2⟩:=H2.out;obtain⟨hc3,hF3,hk3,hn3,hG3⟩:=H3.out;obtain⟨hc4,hF4,hk4,hn4,hG4⟩:=H4.out;have hb:=Hb.out;have s1:=hF1.size;have s2:=hF2.size;have s3:=hF3.size;have s4:=hF4.size;have t1:=hG1.size;have t2:=hG2.size;have t3:=hG3.size;have t4:=hG4.size;have e0:=HN.out.hd.lt;have e1:=hc1.hd.lt;have a1:∀q,b<q->q∉[b]:=fun q hq hm=>by
   simp only[qB,List.not_mem_nil,or_false]at hm;omega
 have k2:∀q∈Ks', W1.heap.size<=q:=fun q hq=>zH t1 (hk2 q hq);have k3:∀q∈lx', W2.heap.size<=q:=fun q hq=>zH t2 (hk3 q hq);have k4:∀q∈Lf', W3.heap.size<=q:=fun q hq=>zH t3 (hk4 q hq);refine⟨b,rfl,pc', ps', px', pf', Ks', lx', Lf', fun x=>if x=b then 0 else if x=pc' then 1 else if x<W2.heap.size then 2 else if x<W3.heap.size then 3 else 4,⟨hn4.hd,?_,?_,?_,?_,by simp,?_,?_,?_,?_⟩,hn4.fr,?_⟩
 · exact((((((hc1.fr hG1 (a1 _ (by omega))).fr0 hF2).fr hG2 (a1 _ (by omega))).fr0 hF3).fr hG3 (a1 _ (by omega))).fr0 hF4).fr hG4 (a1 _ (by omega))
 · exact((((hc2.fr hG2 (fun q hq=>a1 q (by have:=k2 q hq;omega))).fr0 hF3).fr hG3 (fun q hq=>a1 q (by have:=k2 q hq;omega))).fr0 hF4).fr hG4 (fun q hq=>a1 q (by have:=k2 q hq;omega))
 · exact((hc3.fr hG3 (fun q hq=>a1 q (by have:=k3 q hq;omega))).fr0 hF4).fr hG4 (fun q hq=>a1 q (by have:=k3 q hq;omega))
 · exact hc4.fr hG4 (fun q hq=>a1 q (by have:=k4 q hq;omega))
 · rw[qC (by omega),qD rfl]
 {
 intro q hq;have:=k2 q hq;have:=hc2.lt q hq;rw[qC (by omega),qC (by omega),qD (by omega)]}
 {
 intro q hq;have:=k3 q hq;have:=hc3.lt q hq;rw[qC (by omega),qC (by omega),qC (by omega),qD (by omega)]}
 {
 intro q hq;have:=k4 q hq;rw[qC (by omega),qC (by omega),qC (by omega),qC (by omega)]}
 {
 intro q hq;simp only[bZ,qB,qE]at hq;rcases hq with rfl|rfl|hq|hq|hq
 · omega
 · omega
 · have:=k2 q hq;omega
 · have:=k3 q hq;omega
 · have:=k4 q hq;omega}
end
end Go.Proofs.YtjdgpcjbgjnahaaGreatDoor
namespace Go.Proofs.YtjdgpcjbgjnahaaGreatDoor
open Go.RowKit Classical
def thO(p:Nat)(o:Ob):Th:=⟨fun w K=>∃X,X.ob=o/\eK w p X K,fun⟨_,_,h⟩=>h.lt,fun⟨X,e,h⟩ hf hs=>⟨X,e,h.fr hf hs⟩⟩
def thV(v:Value)(l:List Lv):Th:=⟨fun w K=>dF w v l/\K=v.ownBlock.toList,fun⟨h,e⟩ q hq=>h.lt (by simpa[e] using hq),fun⟨h,e⟩ hf hs=>⟨h.fr hf (fun q hq=>hs q (by simp[e,hq])),e⟩⟩
def thU(v:Value)(l:List Nat):Th:=⟨fun w K=>oX w v l/\K=v.ownBlock.toList,fun⟨h,e⟩ q hq=>h.lt (by simpa[e] using hq),fun⟨h,e⟩ hf hs=>⟨h.fr hf (fun q hq=>hs q (by simp[e,hq])),e⟩⟩
def thB(b:Nat)(t:TypeId)(l:List Value):Th:=⟨fun w K=>Blk w b t l/\K=[b],fun⟨h,e⟩ q hq=>(show q=b by simpa[e] using hq)▸h.lt,fun⟨h,e⟩ hf hs=>⟨hf.blk h (hs b (by simp[e])),e⟩⟩
def aTJ(o:Ob)(l:List Lv):Prop:=l.map cG=o.L/\(l.map (·.slot)).Nodup/\∀e∈l,e.slot<o.E
section
variable {W wr w' :World} {p:Nat} {o:Ob} {ts:List Th}
theorem Wd.rowV{v:Value}{l:List Lv}(h:Wd W wr (thV v l::ts)):dF wr v l:=by obtain⟨K,h,_⟩:=h.get;exact h
theorem Wd.rowU{v:Value}{l:List Nat}(h:Wd W wr (thU v l::ts)):oX wr v l:=by obtain⟨K,h,_⟩:=h.get;exact h
theorem Wd.blk{b:Nat}{t:TypeId}{l:List Value}(h:Wd W wr (thB b t l::ts)):Blk wr b t l:=by obtain⟨K,h,_⟩:=h.get;exact h
theorem Wd.ob(h:Wd W wr (thO p o::ts)):o.Ok:=by
 obtain⟨K,X,e,hx⟩:=h.get;exact e▸hx.1.ob
theorem aFP{X:Wm}{K:List Nat}(h:aCW wr w' p X K):Stp wr w' K (thO p X.ob):=by
 obtain⟨K', h1,h2,h3⟩:=h;exact⟨K', ⟨X,rfl,h1⟩,h2,h3⟩
theorem aHV{X:Wm}(h:X.Ok)(u v:Nat):kO (X.wp 0) u v=xZ X.ob.L u v/\dV X.s u v=kT X.ob.L u v:=by
 rw[show X.ob.L=X.s.L.map cG from rfl,vO,vP];have e0:dV X.s u v=kT X.s.L u v:=by unfold dV kT;simp only[vN h]
 refine⟨?_,e0⟩;unfold xZ;by_cases hc:inL X.s.L u/\inL X.s.L v
 {
 have h0:dV X.s u v=0:=by rw[e0];unfold kT;exact qD hc
 obtain⟨a,b,ha,hb,_,_⟩:=xW h0;rw[(xX h ha hb).2];refine decide_eq_decide.2 ?_;rw[aHU h ha hb];exact⟨fun hr=>⟨hc.1,hc.2,hr⟩,fun hr=>hr.2.2⟩}
 {
 have h0:dV X.s u v≠0:=by rw[e0];unfold kT;rw[qC hc];decide
 unfold kO;rw[show(X.wp 0).s=X.s from rfl,qC h0];exact(qF fun hr=>hc ⟨hr.1,hr.2.1⟩).symm}
theorem aOM{X:Wm}(h:X.Ok):aAL X=(yA X.ob.L:Nat):=by
 rw[show X.ob.L=X.s.L.map cG from rfl,aFM];unfold aAL yA;have:=aKE h;omega
theorem aON{X:Wm}(h:X.Ok)(hg:GW X.E X.V X.G)(u v:Nat):iO (X.wp 0) u v=pT X.ob.L u v/\pR (X.wp 0) u v=sY X.ob.L u v:=by
 rw[show X.ob.L=X.s.L.map cG from rfl,yB,aKG];have hcc:=aHV h u v;rw[show X.ob.L=X.s.L.map cG from rfl,vO,vP]at hcc;rcases aCY h hg u v with⟨h1,h2,h3⟩|⟨h1,h2,h3,h4,a,b,ha,hb,hab,hr⟩
 {
 have hb:pT X.s.L u v=false:=by {
 refine qF fun hx=>?_;have hc:xZ X.s.L u v=true:=qG ⟨hx.1,hx.2.1,hx.2.2.2⟩;rw[<-hcc.1]at hc;rcases h3 with⟨_,h3⟩|⟨_,h3⟩|⟨_,_,h3⟩
 · rw[h3]at hc;cases hc
 · rw[h3]at hc;cases hc
 · exact hx.2.2.1 h3};exact⟨h1.trans hb.symm,by rw[h2,aSG hb]⟩}
 {
 have hb' :pT X.s.L u v=true:=by {
 rw[hcc.1]at h3;have hx:=of_decide_eq_true h3;exact qG ⟨hx.1,hx.2.1,h4,hx.2.2⟩};exact⟨h1.trans hb'.symm,(aSF hb' ((aKD h ha hb).1 hr)).symm⟩}
end
section
variable {W wr w' :World} {p:Nat} {o:Ob} {ts:List Th}
theorem rV(h:Wd W wr (thO p o::ts)):Calls Tryz.prog 29 #[cJ p] wr fun e w' =>e=.returned (.int .i64 o.now)/\w' =wr:=by
 obtain⟨K,X,rfl,h1⟩:=h.get;exact aSC h1
theorem aDB(h:Wd W wr (thO p o::ts))(u v:Nat)(hu:u<18446744073709551616)(hv:v<18446744073709551616):
    Calls Tryz.prog 81 #[cJ p,.int .u64 u,.int .u64 v] wr fun e w' =>e=.returned (.tuple #[.int .i64 (sY o.L u v),.bool (pT o.L u v),.int .i64 (kT o.L u v)])/\Wd W w' (thO p o::ts):=by
 obtain⟨K,⟨X,rfl,h1⟩,hs⟩:=h.open;have hg:GW X.E X.V X.G:=by obtain⟨_,pc,ps,px,pf,nq,Ks,lx,Lf,cl,hB,_⟩:=h1;exact hB.fo.gw.1
 obtain⟨e1,e2⟩:=aON h1.1 hg u v;rw[<-e1,<-e2,<-(aHV h1.1 u v).2];exact(aJZ h1 u v hu hv).mono fun _ _ k=>⟨k.1,hs (aFP k.2)⟩
theorem aDC(h:Wd W wr (thO p o::ts)):Calls Tryz.prog 27 #[cJ p] wr fun e w' =>e=.returned (.tuple #[.int .i64 o.L.length,.int .i64 (eX o.L).length,.int .i64 (yA o.L:Nat)])/\Fr [] wr w' :=by
 obtain⟨K,X,rfl,h1⟩:=h.get;rw[<-aOM h1.1,rU,show X.ob.L=X.s.L.map cG from rfl,mZ,<-h1.1.ids_len];exact aKA h1
theorem mG(h:Wd W wr (thO p o::ts)):Calls Tryz.prog 25 #[cJ p] wr fun e w' =>e=.returned (.tuple #[.int .u64 o.last,.int .u64 o.gone])/\Fr [] wr w' :=by
 obtain⟨K,X,rfl,hok,pc,ps,px,pf,nq,Ks,lx,Lf,cl,hB,rfl⟩:=h.get;exact aOL hB
theorem vQ(h:Wd W wr (thO p o::ts)):Calls Tryz.prog 79 #[cJ p] wr fun e w' =>e=.returned (.int .u64 (o.last+o.gone:Nat))/\Fr [] wr w' :=by
 obtain⟨K,X,rfl,hok,pc,ps,px,pf,nq,Ks,lx,Lf,cl,hB,rfl⟩:=h.get;exact aFN hB (by have h1:=hok.last;have h2:=hok.max;show X.s.last+X.gone<_;omega)
theorem jS(h:Wd W wr (thO p o::ts)):Calls Tryz.prog 31 #[cJ p] wr fun e w' =>e=.returned (.agg #[.int .i64 o.m,.int .i64 o.E,.int .i64 o.V,.int .i64 o.D])/\Fr [] wr w' :=by
 obtain⟨K,X,rfl,hok,pc,ps,px,pf,nq,Ks,lx,Lf,cl,hB,rfl⟩:=h.get;exact aKJ hB
theorem pU(h:Wd W wr (thO p o::ts)):Calls Tryz.prog 34 #[cJ p] wr fun e w' =>∃v l,e=.returned v/\aTJ o l/\Wd W w' (thV v l::thO p o::ts):=by
 obtain⟨K,X,rfl,hok,pc,ps,px,pf,nq,Ks,lx,Lf,cl,hB,rfl⟩:=h.get;refine(aRT hB).mono ?_;rintro _ w' ⟨v,rfl,h1,h2,h3⟩;refine⟨v,X.s.L,rfl,⟨rfl,hok.ok.one,fun e he=>?_⟩,h.new h3 ⟨h1,rfl⟩ (fun q hq=>h2 q (by simpa using hq))⟩;have hu:=(hok.ok.used e.slot).2 ⟨e,he,rfl⟩;have h4:=hok.ok.ar.hb;have h5:=hok.ok.sl;have h6:=hok.hE;have h7:e.slot<X.s.A.begun:=hu.1;show e.slot<X.E
 omega
theorem aOO(h:Wd W wr (thO p o::ts)):Calls Tryz.prog 80 #[cJ p] wr fun e w' =>∃v,e=.returned v/\Wd W w' (thU v (eX o.L)::thO p o::ts):=by
 obtain⟨K,X,rfl,hok,pc,ps,px,pf,nq,Ks,lx,Lf,cl,hB,rfl⟩:=h.get;refine(aVD hB).mono ?_;rintro _ w' ⟨v,rfl,h1,h2,h3⟩;have e:(X.wp nq).s.ids=eX X.ob.L:=by rw[show X.ob.L=X.s.L.map cG from rfl,mZ];exact hok.ids_eq
 rw[e]at h1;exact⟨v,rfl,h.new h3 ⟨h1,rfl⟩ (fun q hq=>h2 q (by simpa using hq))⟩
theorem nA(h:Wd W wr (thO p o::ts)):Calls Tryz.prog 43 #[cJ p] wr fun e w' =>∃b,e=.returned (cJ b)/\Wd W w' (thO b o::thO p o::ts):=by
 obtain⟨K,X,rfl,hok,pc,ps,px,pf,nq,Ks,lx,Lf,cl,hB,rfl⟩:=h.get;refine(aSJ hB).mono ?_;rintro _ w' ⟨b,rfl,pc', ps', px', pf', Ks', lx', Lf', cl', hB', hF,hn⟩;exact⟨b,rfl,h.new hF ⟨X,rfl,hok,pc', ps', px', pf', nq,Ks', lx', Lf', cl', hB', rfl⟩ hn⟩
theorem aOP(h:Wd W wr ts)(m D:Int)(E V:Nat)(h1:1<=m)(h1' :m<=9223372036854775807)(h2:1<=E)(h3:E<=16384)(h4:2<=V)(h5:V<=4096)(h6:0<=D)(h7:D<=16384):
    Calls Tryz.prog 18 #[.agg #[.int .i64 m,.int .i64 E,.int .i64 V,.int .i64 D]] wr fun e w' =>∃p,e=.returned (.tuple #[cJ p,.int .i64 0])/\Wd W w' (thO p (Ob.new m E V D 0)::ts):=
  (aVM m D E V wr h1 h1' h2 h3 h4 h5 h6 h7).mono fun _ _ ⟨p,k,K,k1,k2,k3⟩=>⟨p,k,h.new k2 ⟨_,aVP m E V D 0,k1⟩ k3⟩
theorem aSK(h:Wd W wr (thO p o::ts))(to:Int)(h1:-9223372036854775808<=to)(h2:to<=9223372036854775807):
    Calls Tryz.prog 67 #[cJ p,.int .i64 to] wr fun e w' =>e=.returned (.int .i64 (dL o.m o.now to))/\Wd W w' (thO p (o.tickS to)::ts):=by
 obtain⟨K,⟨X,rfl,k1⟩,hs⟩:=h.open;unfold Ob.tickS;by_cases hc:dL X.m X.now to=0
 {
 rw[show dL X.ob.m X.ob.now to=0 from hc,qD rfl];refine(aOF k1 to h1 h2 hc).mono ?_;rintro _ w' ⟨rfl,ds,Q', hm,k⟩;have:=aFP k;rw[aAM k1.1 hm]at this;exact⟨rfl,hs this⟩}
 {
 rw[qC (show ¬dL X.ob.m X.ob.now to=0 from hc)];refine(aCX k1 to h1 h2 hc).mono ?_;rintro _ _ ⟨rfl,rfl⟩;exact⟨rfl,h⟩}
end
end Go.Proofs.YtjdgpcjbgjnahaaGreatDoor
namespace Go.Proofs.YtjdgpcjbgjnahaaGreatDoor
open Go.RowKit
def fA(w:World)(v:Value)(l:List Nat):Prop:=w.ownsRow 0 5 1 v l.length (cA l)
section
variable {w w' :World} {v:Value} {l:List Nat} {a:Option Addr}
theorem fA.fr{S:List Nat}(h:fA w v l)(hf:Fr S w w')(hs:∀q,v.ownBlock=some q->q∉S):fA w' v l:=
  aL h (fun q hq=>hf.keep q (dT h hq) (hs q hq))
theorem fA.fr0(h:fA w v l)(hf:Fr [] w w'):fA w' v l:=h.fr hf (by simp)
theorem fA.slice(h:fA w v l):∃a cap,v=.slice a l.length cap:=aO h
theorem fA.lt(h:fA w v l){q:Nat}(hq:v.ownBlock=some q):q<w.heap.size:=dT h hq
theorem fA.at(h:fA w v l){i:Nat}(hi:i<l.length):∃b cap,v=.slice (some ⟨b,0,none⟩) l.length cap/\l.length<=cap/\b<w.heap.size/\(∀j,w.frozen? ⟨b,j,none⟩=false)/\w.cell? ⟨b,i,none⟩=some (.int .u8 (l[i]'hi:Nat)):=by
 obtain⟨h1,h2⟩:=h;rcases h2 with⟨rfl,h0⟩|⟨g,cap,cur,rfl,_,hh,hn,hm,hsz,hxs⟩
 · omega
 {
 refine⟨g,cap,rfl,hn,(qM.1 hh).1,fun j=>by simp[World.frozen?,hh],?_⟩;rw[<-aGJ hi,<-hxs,List.getElem?_take,qD (by omega)];simp[World.cell?,hh]}
theorem fA.rd{cap:Nat}(h:fA w (.slice a l.length cap) l):RdB w a l:=fun i hi=>by
 obtain⟨b,cap', ev,_,hb,_,hc⟩:=h.at hi;simp only[qP]at ev;exact⟨b,0,ev.1,hb,by rw[Nat.zero_add];exact hc⟩
end
def thY(v:Value)(l:List Nat):Th:=⟨fun w K=>fA w v l/\K=v.ownBlock.toList,fun⟨h,e⟩ q hq=>h.lt (by simpa[e] using hq),fun⟨h,e⟩ hf hs=>⟨h.fr hf (fun q hq=>hs q (by simp[e,hq])),e⟩⟩
theorem Wd.rowB{W wr:World}{ts:List Th}{v:Value}{l:List Nat}(h:Wd W wr (thY v l::ts)):fA wr v l:=by obtain⟨K,h,_⟩:=h.get;exact h
section
variable {w w' :World} {pw:Nat} {W:Wm} {K:List Nat}
theorem aAN(h:eK w pw W K)(u:Nat)(wt t:Int):Calls Tryz.prog 69 #[cJ pw,rJ u u wt t] w fun e w' =>e=.returned (.int .i64 9)/\Fr [] w w' :=by
 have h1:=h.fr0 ((Fr.refl [] w).alloc (.cells #[.int .u64 u,.int .u64 u,.int .i64 wt,.int .i64 t] 72));obtain⟨hok,pc,ps,px,pf,nq,Ks,lx,Lf,cl,hB1,rfl⟩:=h1;have hbx:=Blk.new w [.int .u64 u,.int .u64 u,.int .i64 wt,.int .i64 t] 72;have HF:=qA ((Fr.refl [] w).alloc (.cells #[.int .u64 u,.int .u64 u,.int .i64 wt,.int .i64 t] 72));have HV:=qA (dC hB1);have r0:=hbx.cell 0;have r1:=hbx.cell 1;simp only[zJ,zK]at r0 r1;clear hB1 hbx h hok;go_enter Tryz.func69,Tryz.ntmps69
 go_wp2_with fail
 refine HV.out.mono ?_;rintro _ w1 ⟨rfl,rfl⟩;go_wp2
 go_ret;exact⟨rfl,HF.out⟩
theorem aFQ(h:eK w pw W K)(u v:Nat)(hne:u≠v)(wt t:Int)(ht1:-9223372036854775808<=t)(ht2:t<=9223372036854775807)(hc:dL W.m W.now t≠0):
    Calls Tryz.prog 69 #[cJ pw,rJ u v wt t] w fun e w' =>e=.returned (.int .i64 (dL W.m W.now t))/\Fr [] w w' :=by
 have h1:=h.fr0 ((Fr.refl [] w).alloc (.cells #[.int .u64 u,.int .u64 v,.int .i64 wt,.int .i64 t] 72));have hbx:=Blk.new w [.int .u64 u,.int .u64 v,.int .i64 wt,.int .i64 t] 72;obtain⟨w1,hw1⟩:∃w1,w1=w.alloc (.cells #[.int .u64 u,.int .u64 v,.int .i64 wt,.int .i64 t] 72):=⟨_,rfl⟩;rw[show w.alloc (.cells [.int .u64 u,.int .u64 v,.int .i64 wt,.int .i64 t].toArray 72)=w.alloc (.cells #[.int .u64 u,.int .u64 v,.int .i64 wt,.int .i64 t] 72) from rfl]at hbx;have HF:=qA ((Fr.refl [] w).alloc (.cells #[.int .u64 u,.int .u64 v,.int .i64 wt,.int .i64 t] 72));rw[<-hw1]at hbx h1 HF;obtain⟨hok,pc,ps,px,pf,nq,Ks,lx,Lf,cl,hB1,rfl⟩:=h1;have HV:=qA (dC hB1);have HCk:=qA (fun(nq:Nat)=>lZ (hB1.clk.fr0 ((Fr.refl [] w1).drewN nq)) t ht1 ht2);rw[show dL (W.wp nq).m (W.wp nq).now t=dL W.m W.now t from rfl]at HCk;have c4:=hB1.hd.cell 4;have r0:=hbx.cell 0;have r1:=hbx.cell 1;have r3:=hbx.cell 3;simp only[zJ,zK]at c4 r0 r1 r3;generalize dL W.m W.now t=c at *;have d1:((u:Int) == v)=false:=by simp;omega
 have d4:(c != 0)=true:=by simp[hc]
 clear h hok hB1 hbx hc;go_enter Tryz.func69,Tryz.ntmps69
 obtain⟨xb,hxb⟩:∃xb,xb=w.heap.size:=⟨_,rfl⟩;have HW1:=qA hw1;rw[hw1]at r0 r1 HV;clear hw1;go_wp2_with fail
 refine HV.out.mono ?_;rintro _ _ ⟨rfl,rfl⟩;go_wp2_with fail
 rw[<-HW1.out,<-hxb];rw[<-HW1.out]at r0 r1;rw[<-hxb]at r0 r1 r3;clear hxb HV HW1;refine bF 6 (fun w' =>∃nq,w' =w1.drewN nq) (by kernel_rfl) (by kernel_rfl) (by kernel_rfl) ?_;iterate 6 (refine bM (by decide) (fun K hK=>?_);go_simp;refine hK _ ?_;clear hK K)
 refine aU rfl (.int .i64 c) (fun w' hw' =>?_) ?_
 {
 obtain⟨nq,rfl⟩:=hw';go_simp;refine(HCk.out nq).mono ?_;rintro _ _ ⟨rfl,rfl⟩;exact⟨rfl,nq,rfl⟩};iterate 1 (refine eF (by decide) (fun K hK=>?_);go_simp;refine hK _ ?_;clear hK K)
 refine bN ?_;rintro _ ⟨nq2,rfl⟩;have HF02:=qA (HF.out.drewN nq2);clear c4 r0 r1 r3 HCk HF;generalize w1.drewN nq2=W2 at *;go_wp2
 go_ret;exact⟨rfl,HF02.out⟩
theorem aAO(h:eK w pw W K)(u v:Nat)(hne:u≠v)(wt t:Int)(ht1:-9223372036854775808<=t)(ht2:t<=9223372036854775807)(hc:dL W.m W.now t=0)(hl:9223372036854775807<=W.s.last):
    Calls Tryz.prog 69 #[cJ pw,rJ u v wt t] w fun e w' =>e=.returned (.int .i64 7)/\Fr [] w w' :=by
 have h1:=h.fr0 ((Fr.refl [] w).alloc (.cells #[.int .u64 u,.int .u64 v,.int .i64 wt,.int .i64 t] 72));have hbx:=Blk.new w [.int .u64 u,.int .u64 v,.int .i64 wt,.int .i64 t] 72;obtain⟨w1,hw1⟩:∃w1,w1=w.alloc (.cells #[.int .u64 u,.int .u64 v,.int .i64 wt,.int .i64 t] 72):=⟨_,rfl⟩;rw[show w.alloc (.cells [.int .u64 u,.int .u64 v,.int .i64 wt,.int .i64 t].toArray 72)=w.alloc (.cells #[.int .u64 u,.int .u64 v,.int .i64 wt,.int .i64 t] 72) from rfl]at hbx;have HF:=qA ((Fr.refl [] w).alloc (.cells #[.int .u64 u,.int .u64 v,.int .i64 wt,.int .i64 t] 72));rw[<-hw1]at hbx h1 HF;obtain⟨hok,pc,ps,px,pf,nq,Ks,lx,Lf,cl,hB1,rfl⟩:=h1;have HV:=qA (dC hB1);have HCk:=qA (fun(nq:Nat)=>lZ (hB1.clk.fr0 ((Fr.refl [] w1).drewN nq)) t ht1 ht2);rw[show dL (W.wp nq).m (W.wp nq).now t=0 from hc]at HCk;have c4:=hB1.hd.cell 4;have c8:=hB1.hd.cell 8;have r0:=hbx.cell 0;have r1:=hbx.cell 1;have r3:=hbx.cell 3;simp only[zJ,zK]at c4 c8 r0 r1 r3;rw[show(W.wp nq).added=W.s.last from rfl]at c8;have d1:((u:Int) == v)=false:=by simp;omega
 have d2:decide ((W.s.last:Int)≥9223372036854775807)=true:=qG (by omega);have d3:decide (W.s.last≥9223372036854775807)=true:=qG (by omega);clear h hok hB1 hbx hc;go_enter Tryz.func69,Tryz.ntmps69
 obtain⟨xb,hxb⟩:∃xb,xb=w.heap.size:=⟨_,rfl⟩;have HW1:=qA hw1;rw[hw1]at r0 r1 HV;clear hw1;go_wp2_with fail
 refine HV.out.mono ?_;rintro _ _ ⟨rfl,rfl⟩;go_wp2_with fail
 rw[<-HW1.out,<-hxb];rw[<-HW1.out]at r0 r1;rw[<-hxb]at r0 r1 r3;clear hxb HV HW1;refine bF 6 (fun w' =>∃nq,w' =w1.drewN nq) (by kernel_rfl) (by kernel_rfl) (by kernel_rfl) ?_;iterate 6 (refine bM (by decide) (fun K hK=>?_);go_simp;refine hK _ ?_;clear hK K)
 refine aU rfl (.int .i64 0) (fun w' hw' =>?_) ?_
 {
 obtain⟨nq,rfl⟩:=hw';go_simp;refine(HCk.out nq).mono ?_;rintro _ _ ⟨rfl,rfl⟩;exact⟨rfl,nq,rfl⟩};iterate 1 (refine eF (by decide) (fun K hK=>?_);go_simp;refine hK _ ?_;clear hK K)
 refine bN ?_;rintro _ ⟨nq2,rfl⟩;have HF02:=qA (HF.out.drewN nq2);have c8:=((Fr.refl [] w1).drewN nq2).cell c8 (by simp);clear c4 r0 r1 r3 HCk HF;generalize w1.drewN nq2=W2 at *;go_wp2
 go_ret;exact⟨rfl,HF02.out⟩
end
section
variable {W wr w' :World} {p:Nat} {o:Ob} {ts:List Th}
theorem aVT(h:Wd W wr (thO p o::ts))(u v:Nat)(hu:u<18446744073709551616)(hv:v<18446744073709551616)(wt t:Int)(ht1:-9223372036854775808<=t)(ht2:t<=9223372036854775807):
    Calls Tryz.prog 69 #[cJ p,rJ u v wt t] wr fun e w' =>e=.returned (.int .i64 (o.addC u v t:Nat))/\Wd W w' (thO p (o.add u v wt t)::ts):=by
 obtain⟨K,⟨X,rfl,k1⟩,hs⟩:=h.open;by_cases hne:u=v
 {
 subst hne;have e:X.ob.addC u u t=9:=by unfold Ob.addC;exact qD rfl
 unfold Ob.add;rw[e,qC (by decide)];exact(aAN k1 u wt t).mono fun _ _ k=>⟨k.1,h.fr0 k.2⟩}
 {
 by_cases hc:dL X.m X.now t=0
 {
 obtain⟨q1,q2⟩:=mY hc;by_cases hl:X.s.last<9223372036854775807
 {
 refine(aSB k1 u v hu hv hne wt t ht1 ht2 hc hl).mono ?_;rintro _ w' ⟨c,rfl,ds,Q', hm,hres⟩;have e:=aKI k1.1 hne hc hl hm;rcases hres with⟨g1,_,g2,g3⟩|⟨g1,g2,a,b,_,_,g3⟩
 {
 have e' :X.ob.addC u v t=c:=e.trans g2.symm;refine⟨by rw[e'],?_⟩;unfold Ob.add;rw[e', qC g1];exact h.fr0 g3}
 {
 have e' :X.ob.addC u v t=0:=e.trans g2;subst g1;refine⟨by rw[e'],?_⟩;unfold Ob.add;rw[e', qD rfl];have:=aFP g3;rw[aVQ,aAM k1.1 hm]at this;exact hs this}}
 {
 have e:X.ob.addC u v t=7:=by {
 unfold Ob.addC;rw[qC hne,qC (show ¬t<X.ob.now by show ¬t<X.now;omega),qD (.inr (by show _<=X.s.last;omega))]};unfold Ob.add;rw[e,qC (by decide)];exact(aAO k1 u v hne wt t ht1 ht2 hc (by omega)).mono fun _ _ k=>⟨k.1,h.fr0 k.2⟩}}
 {
 have e:((X.ob.addC u v t:Nat):Int)=dL X.m X.now t:=by {
 unfold Ob.addC dL lX;rw[qC hne];by_cases h1:t<X.now
 · rw[qD (show t<X.ob.now from h1),qD h1];rfl
 {
 have h2:¬t+X.m<=9223372036854775807:=fun hh=>hc (by unfold dL lX;rw[qC h1,qD hh]);rw[qC (show ¬t<X.ob.now from h1),qC h1,qC h2,qD (.inl (by show _<t+X.m;omega))];rfl}};have e0:X.ob.addC u v t≠0:=fun hh=>hc (by rw[<-e,hh];rfl);unfold Ob.add;rw[qC e0,e];exact(aFQ k1 u v hne wt t ht1 ht2 hc).mono fun _ _ k=>⟨k.1,h.fr0 k.2⟩}}
end
def nL(m E V D:Int):Bool:=decide (m≥1)&&(decide (E≥1)&&(decide (E<=16384)&&(decide (V≥2)&&(decide (V<=4096)&&(decide (D≥0)&&decide (D<=16384))))))
theorem iQ{m E V D:Int}:nL m E V D=true↔1<=m/\1<=E/\E<=16384/\2<=V/\V<=4096/\0<=D/\D<=16384:=by
 simp[nL]
theorem aFR(m E V D:Int)(w:World):Calls Tryz.prog 82 #[.agg #[.int .i64 m,.int .i64 E,.int .i64 V,.int .i64 D]] w fun e w' =>e=.returned (.bool (nL m E V D))/\Fr [] w w' :=by
 have HF:=qA ((Fr.refl [] w).alloc (.cells #[.int .i64 m,.int .i64 E,.int .i64 V,.int .i64 D] 31));unfold nL;by_cases h0:m≥1
 {
 have d0:decide (m≥1)=true:=qG h0;by_cases h1:E≥1
 {
 have d1:decide (E≥1)=true:=qG h1;by_cases h2:E<=16384
 {
 have d2:decide (E<=16384)=true:=qG h2;by_cases h3:V≥2
 {
 have d3:decide (V≥2)=true:=qG h3;by_cases h4:V<=4096
 {
 have d4:decide (V<=4096)=true:=qG h4;by_cases h5:D≥0
 {
 have d5:decide (D≥0)=true:=qG h5;by_cases h6:D<=16384
 {
 have d6:decide (D<=16384)=true:=qG h6;rw[d0,d1,d2,d3,d4,d5,d6];clear h0 h1 h2 h3 h4 h5 h6;go_enter Tryz.func82,Tryz.ntmps82
 go_wp2
 go_ret;exact⟨rfl,HF.out⟩}
 {
 have d6:decide (D<=16384)=false:=qF h6;rw[d0,d1,d2,d3,d4,d5,d6];clear h0 h1 h2 h3 h4 h5 h6;go_enter Tryz.func82,Tryz.ntmps82
 go_wp2
 go_ret;exact⟨rfl,HF.out⟩}}
 {
 have d5:decide (D≥0)=false:=qF h5;rw[d0,d1,d2,d3,d4,d5];clear h0 h1 h2 h3 h4 h5;go_enter Tryz.func82,Tryz.ntmps82
 go_wp2
 go_ret;exact⟨rfl,HF.out⟩}}
 {
 have d4:decide (V<=4096)=false:=qF h4;rw[d0,d1,d2,d3,d4];clear h0 h1 h2 h3 h4;go_enter Tryz.func82,Tryz.ntmps82
 go_wp2
 go_ret;exact⟨rfl,HF.out⟩}}
 {
 have d3:decide (V≥2)=false:=qF h3;rw[d0,d1,d2,d3];clear h0 h1 h2 h3;go_enter Tryz.func82,Tryz.ntmps82
 go_wp2
 go_ret;exact⟨rfl,HF.out⟩}}
 {
 have d2:decide (E<=16384)=false:=qF h2;rw[d0,d1,d2];clear h0 h1 h2;go_enter Tryz.func82,Tryz.ntmps82
 go_wp2
 go_ret;exact⟨rfl,HF.out⟩}}
 {
 have d1:decide (E≥1)=false:=qF h1;rw[d0,d1];clear h0 h1;go_enter Tryz.func82,Tryz.ntmps82
 go_wp2
 go_ret;exact⟨rfl,HF.out⟩}}
 {
 have d0:decide (m≥1)=false:=qF h0;rw[d0];clear h0;go_enter Tryz.func82,Tryz.ntmps82
 go_wp2
 go_ret;exact⟨rfl,HF.out⟩}
def nW(m now t:Int):Bool:=decide (t<=now/\t+m<=9223372036854775807/\now<t+m)
theorem aSL{w:World}{pc:Nat}{m now:Int}(h:Clk w pc m now)(t:Int)(ht:-9223372036854775808<=t)(ht2:t<=9223372036854775807):
    Calls Tryz.prog 89 #[gL pc,.int .i64 t] w fun e w' =>e=.returned (.bool (nW m now t))/\Fr [] w w' :=by
 have HV:=qA (lY h);have HA:=qA (aAF h.m1 h.m2 t ht ht2 w);have c0:=h.hd.cell 0;have c1:=h.hd.cell 1;simp only[zJ,zK]at c0 c1;clear h;by_cases h1:t<=now
 {
 have d1:decide (t>now)=false:=qF (by omega);by_cases h2:t+m<=9223372036854775807
 {
 have e1:lX t m=0:=qD h2;have e2:vJ t m=t+m:=qD h2;rw[e1,e2]at HA;have e3:nW m now t=decide (now<t+m):=decide_eq_decide.2 ⟨fun h=>h.2.2,fun h=>⟨h1,h2,h⟩⟩;rw[e3];clear e1 e2 e3 h1 h2;generalize t+m=x at *;go_enter Tryz.func89,Tryz.ntmps89
 go_wp2_with fail
 refine HV.out.mono ?_;rintro _ w ⟨rfl,rfl⟩;go_wp2_with fail
 refine HA.out.mono ?_;rintro _ w ⟨rfl,rfl⟩;go_wp2
 go_ret;exact⟨rfl,Fr.refl _ _⟩}
 {
 have e1:lX t m=7:=qC h2;rw[e1]at HA;have e3:nW m now t=false:=qF fun h=>h2 h.2.1;rw[e3];clear e1 e3 h1 h2;generalize vJ t m=x at *;go_enter Tryz.func89,Tryz.ntmps89
 go_wp2_with fail
 refine HV.out.mono ?_;rintro _ w ⟨rfl,rfl⟩;go_wp2_with fail
 refine HA.out.mono ?_;rintro _ w ⟨rfl,rfl⟩;go_wp2
 go_ret;exact⟨rfl,Fr.refl _ _⟩}}
 {
 have d1:decide (t>now)=true:=qG (by omega);have e3:nW m now t=false:=qF fun h=>h1 h.1;rw[e3];clear h1 e3 HA;go_enter Tryz.func89,Tryz.ntmps89
 go_wp2_with fail
 refine HV.out.mono ?_;rintro _ w ⟨rfl,rfl⟩;go_wp2
 go_ret;exact⟨rfl,Fr.refl _ _⟩}
theorem aOQ(m D E V:Int)(g:Nat)(w:World)(h:nL m E V D=false):
    Calls Tryz.prog 46 #[.agg #[.int .i64 m,.int .i64 E,.int .i64 V,.int .i64 D],.int .u64 g] w fun e w' =>e=.returned (.tuple #[.pointer none,.int .i64 2])/\Fr [] w w' :=by
 have HC:=aFR m E V D (w.alloc (.cells #[.int .i64 m,.int .i64 E,.int .i64 V,.int .i64 D] 31));rw[h]at HC;have HC:=qA HC;have hb:=Blk.new w [.int .i64 m,.int .i64 E,.int .i64 V,.int .i64 D] 31;have x0:=hb.cell 0;have x1:=hb.cell 1;have x2:=hb.cell 2;have x3:=hb.cell 3;simp only[zJ,zK]at x0 x1 x2 x3;clear hb h;go_enter Tryz.func46,Tryz.ntmps46
 go_wp2_with fail
 refine HC.out.mono ?_;rintro _ w1 ⟨rfl,hF⟩;have HF:=qA (((Fr.refl [] w).alloc _).trans' hF);clear hF x0 x1 x2 x3;go_wp2
 go_ret2;exact⟨rfl,HF.out⟩
def Wm.putT(W:Wm)(u v:Nat)(wt t:Int)(a b:Nat):Wm:={ W with s:=W.s.ins u v wt t (t+W.m),Q:=fun j=>if j=W.s.slot then some (t+W.m) else W.Q j,G:=fun j=>if j=W.s.slot then some (a,b,t+W.m) else W.G j }
theorem Wm.putT_ok{W:Wm}(h:W.Ok){u v:Nat}(hu:u<18446744073709551616)(hv:v<18446744073709551616)(wt t:Int)(h0:0<=t)(h1:t<=W.now)(h2:W.now<t+W.m)(hlt:∀e∈W.s.L,e.t<=t)(hc:W.s.chk u v=0)(hl:W.s.last<9223372036854775807){a b:Nat}
    (ha:(W.s.ins u v wt t (t+W.m)).M.find u=some a) (hb:(W.s.ins u v wt t (t+W.m)).M.find v=some b):(W.putT u v wt t a b).Ok:=by
 have hL:(W.putT u v wt t a b).s.L=W.s.L++[W.s.edge u v wt t (t+W.m)]:=rfl;refine⟨Sm.ok_ins h.ok hu hv hc (by omega) wt t (t+W.m),h.hV,h.hE,h.lk.ins h.ok hu hv hc wt t (t+W.m) ha hb,fun e he=>?_,?_,fun i hi=>?_,?_,?_,h.m1,h.m2,h.n0,h.n1⟩
 {
 rw[hL,qE,qH]at he;rcases he with he|rfl
 · exact h.x e he
 · exact⟨rfl,h0,h1,h2⟩}
 {
 rw[hL,List.pairwise_append];exact⟨h.mono,by simp,fun d hd e he=>by
   rw[qH]at he;subst he;exact hlt d hd⟩}
 {
 have hi' :i<(W.s.L++[W.s.edge u v wt t (t+W.m)]).length:=hi;show((W.s.L++[W.s.edge u v wt t (t+W.m)])[i]'hi').seq=W.gone+i+1
 rw[List.getElem_append];split
 · exact h.num i _
 {
 have:i=W.s.L.length:=by simp at hi'; omega
 subst this;simp only[Nat.sub_self,List.getElem_singleton];show W.s.last+1=_
 rw[h.last]}}
 {
 show W.s.last+1=W.gone+(W.s.L++[W.s.edge u v wt t (t+W.m)]).length
 rw[h.last];simp;omega}
 {
 show W.s.last+1<=_
 omega}
def Ob.putT(o:Ob)(u v:Nat)(wt t:Int):Ob:={ o with L:=o.L++[⟨0,o.last+1,u,v,wt,t,t+o.m⟩],last:=o.last+1 }
theorem aSM{W:Wm}(u v:Nat)(wt t:Int)(a b:Nat):(W.putT u v wt t a b).ob=W.ob.putT u v wt t:=by
 show Ob.mk _ _ _ _ _ ((W.s.L++[W.s.edge u v wt t (t+W.m)]).map cG) (W.s.last+1) _=_
 rw[List.map_append];rfl
def Ob.chkO(o:Ob)(u v:Nat):Nat:=if u=v then 9 else if o.E<=o.L.length then 12 else if o.V<(Ob.idsUV o.L u v).length then 11 else 0
theorem aHW{W:Wm}(h:W.Ok)(u v:Nat):W.s.chk u v=W.ob.chkO u v:=by
 by_cases hne:u=v
 · unfold Sm.chk Ob.chkO;rw[qD hne,qD hne]
 · rw[aOK h u v hne];unfold Ob.chkO;rw[qC hne];rfl
abbrev R4:=Nat×Nat×Int×Int
def Ob.resOk(o:Ob)(last:Int)(r:R4):Bool:=decide (last<=r.2.2.2)&&(nW o.m o.now r.2.2.2&&decide (o.chkO r.1 r.2.1=0))
def Ob.resL:Ob->Int->List R4->Option Ob
  | o,_,[]=>some o
  | o,last,r::rs=>if o.resOk last r=true then(o.putT r.1 r.2.1 r.2.2.1 r.2.2.2).resL r.2.2.2 rs else none
def Ob.at(m:Int)(E V:Nat)(D:Int)(now:Int)(g:Nat):Ob:=⟨m,E,V,D,now,[],g,g⟩
def kX(m E V D now:Int)(g:Nat)(l:List R4):Option Ob:=
  if g<=9223372036854775807/\nL m E V D=true/\(l.length:Int)<=E/\l.length<=9223372036854775807-g/\dL m 0 now=0 then(Ob.at m E.toNat V.toNat D now g).resL 0 l else none
def pV:List Nat:=[83,69,69,80,1]
def bJ(x:Int):Nat:=(x%18446744073709551616).toNat
def bQ(x:Nat):Int:=if x<9223372036854775808 then x else(x:Int)-18446744073709551616
theorem kP(x:Int):bJ x<18446744073709551616:=by unfold bJ;omega
theorem gN{x:Int}(h1:-9223372036854775808<=x)(h2:x<=9223372036854775807):bQ (bJ x)=x:=by unfold bQ bJ;split<;>omega
theorem iF(x:Nat)(h:x<18446744073709551616):-9223372036854775808<=bQ x/\bQ x<=9223372036854775807:=by unfold bQ;split<;>omega
def wQ(r:R4):List Nat:=beN 8 r.1++beN 8 r.2.1++beN 8 (bJ r.2.2.1)++beN 8 (bJ r.2.2.2)
def cV(l:List R4):List Nat:=l.flatMap wQ
def kU(m E V D:Int):List Nat:=beN 8 (bJ m)++beN 8 (bJ E)++beN 8 (bJ V)++beN 8 (bJ D)
def lvR(e:Lv):R4:=(e.u,e.v,e.wt,e.t)
def rW(m E V D now:Int)(a g:Nat):List Nat:=pV++kU m E V D++(beN 8 (bJ now)++beN 8 a++beN 8 g)
def eQ(m E V D now:Int)(a g:Nat)(l:List R4):List Nat:=rW m E V D now a g++cV l
def aAP(l:List Nat):List Nat:=l++beN 4 (crc l)
def Ob.img(o:Ob):List Nat:=aAP (eQ o.m o.E o.V o.D o.now o.last o.gone (o.L.map lvR))
theorem aDD(r:R4):(wQ r).length=32:=by simp only[wQ,zF,aT]
theorem yC(l:List R4):(cV l).length=32*l.length:=by
 induction l with
 | nil=>rfl
 | cons r l ih=>show(wQ r++cV l).length=_;rw[zF,aDD,ih,qZ];omega
theorem aA(m E V D:Int):(kU m E V D).length=32:=by simp only[kU,zF,aT]
theorem vR(m E V D now:Int)(a g:Nat):(rW m E V D now a g).length=61:=by simp only[rW,zF,aA,aT];rfl
theorem jT(m E V D now:Int)(a g:Nat)(l:List R4):(eQ m E V D now a g l).length=61+32*l.length:=by rw[eQ,zF,vR,yC]
theorem aDE(l:List Nat):(aAP l).length=l.length+4:=by rw[aAP,zF,aT]
theorem aOR:Byt pV:=by unfold pV Byt;decide
theorem aOS(r:R4):Byt (wQ r):=((eN _ _).app (eN _ _)).app (eN _ _) |>.app (eN _ _)
theorem aKK(l:List R4):Byt (cV l):=fun b hb=>by
 obtain⟨r,_,h⟩:=List.mem_flatMap.1 hb;exact aOS r b h
theorem aKL(m E V D:Int):Byt (kU m E V D):=((eN _ _).app (eN _ _)).app (eN _ _) |>.app (eN _ _)
theorem aFS(m E V D now:Int)(a g:Nat):Byt (rW m E V D now a g):=(aOR.app (aKL _ _ _ _)).app (((eN _ _).app (eN _ _)).app (eN _ _))
theorem nB(m E V D now:Int)(a g:Nat)(l:List R4):Byt (eQ m E V D now a g l):=(aFS _ _ _ _ _ _ _).app (aKK l)
theorem aDF{l:List Nat}(h:Byt l):Byt (aAP l):=h.app (eN _ _)
def sub(b:List Nat)(i n:Nat):List Nat:=(b.drop i).take n
def dM:Nat->List Nat->List R4
  | 0,_=>[]
  | n+1,b=>(aN (sub b 0 8),aN (sub b 8 8),bQ (aN (sub b 16 8)),bQ (aN (sub b 24 8)))::dM n (b.drop 32)
def fN(b:List Nat):Int×Option Ob:=
  if b.length<65∨b.take 5≠pV then(15,none)
  else if aN (b.drop (b.length-4))≠crc (b.take (b.length-4)) then(17,none)
  else
    let a:=aN (sub b 45 8)
    let g:=aN (sub b 53 8)
    if a<g∨(b.length-65)%32≠0∨(b.length-65)/32≠a-g then(15,none)
    else
      match kX (bQ (aN (sub b 5 8))) (bQ (aN (sub b 13 8))) (bQ (aN (sub b 21 8))) (bQ (aN (sub b 29 8))) (bQ (aN (sub b 37 8))) g (dM (a-g) (b.drop 61)) with
      | none=>(2,none)
      | some o=>(0,some o)
theorem aSN(m E V D:Int)(w:World):Calls Tryz.prog 73 #[.agg #[.int .i64 m,.int .i64 E,.int .i64 V,.int .i64 D]] w fun e w' =>e=.returned (.agg #[.int .i64 m,.int .i64 E,.int .i64 V,.int .i64 D])/\Fr [] w w' :=by
 have hb:=Blk.new w [.int .i64 m,.int .i64 E,.int .i64 V,.int .i64 D] 31;have hF:Fr [] (w.alloc (.cells #[.int .i64 m,.int .i64 E,.int .i64 V,.int .i64 D] 31)) ((w.alloc (.cells #[.int .i64 m,.int .i64 E,.int .i64 V,.int .i64 D] 31)).alloc (.cells #[.int .i64 0,.int .i64 0,.int .i64 0,.int .i64 0] 115)):=(Fr.refl [] _).alloc _;have hb2:=hF.blk hb (by simp);have r0:=hb2.cell 0;have r1:=hb2.cell 1;have r2:=hb2.cell 2;have r3:=hb2.cell 3;have hb3:=Blk.new (w.alloc (.cells #[.int .i64 m,.int .i64 E,.int .i64 V,.int .i64 D] 31)) [.int .i64 m,.int .i64 E,.int .i64 V,.int .i64 D] 115;rw[World.size_alloc]at hb3;have q0:=hb3.cell 0;have q1:=hb3.cell 1;have q2:=hb3.cell 2;have q3:=hb3.cell 3;simp only[zJ,zK]at r0 r1 r2 r3 q0 q1 q2 q3;have HF:=qA (((Fr.refl [] w).alloc (.cells #[.int .i64 m,.int .i64 E,.int .i64 V,.int .i64 D] 31)).alloc (.cells #[.int .i64 m,.int .i64 E,.int .i64 V,.int .i64 D] 115));clear hb hF hb2 hb3;go_enter Tryz.func73,Tryz.ntmps73
 go_wp2
 exact bodyPost_ret (v:=.agg #[.int .i64 m,.int .i64 E,.int .i64 V,.int .i64 D]) (by simp[results,Tryz.results73,go_sem,q0,q1,q2,q3]) rfl ⟨rfl,HF.out⟩
theorem yD{m E V D:Int}(h:nL m E V D=true):cR m E V D=-1:=by
 obtain⟨k1,k2,k3,k4,k5,k6,k7⟩:=iQ.1 h;unfold cR;rw[qC (by omega),qC (by omega),qC (by omega),qC (by omega)]
theorem aKM{m E V D:Int}(h:nL m E V D=false):0<=cR m E V D:=by
 by_cases k:0<=cR m E V D
 · exact k
 {
 exfalso
 have:nL m E V D=true:=iQ.2 (by unfold cR at k;split at k<;>(try split at k)<;>(try split at k)<;>(try split at k)<;>omega);rw[h]at this;cases this}
theorem Tryz.info5:(Tryz.prog.info? 5).map (fun i=>(i.zero,i.size,i.bytes))=some (some (.int .u8 0),1,1):=by kernel_rfl
@[go_sem] theorem aVU(m E V D:Int)(w:World):(Instr.index 115 (.agg #[.int .i64 m,.int .i64 E,.int .i64 V,.int .i64 D]) (.int .i64 0)).run Tryz.prog w=.ok (.int .i64 m) w:=by kernel_rfl
@[go_sem] theorem aVV(m E V D:Int)(w:World):(Instr.index 115 (.agg #[.int .i64 m,.int .i64 E,.int .i64 V,.int .i64 D]) (.int .i64 1)).run Tryz.prog w=.ok (.int .i64 E) w:=by kernel_rfl
@[go_sem] theorem aVW(m E V D:Int)(w:World):(Instr.index 115 (.agg #[.int .i64 m,.int .i64 E,.int .i64 V,.int .i64 D]) (.int .i64 2)).run Tryz.prog w=.ok (.int .i64 V) w:=by kernel_rfl
@[go_sem] theorem aVX(m E V D:Int)(w:World):(Instr.index 115 (.agg #[.int .i64 m,.int .i64 E,.int .i64 V,.int .i64 D]) (.int .i64 3)).run Tryz.prog w=.ok (.int .i64 D) w:=by kernel_rfl
def PB(w wr:World)(v:Value)(l:List Nat):Prop:=fA wr v l/\(∀q,v.ownBlock=some q->w.heap.size<=q)/\Fr [] w wr
theorem PB.push{w wr w4:World}{a:Option Addr}{n c g c' :Nat}{l:List Nat}{b:Nat}{o:Obj}(h:PB w wr (.slice a n c) l)(hn:l.length=n)(hown:w4.ownsRow 0 5 1 (.slice (some ⟨g,0,none⟩) (n+1) c') (n+1) (cA l++[.int .u8 (b:Int)]))(hgrow:(wr.alloc o).grownBy w4 (Value.slice a n c).ownBlock)(hg:(Value.slice a n c).ownBlock=some g∨(wr.alloc o).heap.size<=g):
    PB w w4 (.slice (some ⟨g,0,none⟩) (n+1) c') (l++[b]):=by
 have hF:Fr (Value.slice a n c).ownBlock.toList wr w4:=((Fr.refl _ _).alloc _).grown hgrow (fun q e=>.inl (by simp[e]));have hs:=h.2.2.size;simp only[World.size_alloc]at hg;refine⟨?_,fun q e=>?_,h.2.2.trans hF (fun q hq=>.inr (h.2.1 q (by simpa using hq)))⟩
 {
 unfold fA;rw[zF,hn,tN];exact hown}
 {
 simp only[Value.ownBlock,qI]at e;subst e;rcases hg with e|e
 · exact h.2.1 _ e
 · omega}
theorem PB.own{w wr:World}{a:Option Addr}{n c:Nat}{l:List Nat}(h:PB w wr (.slice a n c) l)(hn:l.length=n):∀o,World.ownsRow (wr.alloc o) 0 5 1 (.slice a n c) n (cA l):=fun o=>by
 have:=h.1.fr0 ((Fr.refl [] wr).alloc o);unfold fA at this;rw[hn]at this;exact this
theorem aQ{x:Int}(h:0<=x/\x<=9223372036854775807):bJ x=x.toNat:=by unfold bJ;omega
def jC:Array Value:=#[.int .u8 0,.int .u8 0,.int .u8 0,.int .u8 0,.int .u8 0,.int .u8 0,.int .u8 0,.int .u8 0,.int .u8 0,.int .u8 0,.int .u8 0,.int .u8 0,.int .u8 0,.int .u8 0,.int .u8 0,.int .u8 0,.int .u8 0,.int .u8 0,.int .u8 0,.int .u8 0,.int .u8 0,.int .u8 0,.int .u8 0,.int .u8 0,.int .u8 0,.int .u8 0,.int .u8 0,.int .u8 0,.int .u8 0,.int .u8 0,.int .u8 0,.int .u8 0]
theorem aFT(w:World):(Instr.makeSlice 22 (.int .i64 0) (.int .i64 32)).run Tryz.prog w=.ok (.slice (some ⟨w.heap.size,0,none⟩) 0 32) (w.alloc (.cells jC 5)):=by kernel_rfl
theorem fA.mk32(w:World):fA (w.alloc (.cells jC 5)) (.slice (some ⟨w.heap.size,0,none⟩) 0 32) []:=
  ⟨rfl,.inr ⟨w.heap.size,32,jC,rfl,qS _,Blk.new w jC.toList 5,qS _,by decide,by decide,rfl⟩⟩
theorem put_ok{w:World}(hL:fZ w)(m E V D:Int)(hm:m<=9223372036854775807)(hc:nL m E V D=true):
    Calls Tryz.prog 39 #[.agg #[.int .i64 m,.int .i64 E,.int .i64 V,.int .i64 D]] w fun e w' =>∃v,e=.returned (.tuple #[v,.int .i64 0])/\fA w' v (kU m E V D)/\(∀q,v.ownBlock=some q->w.heap.size<=q)/\Fr [] w w' :=by
 have hb:=Blk.new w [.int .i64 m,.int .i64 E,.int .i64 V,.int .i64 D] 31;have r0:=hb.cell 0;have r1:=hb.cell 1;have r2:=hb.cell 2;have r3:=hb.cell 3;simp only[zJ,zK]at r0 r1 r2 r3;have HF:=qA ((Fr.refl [] w).alloc (.cells #[.int .i64 m,.int .i64 E,.int .i64 V,.int .i64 D] 31));have HS:=qA (aSN m E V D (w.alloc (.cells #[.int .i64 m,.int .i64 E,.int .i64 V,.int .i64 D] 31)));have HL:=qA hL;have HC:=qA hc;clear hb hL hc;go_enter Tryz.func39,Tryz.ntmps39
 go_wp2_with fail
 refine HS.out.mono ?_;rintro _ w2 ⟨rfl,hF⟩;have hb:=Blk.new w2 [.int .i64 m,.int .i64 E,.int .i64 V,.int .i64 D] 115;have r0:=hb.cell 0;have r1:=hb.cell 1;have r2:=hb.cell 2;have r3:=hb.cell 3;simp only[zJ,zK]at r0 r1 r2 r3;have HF:=qA ((HF.out.trans' hF).alloc (.cells #[.int .i64 m,.int .i64 E,.int .i64 V,.int .i64 D] 115));have HB:=qA hb;have hg:=yK (HL.out.fr HF.out (by simp)) m E V D hm;rw[yD HC.out]at hg;have HG:=qA hg;clear hb hF HS hg;go_wp2_with fail
 refine HG.out.mono ?_;rintro _ w3 ⟨rfl,hF⟩;have hb:=hF.blk HB.out (by simp);have r0:=hb.cell 0;have r1:=hb.cell 1;have r2:=hb.cell 2;have r3:=hb.cell 3;simp only[zJ,zK]at r0 r1 r2 r3;have HF:=qA (HF.out.trans' hF);clear hF HG hb;have hmk:=aFT w3;have HR0:=qA (zI (fA.mk32 w3) (HF.out.alloc (.cells jC 5)));have r0:=((Fr.refl [] w3).alloc (.cells jC 5)).cell r0 (by simp);have r1:=((Fr.refl [] w3).alloc (.cells jC 5)).cell r1 (by simp);have r2:=((Fr.refl [] w3).alloc (.cells jC 5)).cell r2 (by simp);have r3:=((Fr.refl [] w3).alloc (.cells jC 5)).cell r3 (by simp);generalize jC=z32 at *;have HP0:=qA (show PB w (w3.alloc (.cells z32 5)) (.slice (some ⟨w3.heap.size,0,none⟩) 0 32) [] from⟨HR0.out.1,fun q e=>(by simp only[Value.ownBlock,qI]at e;have:=HF.out.size;omega),HR0.out.2⟩);obtain⟨L,hL⟩:∃L,L=kU m E V D:=⟨_,rfl⟩;have HLL:=qA hL;have H0:=qA (show(0<=m/\m<=9223372036854775807)/\(0<=E/\E<=9223372036854775807)/\(0<=V/\V<=9223372036854775807)/\(0<=D/\D<=9223372036854775807) by have:=iQ.1 HC.out;omega);clear HR0 hL;go_wp2_with fail
 clear r0 r1 r2 r3 hmk;go_loopw [5,16] (fun c1 c2 wr=>∃k:Nat,k<=4/\(∃sa sc,c1=.slice sa (8*k) sc/\Hid (PB w wr (.slice sa (8*k) sc) (L.take (8*k))))/\c2=.int .i64 k) (fun _ c _=>4-(intOf c).toNat)
 case atStart=>exact⟨0,by omega,⟨_,_,rfl,HP0⟩,rfl⟩
 case round=>
  clear HP0;obtain⟨k,hk,⟨sa,sc,rfl,HP⟩,rfl⟩:=hrel;rename World=>wr
  by_cases hlt:k<4
  {
  have hk4:k=0∨k=1∨k=2∨k=3:=by omega
  have hlt' :(k:Int)<4:=by omega
  have hw1:IntKind.i64.wrap ((k:Int)+1)=((k+1:Nat):Int):=by rw[show(k:Int)+1=((k+1:Nat):Int) by omega];exact zG _ (by omega)
  rcases hk4 with hk' | hk' | hk' | hk'
  {
  have hidx:∀w,(Instr.index 115 (.agg #[.int .i64 m,.int .i64 E,.int .i64 V,.int .i64 D]) (.int .i64 (k:Int))).run Tryz.prog w=.ok (.int .i64 m) w:=by rw[hk'];exact aVU m E V D
  have HK:=qA hk';clear hk';go_wp2_with fail
  clear hidx;go_loopw [5,8] (fun c1 c2 wr=>∃j:Nat,j<=8/\(∃sa sc,c1=.slice sa (8*k+j) sc/\Hid (PB w wr (.slice sa (8*k+j) sc) (L.take (8*k+j))))/\c2=.int .i64 (56-8*(j:Int))) (fun _ c _=>((intOf c)+8).toNat)
  case atStart=>exact⟨0,by omega,⟨_,_,rfl,HP⟩,rfl⟩
  case round=>
   clear HP;obtain⟨j,hj,⟨sa,sc,rfl,HP⟩,rfl⟩:=hrel;rename World=>wr
   by_cases hlt:j<8
   {
   have hj8:j=0∨j=1∨j=2∨j=3∨j=4∨j=5∨j=6∨j=7:=by omega
   rcases hj8 with rfl|rfl|rfl|rfl|rfl|rfl|rfl|rfl
   {
   have HQ:=qA (PB.own (n:=(8*k+0)) HP.out (by rw[List.length_take,HLL.out,aA];omega));go_wp2_with (first|(at_builtin;refine aB rfl (.tmp 23) (.tmp 28) 22 rfl 5 (.int .u8 0) 1 Tryz.underlying22 Tryz.info5 rfl (.slice sa (8*k+0) sc) (8*k+0) (cA (L.take (8*k+0))) rfl (HQ.out _) wr.heap.size (.int .u8 (m/72057594037927936%256)) rfl (aC _ _ _ _ rfl) rfl (by omega) (by decide) ?_;intro g' cap' w4 hown4 hgrow4 hg4)|fail)
   have HN:Hid (PB w w4 (.slice (some ⟨g', 0,none⟩) (8*k+(0+1)) cap') (L.take (8*k+(0+1)))):=qA (by
     have hat:L[(8*k+0)]? =some (m.toNat/72057594037927936%256):=by rw[HLL.out,HK.out];show some (bJ m/72057594037927936%256)=_;rw[aQ H0.out.1]
     rw[show m/72057594037927936%256=((m.toNat/72057594037927936%256:Nat):Int) by have:=H0.out;omega]at hown4;have h1:=PB.push (n:=(8*k+0)) HP.out (by rw[List.length_take,HLL.out,aA];omega) hown4 hgrow4 hg4;have h2:L.take (8*k+(0+1))=L.take (8*k+0)++[m.toNat/72057594037927936%256]:=(List.take_add_one (l:=L) (i:=(8*k+0))).trans (by rw[hat];rfl);rw[h2];exact h1)
   clear HQ hown4 hgrow4 hg4 HP;go_roundw
   case rel=>exact⟨0+1,by omega,⟨_,_,rfl,HN⟩,by go_num⟩
   case measure=>simp[intOf]}
   {
   have HQ:=qA (PB.own (n:=(8*k+1)) HP.out (by rw[List.length_take,HLL.out,aA];omega));go_wp2_with (first|(at_builtin;refine aB rfl (.tmp 23) (.tmp 28) 22 rfl 5 (.int .u8 0) 1 Tryz.underlying22 Tryz.info5 rfl (.slice sa (8*k+1) sc) (8*k+1) (cA (L.take (8*k+1))) rfl (HQ.out _) wr.heap.size (.int .u8 (m/281474976710656%256)) rfl (aC _ _ _ _ rfl) rfl (by omega) (by decide) ?_;intro g' cap' w4 hown4 hgrow4 hg4)|fail)
   have HN:Hid (PB w w4 (.slice (some ⟨g', 0,none⟩) (8*k+(1+1)) cap') (L.take (8*k+(1+1)))):=qA (by
     have hat:L[(8*k+1)]? =some (m.toNat/281474976710656%256):=by rw[HLL.out,HK.out];show some (bJ m/281474976710656%256)=_;rw[aQ H0.out.1]
     rw[show m/281474976710656%256=((m.toNat/281474976710656%256:Nat):Int) by have:=H0.out;omega]at hown4;have h1:=PB.push (n:=(8*k+1)) HP.out (by rw[List.length_take,HLL.out,aA];omega) hown4 hgrow4 hg4;have h2:L.take (8*k+(1+1))=L.take (8*k+1)++[m.toNat/281474976710656%256]:=(List.take_add_one (l:=L) (i:=(8*k+1))).trans (by rw[hat];rfl);rw[h2];exact h1)
   clear HQ hown4 hgrow4 hg4 HP;go_roundw
   case rel=>exact⟨1+1,by omega,⟨_,_,rfl,HN⟩,by go_num⟩
   case measure=>simp[intOf]}
   {
   have HQ:=qA (PB.own (n:=(8*k+2)) HP.out (by rw[List.length_take,HLL.out,aA];omega));go_wp2_with (first|(at_builtin;refine aB rfl (.tmp 23) (.tmp 28) 22 rfl 5 (.int .u8 0) 1 Tryz.underlying22 Tryz.info5 rfl (.slice sa (8*k+2) sc) (8*k+2) (cA (L.take (8*k+2))) rfl (HQ.out _) wr.heap.size (.int .u8 (m/1099511627776%256)) rfl (aC _ _ _ _ rfl) rfl (by omega) (by decide) ?_;intro g' cap' w4 hown4 hgrow4 hg4)|fail)
   have HN:Hid (PB w w4 (.slice (some ⟨g', 0,none⟩) (8*k+(2+1)) cap') (L.take (8*k+(2+1)))):=qA (by
     have hat:L[(8*k+2)]? =some (m.toNat/1099511627776%256):=by rw[HLL.out,HK.out];show some (bJ m/1099511627776%256)=_;rw[aQ H0.out.1]
     rw[show m/1099511627776%256=((m.toNat/1099511627776%256:Nat):Int) by have:=H0.out;omega]at hown4;have h1:=PB.push (n:=(8*k+2)) HP.out (by rw[List.length_take,HLL.out,aA];omega) hown4 hgrow4 hg4;have h2:L.take (8*k+(2+1))=L.take (8*k+2)++[m.toNat/1099511627776%256]:=(List.take_add_one (l:=L) (i:=(8*k+2))).trans (by rw[hat];rfl);rw[h2];exact h1)
   clear HQ hown4 hgrow4 hg4 HP;go_roundw
   case rel=>exact⟨2+1,by omega,⟨_,_,rfl,HN⟩,by go_num⟩
   case measure=>simp[intOf]}
   {
   have HQ:=qA (PB.own (n:=(8*k+3)) HP.out (by rw[List.length_take,HLL.out,aA];omega));go_wp2_with (first|(at_builtin;refine aB rfl (.tmp 23) (.tmp 28) 22 rfl 5 (.int .u8 0) 1 Tryz.underlying22 Tryz.info5 rfl (.slice sa (8*k+3) sc) (8*k+3) (cA (L.take (8*k+3))) rfl (HQ.out _) wr.heap.size (.int .u8 (m/4294967296%256)) rfl (aC _ _ _ _ rfl) rfl (by omega) (by decide) ?_;intro g' cap' w4 hown4 hgrow4 hg4)|fail)
   have HN:Hid (PB w w4 (.slice (some ⟨g', 0,none⟩) (8*k+(3+1)) cap') (L.take (8*k+(3+1)))):=qA (by
     have hat:L[(8*k+3)]? =some (m.toNat/4294967296%256):=by rw[HLL.out,HK.out];show some (bJ m/4294967296%256)=_;rw[aQ H0.out.1]
     rw[show m/4294967296%256=((m.toNat/4294967296%256:Nat):Int) by have:=H0.out;omega]at hown4;have h1:=PB.push (n:=(8*k+3)) HP.out (by rw[List.length_take,HLL.out,aA];omega) hown4 hgrow4 hg4;have h2:L.take (8*k+(3+1))=L.take (8*k+3)++[m.toNat/4294967296%256]:=(List.take_add_one (l:=L) (i:=(8*k+3))).trans (by rw[hat];rfl);rw[h2];exact h1)
   clear HQ hown4 hgrow4 hg4 HP;go_roundw
   case rel=>exact⟨3+1,by omega,⟨_,_,rfl,HN⟩,by go_num⟩
   case measure=>simp[intOf]}
   {
   have HQ:=qA (PB.own (n:=(8*k+4)) HP.out (by rw[List.length_take,HLL.out,aA];omega));go_wp2_with (first|(at_builtin;refine aB rfl (.tmp 23) (.tmp 28) 22 rfl 5 (.int .u8 0) 1 Tryz.underlying22 Tryz.info5 rfl (.slice sa (8*k+4) sc) (8*k+4) (cA (L.take (8*k+4))) rfl (HQ.out _) wr.heap.size (.int .u8 (m/16777216%256)) rfl (aC _ _ _ _ rfl) rfl (by omega) (by decide) ?_;intro g' cap' w4 hown4 hgrow4 hg4)|fail)
   have HN:Hid (PB w w4 (.slice (some ⟨g', 0,none⟩) (8*k+(4+1)) cap') (L.take (8*k+(4+1)))):=qA (by
     have hat:L[(8*k+4)]? =some (m.toNat/16777216%256):=by rw[HLL.out,HK.out];show some (bJ m/16777216%256)=_;rw[aQ H0.out.1]
     rw[show m/16777216%256=((m.toNat/16777216%256:Nat):Int) by have:=H0.out;omega]at hown4;have h1:=PB.push (n:=(8*k+4)) HP.out (by rw[List.length_take,HLL.out,aA];omega) hown4 hgrow4 hg4;have h2:L.take (8*k+(4+1))=L.take (8*k+4)++[m.toNat/16777216%256]:=(List.take_add_one (l:=L) (i:=(8*k+4))).trans (by rw[hat];rfl);rw[h2];exact h1)
   clear HQ hown4 hgrow4 hg4 HP;go_roundw
   case rel=>exact⟨4+1,by omega,⟨_,_,rfl,HN⟩,by go_num⟩
   case measure=>simp[intOf]}
   {
   have HQ:=qA (PB.own (n:=(8*k+5)) HP.out (by rw[List.length_take,HLL.out,aA];omega));go_wp2_with (first|(at_builtin;refine aB rfl (.tmp 23) (.tmp 28) 22 rfl 5 (.int .u8 0) 1 Tryz.underlying22 Tryz.info5 rfl (.slice sa (8*k+5) sc) (8*k+5) (cA (L.take (8*k+5))) rfl (HQ.out _) wr.heap.size (.int .u8 (m/65536%256)) rfl (aC _ _ _ _ rfl) rfl (by omega) (by decide) ?_;intro g' cap' w4 hown4 hgrow4 hg4)|fail)
   have HN:Hid (PB w w4 (.slice (some ⟨g', 0,none⟩) (8*k+(5+1)) cap') (L.take (8*k+(5+1)))):=qA (by
     have hat:L[(8*k+5)]? =some (m.toNat/65536%256):=by rw[HLL.out,HK.out];show some (bJ m/65536%256)=_;rw[aQ H0.out.1]
     rw[show m/65536%256=((m.toNat/65536%256:Nat):Int) by have:=H0.out;omega]at hown4;have h1:=PB.push (n:=(8*k+5)) HP.out (by rw[List.length_take,HLL.out,aA];omega) hown4 hgrow4 hg4;have h2:L.take (8*k+(5+1))=L.take (8*k+5)++[m.toNat/65536%256]:=(List.take_add_one (l:=L) (i:=(8*k+5))).trans (by rw[hat];rfl);rw[h2];exact h1)
   clear HQ hown4 hgrow4 hg4 HP;go_roundw
   case rel=>exact⟨5+1,by omega,⟨_,_,rfl,HN⟩,by go_num⟩
   case measure=>simp[intOf]}
   {
   have HQ:=qA (PB.own (n:=(8*k+6)) HP.out (by rw[List.length_take,HLL.out,aA];omega));go_wp2_with (first|(at_builtin;refine aB rfl (.tmp 23) (.tmp 28) 22 rfl 5 (.int .u8 0) 1 Tryz.underlying22 Tryz.info5 rfl (.slice sa (8*k+6) sc) (8*k+6) (cA (L.take (8*k+6))) rfl (HQ.out _) wr.heap.size (.int .u8 (m/256%256)) rfl (aC _ _ _ _ rfl) rfl (by omega) (by decide) ?_;intro g' cap' w4 hown4 hgrow4 hg4)|fail)
   have HN:Hid (PB w w4 (.slice (some ⟨g', 0,none⟩) (8*k+(6+1)) cap') (L.take (8*k+(6+1)))):=qA (by
     have hat:L[(8*k+6)]? =some (m.toNat/256%256):=by rw[HLL.out,HK.out];show some (bJ m/256%256)=_;rw[aQ H0.out.1]
     rw[show m/256%256=((m.toNat/256%256:Nat):Int) by have:=H0.out;omega]at hown4;have h1:=PB.push (n:=(8*k+6)) HP.out (by rw[List.length_take,HLL.out,aA];omega) hown4 hgrow4 hg4;have h2:L.take (8*k+(6+1))=L.take (8*k+6)++[m.toNat/256%256]:=(List.take_add_one (l:=L) (i:=(8*k+6))).trans (by rw[hat];rfl);rw[h2];exact h1)
   clear HQ hown4 hgrow4 hg4 HP;go_roundw
   case rel=>exact⟨6+1,by omega,⟨_,_,rfl,HN⟩,by go_num⟩
   case measure=>simp[intOf]}
   {
   have HQ:=qA (PB.own (n:=(8*k+7)) HP.out (by rw[List.length_take,HLL.out,aA];omega));go_wp2_with (first|(at_builtin;refine aB rfl (.tmp 23) (.tmp 28) 22 rfl 5 (.int .u8 0) 1 Tryz.underlying22 Tryz.info5 rfl (.slice sa (8*k+7) sc) (8*k+7) (cA (L.take (8*k+7))) rfl (HQ.out _) wr.heap.size (.int .u8 (m%256)) rfl (aC _ _ _ _ rfl) rfl (by omega) (by decide) ?_;intro g' cap' w4 hown4 hgrow4 hg4)|fail)
   have HN:Hid (PB w w4 (.slice (some ⟨g', 0,none⟩) (8*k+(7+1)) cap') (L.take (8*k+(7+1)))):=qA (by
     have hat:L[(8*k+7)]? =some (m.toNat/1%256):=by rw[HLL.out,HK.out];show some (bJ m/1%256)=_;rw[aQ H0.out.1]
     rw[show m%256=((m.toNat/1%256:Nat):Int) by have:=H0.out;omega]at hown4;have h1:=PB.push (n:=(8*k+7)) HP.out (by rw[List.length_take,HLL.out,aA];omega) hown4 hgrow4 hg4;have h2:L.take (8*k+(7+1))=L.take (8*k+7)++[m.toNat/1%256]:=(List.take_add_one (l:=L) (i:=(8*k+7))).trans (by rw[hat];rfl);rw[h2];exact h1)
   clear HQ hown4 hgrow4 hg4 HP;go_roundw
   case rel=>exact⟨7+1,by omega,⟨_,_,rfl,HN⟩,by go_num⟩
   case measure=>simp[intOf]}}
   {
   obtain rfl:j=8:=by omega
   have HN:=qA (show PB w wr (.slice sa (8*(k+1)) sc) (L.take (8*(k+1))) from HP.out);clear HP;go_wp2_with fail
   go_roundw
   case rel=>exact⟨k+1,by omega,⟨_,_,rfl,HN⟩,by go_num⟩
   case measure=>simp[intOf];omega}}
  {
  have hidx:∀w,(Instr.index 115 (.agg #[.int .i64 m,.int .i64 E,.int .i64 V,.int .i64 D]) (.int .i64 (k:Int))).run Tryz.prog w=.ok (.int .i64 E) w:=by rw[hk'];exact aVV m E V D
  have HK:=qA hk';clear hk';go_wp2_with fail
  clear hidx;go_loopw [5,8] (fun c1 c2 wr=>∃j:Nat,j<=8/\(∃sa sc,c1=.slice sa (8*k+j) sc/\Hid (PB w wr (.slice sa (8*k+j) sc) (L.take (8*k+j))))/\c2=.int .i64 (56-8*(j:Int))) (fun _ c _=>((intOf c)+8).toNat)
  case atStart=>exact⟨0,by omega,⟨_,_,rfl,HP⟩,rfl⟩
  case round=>
   clear HP;obtain⟨j,hj,⟨sa,sc,rfl,HP⟩,rfl⟩:=hrel;rename World=>wr
   by_cases hlt:j<8
   {
   have hj8:j=0∨j=1∨j=2∨j=3∨j=4∨j=5∨j=6∨j=7:=by omega
   rcases hj8 with rfl|rfl|rfl|rfl|rfl|rfl|rfl|rfl
   {
   have HQ:=qA (PB.own (n:=(8*k+0)) HP.out (by rw[List.length_take,HLL.out,aA];omega));go_wp2_with (first|(at_builtin;refine aB rfl (.tmp 23) (.tmp 28) 22 rfl 5 (.int .u8 0) 1 Tryz.underlying22 Tryz.info5 rfl (.slice sa (8*k+0) sc) (8*k+0) (cA (L.take (8*k+0))) rfl (HQ.out _) wr.heap.size (.int .u8 (E/72057594037927936%256)) rfl (aC _ _ _ _ rfl) rfl (by omega) (by decide) ?_;intro g' cap' w4 hown4 hgrow4 hg4)|fail)
   have HN:Hid (PB w w4 (.slice (some ⟨g', 0,none⟩) (8*k+(0+1)) cap') (L.take (8*k+(0+1)))):=qA (by
     have hat:L[(8*k+0)]? =some (E.toNat/72057594037927936%256):=by rw[HLL.out,HK.out];show some (bJ E/72057594037927936%256)=_;rw[aQ H0.out.2.1]
     rw[show E/72057594037927936%256=((E.toNat/72057594037927936%256:Nat):Int) by have:=H0.out;omega]at hown4;have h1:=PB.push (n:=(8*k+0)) HP.out (by rw[List.length_take,HLL.out,aA];omega) hown4 hgrow4 hg4;have h2:L.take (8*k+(0+1))=L.take (8*k+0)++[E.toNat/72057594037927936%256]:=(List.take_add_one (l:=L) (i:=(8*k+0))).trans (by rw[hat];rfl);rw[h2];exact h1)
   clear HQ hown4 hgrow4 hg4 HP;go_roundw
   case rel=>exact⟨0+1,by omega,⟨_,_,rfl,HN⟩,by go_num⟩
   case measure=>simp[intOf]}
   {
   have HQ:=qA (PB.own (n:=(8*k+1)) HP.out (by rw[List.length_take,HLL.out,aA];omega));go_wp2_with (first|(at_builtin;refine aB rfl (.tmp 23) (.tmp 28) 22 rfl 5 (.int .u8 0) 1 Tryz.underlying22 Tryz.info5 rfl (.slice sa (8*k+1) sc) (8*k+1) (cA (L.take (8*k+1))) rfl (HQ.out _) wr.heap.size (.int .u8 (E/281474976710656%256)) rfl (aC _ _ _ _ rfl) rfl (by omega) (by decide) ?_;intro g' cap' w4 hown4 hgrow4 hg4)|fail)
   have HN:Hid (PB w w4 (.slice (some ⟨g', 0,none⟩) (8*k+(1+1)) cap') (L.take (8*k+(1+1)))):=qA (by
     have hat:L[(8*k+1)]? =some (E.toNat/281474976710656%256):=by rw[HLL.out,HK.out];show some (bJ E/281474976710656%256)=_;rw[aQ H0.out.2.1]
     rw[show E/281474976710656%256=((E.toNat/281474976710656%256:Nat):Int) by have:=H0.out;omega]at hown4;have h1:=PB.push (n:=(8*k+1)) HP.out (by rw[List.length_take,HLL.out,aA];omega) hown4 hgrow4 hg4;have h2:L.take (8*k+(1+1))=L.take (8*k+1)++[E.toNat/281474976710656%256]:=(List.take_add_one (l:=L) (i:=(8*k+1))).trans (by rw[hat];rfl);rw[h2];exact h1)
   clear HQ hown4 hgrow4 hg4 HP;go_roundw
   case rel=>exact⟨1+1,by omega,⟨_,_,rfl,HN⟩,by go_num⟩
   case measure=>simp[intOf]}
   {
   have HQ:=qA (PB.own (n:=(8*k+2)) HP.out (by rw[List.length_take,HLL.out,aA];omega));go_wp2_with (first|(at_builtin;refine aB rfl (.tmp 23) (.tmp 28) 22 rfl 5 (.int .u8 0) 1 Tryz.underlying22 Tryz.info5 rfl (.slice sa (8*k+2) sc) (8*k+2) (cA (L.take (8*k+2))) rfl (HQ.out _) wr.heap.size (.int .u8 (E/1099511627776%256)) rfl (aC _ _ _ _ rfl) rfl (by omega) (by decide) ?_;intro g' cap' w4 hown4 hgrow4 hg4)|fail)
   have HN:Hid (PB w w4 (.slice (some ⟨g', 0,none⟩) (8*k+(2+1)) cap') (L.take (8*k+(2+1)))):=qA (by
     have hat:L[(8*k+2)]? =some (E.toNat/1099511627776%256):=by rw[HLL.out,HK.out];show some (bJ E/1099511627776%256)=_;rw[aQ H0.out.2.1]
     rw[show E/1099511627776%256=((E.toNat/1099511627776%256:Nat):Int) by have:=H0.out;omega]at hown4;have h1:=PB.push (n:=(8*k+2)) HP.out (by rw[List.length_take,HLL.out,aA];omega) hown4 hgrow4 hg4;have h2:L.take (8*k+(2+1))=L.take (8*k+2)++[E.toNat/1099511627776%256]:=(List.take_add_one (l:=L) (i:=(8*k+2))).trans (by rw[hat];rfl);rw[h2];exact h1)
   clear HQ hown4 hgrow4 hg4 HP;go_roundw
   case rel=>exact⟨2+1,by omega,⟨_,_,rfl,HN⟩,by go_num⟩
   case measure=>simp[intOf]}
   {
   have HQ:=qA (PB.own (n:=(8*k+3)) HP.out (by rw[List.length_take,HLL.out,aA];omega));go_wp2_with (first|(at_builtin;refine aB rfl (.tmp 23) (.tmp 28) 22 rfl 5 (.int .u8 0) 1 Tryz.underlying22 Tryz.info5 rfl (.slice sa (8*k+3) sc) (8*k+3) (cA (L.take (8*k+3))) rfl (HQ.out _) wr.heap.size (.int .u8 (E/4294967296%256)) rfl (aC _ _ _ _ rfl) rfl (by omega) (by decide) ?_;intro g' cap' w4 hown4 hgrow4 hg4)|fail)
   have HN:Hid (PB w w4 (.slice (some ⟨g', 0,none⟩) (8*k+(3+1)) cap') (L.take (8*k+(3+1)))):=qA (by
     have hat:L[(8*k+3)]? =some (E.toNat/4294967296%256):=by rw[HLL.out,HK.out];show some (bJ E/4294967296%256)=_;rw[aQ H0.out.2.1]
     rw[show E/4294967296%256=((E.toNat/4294967296%256:Nat):Int) by have:=H0.out;omega]at hown4;have h1:=PB.push (n:=(8*k+3)) HP.out (by rw[List.length_take,HLL.out,aA];omega) hown4 hgrow4 hg4;have h2:L.take (8*k+(3+1))=L.take (8*k+3)++[E.toNat/4294967296%256]:=(List.take_add_one (l:=L) (i:=(8*k+3))).trans (by rw[hat];rfl);rw[h2];exact h1)
   clear HQ hown4 hgrow4 hg4 HP;go_roundw
   case rel=>exact⟨3+1,by omega,⟨_,_,rfl,HN⟩,by go_num⟩
   case measure=>simp[intOf]}
   {
   have HQ:=qA (PB.own (n:=(8*k+4)) HP.out (by rw[List.length_take,HLL.out,aA];omega));go_wp2_with (first|(at_builtin;refine aB rfl (.tmp 23) (.tmp 28) 22 rfl 5 (.int .u8 0) 1 Tryz.underlying22 Tryz.info5 rfl (.slice sa (8*k+4) sc) (8*k+4) (cA (L.take (8*k+4))) rfl (HQ.out _) wr.heap.size (.int .u8 (E/16777216%256)) rfl (aC _ _ _ _ rfl) rfl (by omega) (by decide) ?_;intro g' cap' w4 hown4 hgrow4 hg4)|fail)
   have HN:Hid (PB w w4 (.slice (some ⟨g', 0,none⟩) (8*k+(4+1)) cap') (L.take (8*k+(4+1)))):=qA (by
     have hat:L[(8*k+4)]? =some (E.toNat/16777216%256):=by rw[HLL.out,HK.out];show some (bJ E/16777216%256)=_;rw[aQ H0.out.2.1]
     rw[show E/16777216%256=((E.toNat/16777216%256:Nat):Int) by have:=H0.out;omega]at hown4;have h1:=PB.push (n:=(8*k+4)) HP.out (by rw[List.length_take,HLL.out,aA];omega) hown4 hgrow4 hg4;have h2:L.take (8*k+(4+1))=L.take (8*k+4)++[E.toNat/16777216%256]:=(List.take_add_one (l:=L) (i:=(8*k+4))).trans (by rw[hat];rfl);rw[h2];exact h1)
   clear HQ hown4 hgrow4 hg4 HP;go_roundw
   case rel=>exact⟨4+1,by omega,⟨_,_,rfl,HN⟩,by go_num⟩
   case measure=>simp[intOf]}
   {
   have HQ:=qA (PB.own (n:=(8*k+5)) HP.out (by rw[List.length_take,HLL.out,aA];omega));go_wp2_with (first|(at_builtin;refine aB rfl (.tmp 23) (.tmp 28) 22 rfl 5 (.int .u8 0) 1 Tryz.underlying22 Tryz.info5 rfl (.slice sa (8*k+5) sc) (8*k+5) (cA (L.take (8*k+5))) rfl (HQ.out _) wr.heap.size (.int .u8 (E/65536%256)) rfl (aC _ _ _ _ rfl) rfl (by omega) (by decide) ?_;intro g' cap' w4 hown4 hgrow4 hg4)|fail)
   have HN:Hid (PB w w4 (.slice (some ⟨g', 0,none⟩) (8*k+(5+1)) cap') (L.take (8*k+(5+1)))):=qA (by
     have hat:L[(8*k+5)]? =some (E.toNat/65536%256):=by rw[HLL.out,HK.out];show some (bJ E/65536%256)=_;rw[aQ H0.out.2.1]
     rw[show E/65536%256=((E.toNat/65536%256:Nat):Int) by have:=H0.out;omega]at hown4;have h1:=PB.push (n:=(8*k+5)) HP.out (by rw[List.length_take,HLL.out,aA];omega) hown4 hgrow4 hg4;have h2:L.take (8*k+(5+1))=L.take (8*k+5)++[E.toNat/65536%256]:=(List.take_add_one (l:=L) (i:=(8*k+5))).trans (by rw[hat];rfl);rw[h2];exact h1)
   clear HQ hown4 hgrow4 hg4 HP;go_roundw
   case rel=>exact⟨5+1,by omega,⟨_,_,rfl,HN⟩,by go_num⟩
   case measure=>simp[intOf]}
   {
   have HQ:=qA (PB.own (n:=(8*k+6)) HP.out (by rw[List.length_take,HLL.out,aA];omega));go_wp2_with (first|(at_builtin;refine aB rfl (.tmp 23) (.tmp 28) 22 rfl 5 (.int .u8 0) 1 Tryz.underlying22 Tryz.info5 rfl (.slice sa (8*k+6) sc) (8*k+6) (cA (L.take (8*k+6))) rfl (HQ.out _) wr.heap.size (.int .u8 (E/256%256)) rfl (aC _ _ _ _ rfl) rfl (by omega) (by decide) ?_;intro g' cap' w4 hown4 hgrow4 hg4)|fail)
   have HN:Hid (PB w w4 (.slice (some ⟨g', 0,none⟩) (8*k+(6+1)) cap') (L.take (8*k+(6+1)))):=qA (by
     have hat:L[(8*k+6)]? =some (E.toNat/256%256):=by rw[HLL.out,HK.out];show some (bJ E/256%256)=_;rw[aQ H0.out.2.1]
     rw[show E/256%256=((E.toNat/256%256:Nat):Int) by have:=H0.out;omega]at hown4;have h1:=PB.push (n:=(8*k+6)) HP.out (by rw[List.length_take,HLL.out,aA];omega) hown4 hgrow4 hg4;have h2:L.take (8*k+(6+1))=L.take (8*k+6)++[E.toNat/256%256]:=(List.take_add_one (l:=L) (i:=(8*k+6))).trans (by rw[hat];rfl);rw[h2];exact h1)
   clear HQ hown4 hgrow4 hg4 HP;go_roundw
   case rel=>exact⟨6+1,by omega,⟨_,_,rfl,HN⟩,by go_num⟩
   case measure=>simp[intOf]}
   {
   have HQ:=qA (PB.own (n:=(8*k+7)) HP.out (by rw[List.length_take,HLL.out,aA];omega));go_wp2_with (first|(at_builtin;refine aB rfl (.tmp 23) (.tmp 28) 22 rfl 5 (.int .u8 0) 1 Tryz.underlying22 Tryz.info5 rfl (.slice sa (8*k+7) sc) (8*k+7) (cA (L.take (8*k+7))) rfl (HQ.out _) wr.heap.size (.int .u8 (E%256)) rfl (aC _ _ _ _ rfl) rfl (by omega) (by decide) ?_;intro g' cap' w4 hown4 hgrow4 hg4)|fail)
   have HN:Hid (PB w w4 (.slice (some ⟨g', 0,none⟩) (8*k+(7+1)) cap') (L.take (8*k+(7+1)))):=qA (by
     have hat:L[(8*k+7)]? =some (E.toNat/1%256):=by rw[HLL.out,HK.out];show some (bJ E/1%256)=_;rw[aQ H0.out.2.1]
     rw[show E%256=((E.toNat/1%256:Nat):Int) by have:=H0.out;omega]at hown4;have h1:=PB.push (n:=(8*k+7)) HP.out (by rw[List.length_take,HLL.out,aA];omega) hown4 hgrow4 hg4;have h2:L.take (8*k+(7+1))=L.take (8*k+7)++[E.toNat/1%256]:=(List.take_add_one (l:=L) (i:=(8*k+7))).trans (by rw[hat];rfl);rw[h2];exact h1)
   clear HQ hown4 hgrow4 hg4 HP;go_roundw
   case rel=>exact⟨7+1,by omega,⟨_,_,rfl,HN⟩,by go_num⟩
   case measure=>simp[intOf]}}
   {
   obtain rfl:j=8:=by omega
   have HN:=qA (show PB w wr (.slice sa (8*(k+1)) sc) (L.take (8*(k+1))) from HP.out);clear HP;go_wp2_with fail
   go_roundw
   case rel=>exact⟨k+1,by omega,⟨_,_,rfl,HN⟩,by go_num⟩
   case measure=>simp[intOf];omega}}
  {
  have hidx:∀w,(Instr.index 115 (.agg #[.int .i64 m,.int .i64 E,.int .i64 V,.int .i64 D]) (.int .i64 (k:Int))).run Tryz.prog w=.ok (.int .i64 V) w:=by rw[hk'];exact aVW m E V D
  have HK:=qA hk';clear hk';go_wp2_with fail
  clear hidx;go_loopw [5,8] (fun c1 c2 wr=>∃j:Nat,j<=8/\(∃sa sc,c1=.slice sa (8*k+j) sc/\Hid (PB w wr (.slice sa (8*k+j) sc) (L.take (8*k+j))))/\c2=.int .i64 (56-8*(j:Int))) (fun _ c _=>((intOf c)+8).toNat)
  case atStart=>exact⟨0,by omega,⟨_,_,rfl,HP⟩,rfl⟩
  case round=>
   clear HP;obtain⟨j,hj,⟨sa,sc,rfl,HP⟩,rfl⟩:=hrel;rename World=>wr
   by_cases hlt:j<8
   {
   have hj8:j=0∨j=1∨j=2∨j=3∨j=4∨j=5∨j=6∨j=7:=by omega
   rcases hj8 with rfl|rfl|rfl|rfl|rfl|rfl|rfl|rfl
   {
   have HQ:=qA (PB.own (n:=(8*k+0)) HP.out (by rw[List.length_take,HLL.out,aA];omega));go_wp2_with (first|(at_builtin;refine aB rfl (.tmp 23) (.tmp 28) 22 rfl 5 (.int .u8 0) 1 Tryz.underlying22 Tryz.info5 rfl (.slice sa (8*k+0) sc) (8*k+0) (cA (L.take (8*k+0))) rfl (HQ.out _) wr.heap.size (.int .u8 (V/72057594037927936%256)) rfl (aC _ _ _ _ rfl) rfl (by omega) (by decide) ?_;intro g' cap' w4 hown4 hgrow4 hg4)|fail)
   have HN:Hid (PB w w4 (.slice (some ⟨g', 0,none⟩) (8*k+(0+1)) cap') (L.take (8*k+(0+1)))):=qA (by
     have hat:L[(8*k+0)]? =some (V.toNat/72057594037927936%256):=by rw[HLL.out,HK.out];show some (bJ V/72057594037927936%256)=_;rw[aQ H0.out.2.2.1]
     rw[show V/72057594037927936%256=((V.toNat/72057594037927936%256:Nat):Int) by have:=H0.out;omega]at hown4;have h1:=PB.push (n:=(8*k+0)) HP.out (by rw[List.length_take,HLL.out,aA];omega) hown4 hgrow4 hg4;have h2:L.take (8*k+(0+1))=L.take (8*k+0)++[V.toNat/72057594037927936%256]:=(List.take_add_one (l:=L) (i:=(8*k+0))).trans (by rw[hat];rfl);rw[h2];exact h1)
   clear HQ hown4 hgrow4 hg4 HP;go_roundw
   case rel=>exact⟨0+1,by omega,⟨_,_,rfl,HN⟩,by go_num⟩
   case measure=>simp[intOf]}
   {
   have HQ:=qA (PB.own (n:=(8*k+1)) HP.out (by rw[List.length_take,HLL.out,aA];omega));go_wp2_with (first|(at_builtin;refine aB rfl (.tmp 23) (.tmp 28) 22 rfl 5 (.int .u8 0) 1 Tryz.underlying22 Tryz.info5 rfl (.slice sa (8*k+1) sc) (8*k+1) (cA (L.take (8*k+1))) rfl (HQ.out _) wr.heap.size (.int .u8 (V/281474976710656%256)) rfl (aC _ _ _ _ rfl) rfl (by omega) (by decide) ?_;intro g' cap' w4 hown4 hgrow4 hg4)|fail)
   have HN:Hid (PB w w4 (.slice (some ⟨g', 0,none⟩) (8*k+(1+1)) cap') (L.take (8*k+(1+1)))):=qA (by
     have hat:L[(8*k+1)]? =some (V.toNat/281474976710656%256):=by rw[HLL.out,HK.out];show some (bJ V/281474976710656%256)=_;rw[aQ H0.out.2.2.1]
     rw[show V/281474976710656%256=((V.toNat/281474976710656%256:Nat):Int) by have:=H0.out;omega]at hown4;have h1:=PB.push (n:=(8*k+1)) HP.out (by rw[List.length_take,HLL.out,aA];omega) hown4 hgrow4 hg4;have h2:L.take (8*k+(1+1))=L.take (8*k+1)++[V.toNat/281474976710656%256]:=(List.take_add_one (l:=L) (i:=(8*k+1))).trans (by rw[hat];rfl);rw[h2];exact h1)
   clear HQ hown4 hgrow4 hg4 HP;go_roundw
   case rel=>exact⟨1+1,by omega,⟨_,_,rfl,HN⟩,by go_num⟩
   case measure=>simp[intOf]}
   {
   have HQ:=qA (PB.own (n:=(8*k+2)) HP.out (by rw[List.length_take,HLL.out,aA];omega));go_wp2_with (first|(at_builtin;refine aB rfl (.tmp 23) (.tmp 28) 22 rfl 5 (.int .u8 0) 1 Tryz.underlying22 Tryz.info5 rfl (.slice sa (8*k+2) sc) (8*k+2) (cA (L.take (8*k+2))) rfl (HQ.out _) wr.heap.size (.int .u8 (V/1099511627776%256)) rfl (aC _ _ _ _ rfl) rfl (by omega) (by decide) ?_;intro g' cap' w4 hown4 hgrow4 hg4)|fail)
   have HN:Hid (PB w w4 (.slice (some ⟨g', 0,none⟩) (8*k+(2+1)) cap') (L.take (8*k+(2+1)))):=qA (by
     have hat:L[(8*k+2)]? =some (V.toNat/1099511627776%256):=by rw[HLL.out,HK.out];show some (bJ V/1099511627776%256)=_;rw[aQ H0.out.2.2.1]
     rw[show V/1099511627776%256=((V.toNat/1099511627776%256:Nat):Int) by have:=H0.out;omega]at hown4;have h1:=PB.push (n:=(8*k+2)) HP.out (by rw[List.length_take,HLL.out,aA];omega) hown4 hgrow4 hg4;have h2:L.take (8*k+(2+1))=L.take (8*k+2)++[V.toNat/1099511627776%256]:=(List.take_add_one (l:=L) (i:=(8*k+2))).trans (by rw[hat];rfl);rw[h2];exact h1)
   clear HQ hown4 hgrow4 hg4 HP;go_roundw
   case rel=>exact⟨2+1,by omega,⟨_,_,rfl,HN⟩,by go_num⟩
   case measure=>simp[intOf]}
   {
   have HQ:=qA (PB.own (n:=(8*k+3)) HP.out (by rw[List.length_take,HLL.out,aA];omega));go_wp2_with (first|(at_builtin;refine aB rfl (.tmp 23) (.tmp 28) 22 rfl 5 (.int .u8 0) 1 Tryz.underlying22 Tryz.info5 rfl (.slice sa (8*k+3) sc) (8*k+3) (cA (L.take (8*k+3))) rfl (HQ.out _) wr.heap.size (.int .u8 (V/4294967296%256)) rfl (aC _ _ _ _ rfl) rfl (by omega) (by decide) ?_;intro g' cap' w4 hown4 hgrow4 hg4)|fail)
   have HN:Hid (PB w w4 (.slice (some ⟨g', 0,none⟩) (8*k+(3+1)) cap') (L.take (8*k+(3+1)))):=qA (by
     have hat:L[(8*k+3)]? =some (V.toNat/4294967296%256):=by rw[HLL.out,HK.out];show some (bJ V/4294967296%256)=_;rw[aQ H0.out.2.2.1]
     rw[show V/4294967296%256=((V.toNat/4294967296%256:Nat):Int) by have:=H0.out;omega]at hown4;have h1:=PB.push (n:=(8*k+3)) HP.out (by rw[List.length_take,HLL.out,aA];omega) hown4 hgrow4 hg4;have h2:L.take (8*k+(3+1))=L.take (8*k+3)++[V.toNat/4294967296%256]:=(List.take_add_one (l:=L) (i:=(8*k+3))).trans (by rw[hat];rfl);rw[h2];exact h1)
   clear HQ hown4 hgrow4 hg4 HP;go_roundw
   case rel=>exact⟨3+1,by omega,⟨_,_,rfl,HN⟩,by go_num⟩
   case measure=>simp[intOf]}
   {
   have HQ:=qA (PB.own (n:=(8*k+4)) HP.out (by rw[List.length_take,HLL.out,aA];omega));go_wp2_with (first|(at_builtin;refine aB rfl (.tmp 23) (.tmp 28) 22 rfl 5 (.int .u8 0) 1 Tryz.underlying22 Tryz.info5 rfl (.slice sa (8*k+4) sc) (8*k+4) (cA (L.take (8*k+4))) rfl (HQ.out _) wr.heap.size (.int .u8 (V/16777216%256)) rfl (aC _ _ _ _ rfl) rfl (by omega) (by decide) ?_;intro g' cap' w4 hown4 hgrow4 hg4)|fail)
   have HN:Hid (PB w w4 (.slice (some ⟨g', 0,none⟩) (8*k+(4+1)) cap') (L.take (8*k+(4+1)))):=qA (by
     have hat:L[(8*k+4)]? =some (V.toNat/16777216%256):=by rw[HLL.out,HK.out];show some (bJ V/16777216%256)=_;rw[aQ H0.out.2.2.1]
     rw[show V/16777216%256=((V.toNat/16777216%256:Nat):Int) by have:=H0.out;omega]at hown4;have h1:=PB.push (n:=(8*k+4)) HP.out (by rw[List.length_take,HLL.out,aA];omega) hown4 hgrow4 hg4;have h2:L.take (8*k+(4+1))=L.take (8*k+4)++[V.toNat/16777216%256]:=(List.take_add_one (l:=L) (i:=(8*k+4))).trans (by rw[hat];rfl);rw[h2];exact h1)
   clear HQ hown4 hgrow4 hg4 HP;go_roundw
   case rel=>exact⟨4+1,by omega,⟨_,_,rfl,HN⟩,by go_num⟩
   case measure=>simp[intOf]}
   {
   have HQ:=qA (PB.own (n:=(8*k+5)) HP.out (by rw[List.length_take,HLL.out,aA];omega));go_wp2_with (first|(at_builtin;refine aB rfl (.tmp 23) (.tmp 28) 22 rfl 5 (.int .u8 0) 1 Tryz.underlying22 Tryz.info5 rfl (.slice sa (8*k+5) sc) (8*k+5) (cA (L.take (8*k+5))) rfl (HQ.out _) wr.heap.size (.int .u8 (V/65536%256)) rfl (aC _ _ _ _ rfl) rfl (by omega) (by decide) ?_;intro g' cap' w4 hown4 hgrow4 hg4)|fail)
   have HN:Hid (PB w w4 (.slice (some ⟨g', 0,none⟩) (8*k+(5+1)) cap') (L.take (8*k+(5+1)))):=qA (by
     have hat:L[(8*k+5)]? =some (V.toNat/65536%256):=by rw[HLL.out,HK.out];show some (bJ V/65536%256)=_;rw[aQ H0.out.2.2.1]
     rw[show V/65536%256=((V.toNat/65536%256:Nat):Int) by have:=H0.out;omega]at hown4;have h1:=PB.push (n:=(8*k+5)) HP.out (by rw[List.length_take,HLL.out,aA];omega) hown4 hgrow4 hg4;have h2:L.take (8*k+(5+1))=L.take (8*k+5)++[V.toNat/65536%256]:=(List.take_add_one (l:=L) (i:=(8*k+5))).trans (by rw[hat];rfl);rw[h2];exact h1)
   clear HQ hown4 hgrow4 hg4 HP;go_roundw
   case rel=>exact⟨5+1,by omega,⟨_,_,rfl,HN⟩,by go_num⟩
   case measure=>simp[intOf]}
   {
   have HQ:=qA (PB.own (n:=(8*k+6)) HP.out (by rw[List.length_take,HLL.out,aA];omega));go_wp2_with (first|(at_builtin;refine aB rfl (.tmp 23) (.tmp 28) 22 rfl 5 (.int .u8 0) 1 Tryz.underlying22 Tryz.info5 rfl (.slice sa (8*k+6) sc) (8*k+6) (cA (L.take (8*k+6))) rfl (HQ.out _) wr.heap.size (.int .u8 (V/256%256)) rfl (aC _ _ _ _ rfl) rfl (by omega) (by decide) ?_;intro g' cap' w4 hown4 hgrow4 hg4)|fail)
   have HN:Hid (PB w w4 (.slice (some ⟨g', 0,none⟩) (8*k+(6+1)) cap') (L.take (8*k+(6+1)))):=qA (by
     have hat:L[(8*k+6)]? =some (V.toNat/256%256):=by rw[HLL.out,HK.out];show some (bJ V/256%256)=_;rw[aQ H0.out.2.2.1]
     rw[show V/256%256=((V.toNat/256%256:Nat):Int) by have:=H0.out;omega]at hown4;have h1:=PB.push (n:=(8*k+6)) HP.out (by rw[List.length_take,HLL.out,aA];omega) hown4 hgrow4 hg4;have h2:L.take (8*k+(6+1))=L.take (8*k+6)++[V.toNat/256%256]:=(List.take_add_one (l:=L) (i:=(8*k+6))).trans (by rw[hat];rfl);rw[h2];exact h1)
   clear HQ hown4 hgrow4 hg4 HP;go_roundw
   case rel=>exact⟨6+1,by omega,⟨_,_,rfl,HN⟩,by go_num⟩
   case measure=>simp[intOf]}
   {
   have HQ:=qA (PB.own (n:=(8*k+7)) HP.out (by rw[List.length_take,HLL.out,aA];omega));go_wp2_with (first|(at_builtin;refine aB rfl (.tmp 23) (.tmp 28) 22 rfl 5 (.int .u8 0) 1 Tryz.underlying22 Tryz.info5 rfl (.slice sa (8*k+7) sc) (8*k+7) (cA (L.take (8*k+7))) rfl (HQ.out _) wr.heap.size (.int .u8 (V%256)) rfl (aC _ _ _ _ rfl) rfl (by omega) (by decide) ?_;intro g' cap' w4 hown4 hgrow4 hg4)|fail)
   have HN:Hid (PB w w4 (.slice (some ⟨g', 0,none⟩) (8*k+(7+1)) cap') (L.take (8*k+(7+1)))):=qA (by
     have hat:L[(8*k+7)]? =some (V.toNat/1%256):=by rw[HLL.out,HK.out];show some (bJ V/1%256)=_;rw[aQ H0.out.2.2.1]
     rw[show V%256=((V.toNat/1%256:Nat):Int) by have:=H0.out;omega]at hown4;have h1:=PB.push (n:=(8*k+7)) HP.out (by rw[List.length_take,HLL.out,aA];omega) hown4 hgrow4 hg4;have h2:L.take (8*k+(7+1))=L.take (8*k+7)++[V.toNat/1%256]:=(List.take_add_one (l:=L) (i:=(8*k+7))).trans (by rw[hat];rfl);rw[h2];exact h1)
   clear HQ hown4 hgrow4 hg4 HP;go_roundw
   case rel=>exact⟨7+1,by omega,⟨_,_,rfl,HN⟩,by go_num⟩
   case measure=>simp[intOf]}}
   {
   obtain rfl:j=8:=by omega
   have HN:=qA (show PB w wr (.slice sa (8*(k+1)) sc) (L.take (8*(k+1))) from HP.out);clear HP;go_wp2_with fail
   go_roundw
   case rel=>exact⟨k+1,by omega,⟨_,_,rfl,HN⟩,by go_num⟩
   case measure=>simp[intOf];omega}}
  {
  have hidx:∀w,(Instr.index 115 (.agg #[.int .i64 m,.int .i64 E,.int .i64 V,.int .i64 D]) (.int .i64 (k:Int))).run Tryz.prog w=.ok (.int .i64 D) w:=by rw[hk'];exact aVX m E V D
  have HK:=qA hk';clear hk';go_wp2_with fail
  clear hidx;go_loopw [5,8] (fun c1 c2 wr=>∃j:Nat,j<=8/\(∃sa sc,c1=.slice sa (8*k+j) sc/\Hid (PB w wr (.slice sa (8*k+j) sc) (L.take (8*k+j))))/\c2=.int .i64 (56-8*(j:Int))) (fun _ c _=>((intOf c)+8).toNat)
  case atStart=>exact⟨0,by omega,⟨_,_,rfl,HP⟩,rfl⟩
  case round=>
   clear HP;obtain⟨j,hj,⟨sa,sc,rfl,HP⟩,rfl⟩:=hrel;rename World=>wr
   by_cases hlt:j<8
   {
   have hj8:j=0∨j=1∨j=2∨j=3∨j=4∨j=5∨j=6∨j=7:=by omega
   rcases hj8 with rfl|rfl|rfl|rfl|rfl|rfl|rfl|rfl
   {
   have HQ:=qA (PB.own (n:=(8*k+0)) HP.out (by rw[List.length_take,HLL.out,aA];omega));go_wp2_with (first|(at_builtin;refine aB rfl (.tmp 23) (.tmp 28) 22 rfl 5 (.int .u8 0) 1 Tryz.underlying22 Tryz.info5 rfl (.slice sa (8*k+0) sc) (8*k+0) (cA (L.take (8*k+0))) rfl (HQ.out _) wr.heap.size (.int .u8 (D/72057594037927936%256)) rfl (aC _ _ _ _ rfl) rfl (by omega) (by decide) ?_;intro g' cap' w4 hown4 hgrow4 hg4)|fail)
   have HN:Hid (PB w w4 (.slice (some ⟨g', 0,none⟩) (8*k+(0+1)) cap') (L.take (8*k+(0+1)))):=qA (by
     have hat:L[(8*k+0)]? =some (D.toNat/72057594037927936%256):=by rw[HLL.out,HK.out];show some (bJ D/72057594037927936%256)=_;rw[aQ H0.out.2.2.2]
     rw[show D/72057594037927936%256=((D.toNat/72057594037927936%256:Nat):Int) by have:=H0.out;omega]at hown4;have h1:=PB.push (n:=(8*k+0)) HP.out (by rw[List.length_take,HLL.out,aA];omega) hown4 hgrow4 hg4;have h2:L.take (8*k+(0+1))=L.take (8*k+0)++[D.toNat/72057594037927936%256]:=(List.take_add_one (l:=L) (i:=(8*k+0))).trans (by rw[hat];rfl);rw[h2];exact h1)
   clear HQ hown4 hgrow4 hg4 HP;go_roundw
   case rel=>exact⟨0+1,by omega,⟨_,_,rfl,HN⟩,by go_num⟩
   case measure=>simp[intOf]}
   {
   have HQ:=qA (PB.own (n:=(8*k+1)) HP.out (by rw[List.length_take,HLL.out,aA];omega));go_wp2_with (first|(at_builtin;refine aB rfl (.tmp 23) (.tmp 28) 22 rfl 5 (.int .u8 0) 1 Tryz.underlying22 Tryz.info5 rfl (.slice sa (8*k+1) sc) (8*k+1) (cA (L.take (8*k+1))) rfl (HQ.out _) wr.heap.size (.int .u8 (D/281474976710656%256)) rfl (aC _ _ _ _ rfl) rfl (by omega) (by decide) ?_;intro g' cap' w4 hown4 hgrow4 hg4)|fail)
   have HN:Hid (PB w w4 (.slice (some ⟨g', 0,none⟩) (8*k+(1+1)) cap') (L.take (8*k+(1+1)))):=qA (by
     have hat:L[(8*k+1)]? =some (D.toNat/281474976710656%256):=by rw[HLL.out,HK.out];show some (bJ D/281474976710656%256)=_;rw[aQ H0.out.2.2.2]
     rw[show D/281474976710656%256=((D.toNat/281474976710656%256:Nat):Int) by have:=H0.out;omega]at hown4;have h1:=PB.push (n:=(8*k+1)) HP.out (by rw[List.length_take,HLL.out,aA];omega) hown4 hgrow4 hg4;have h2:L.take (8*k+(1+1))=L.take (8*k+1)++[D.toNat/281474976710656%256]:=(List.take_add_one (l:=L) (i:=(8*k+1))).trans (by rw[hat];rfl);rw[h2];exact h1)
   clear HQ hown4 hgrow4 hg4 HP;go_roundw
   case rel=>exact⟨1+1,by omega,⟨_,_,rfl,HN⟩,by go_num⟩
   case measure=>simp[intOf]}
   {
   have HQ:=qA (PB.own (n:=(8*k+2)) HP.out (by rw[List.length_take,HLL.out,aA];omega));go_wp2_with (first|(at_builtin;refine aB rfl (.tmp 23) (.tmp 28) 22 rfl 5 (.int .u8 0) 1 Tryz.underlying22 Tryz.info5 rfl (.slice sa (8*k+2) sc) (8*k+2) (cA (L.take (8*k+2))) rfl (HQ.out _) wr.heap.size (.int .u8 (D/1099511627776%256)) rfl (aC _ _ _ _ rfl) rfl (by omega) (by decide) ?_;intro g' cap' w4 hown4 hgrow4 hg4)|fail)
   have HN:Hid (PB w w4 (.slice (some ⟨g', 0,none⟩) (8*k+(2+1)) cap') (L.take (8*k+(2+1)))):=qA (by
     have hat:L[(8*k+2)]? =some (D.toNat/1099511627776%256):=by rw[HLL.out,HK.out];show some (bJ D/1099511627776%256)=_;rw[aQ H0.out.2.2.2]
     rw[show D/1099511627776%256=((D.toNat/1099511627776%256:Nat):Int) by have:=H0.out;omega]at hown4;have h1:=PB.push (n:=(8*k+2)) HP.out (by rw[List.length_take,HLL.out,aA];omega) hown4 hgrow4 hg4;have h2:L.take (8*k+(2+1))=L.take (8*k+2)++[D.toNat/1099511627776%256]:=(List.take_add_one (l:=L) (i:=(8*k+2))).trans (by rw[hat];rfl);rw[h2];exact h1)
   clear HQ hown4 hgrow4 hg4 HP;go_roundw
   case rel=>exact⟨2+1,by omega,⟨_,_,rfl,HN⟩,by go_num⟩
   case measure=>simp[intOf]}
   {
   have HQ:=qA (PB.own (n:=(8*k+3)) HP.out (by rw[List.length_take,HLL.out,aA];omega));go_wp2_with (first|(at_builtin;refine aB rfl (.tmp 23) (.tmp 28) 22 rfl 5 (.int .u8 0) 1 Tryz.underlying22 Tryz.info5 rfl (.slice sa (8*k+3) sc) (8*k+3) (cA (L.take (8*k+3))) rfl (HQ.out _) wr.heap.size (.int .u8 (D/4294967296%256)) rfl (aC _ _ _ _ rfl) rfl (by omega) (by decide) ?_;intro g' cap' w4 hown4 hgrow4 hg4)|fail)
   have HN:Hid (PB w w4 (.slice (some ⟨g', 0,none⟩) (8*k+(3+1)) cap') (L.take (8*k+(3+1)))):=qA (by
     have hat:L[(8*k+3)]? =some (D.toNat/4294967296%256):=by rw[HLL.out,HK.out];show some (bJ D/4294967296%256)=_;rw[aQ H0.out.2.2.2]
     rw[show D/4294967296%256=((D.toNat/4294967296%256:Nat):Int) by have:=H0.out;omega]at hown4;have h1:=PB.push (n:=(8*k+3)) HP.out (by rw[List.length_take,HLL.out,aA];omega) hown4 hgrow4 hg4;have h2:L.take (8*k+(3+1))=L.take (8*k+3)++[D.toNat/4294967296%256]:=(List.take_add_one (l:=L) (i:=(8*k+3))).trans (by rw[hat];rfl);rw[h2];exact h1)
   clear HQ hown4 hgrow4 hg4 HP;go_roundw
   case rel=>exact⟨3+1,by omega,⟨_,_,rfl,HN⟩,by go_num⟩
   case measure=>simp[intOf]}
   {
   have HQ:=qA (PB.own (n:=(8*k+4)) HP.out (by rw[List.length_take,HLL.out,aA];omega));go_wp2_with (first|(at_builtin;refine aB rfl (.tmp 23) (.tmp 28) 22 rfl 5 (.int .u8 0) 1 Tryz.underlying22 Tryz.info5 rfl (.slice sa (8*k+4) sc) (8*k+4) (cA (L.take (8*k+4))) rfl (HQ.out _) wr.heap.size (.int .u8 (D/16777216%256)) rfl (aC _ _ _ _ rfl) rfl (by omega) (by decide) ?_;intro g' cap' w4 hown4 hgrow4 hg4)|fail)
   have HN:Hid (PB w w4 (.slice (some ⟨g', 0,none⟩) (8*k+(4+1)) cap') (L.take (8*k+(4+1)))):=qA (by
     have hat:L[(8*k+4)]? =some (D.toNat/16777216%256):=by rw[HLL.out,HK.out];show some (bJ D/16777216%256)=_;rw[aQ H0.out.2.2.2]
     rw[show D/16777216%256=((D.toNat/16777216%256:Nat):Int) by have:=H0.out;omega]at hown4;have h1:=PB.push (n:=(8*k+4)) HP.out (by rw[List.length_take,HLL.out,aA];omega) hown4 hgrow4 hg4;have h2:L.take (8*k+(4+1))=L.take (8*k+4)++[D.toNat/16777216%256]:=(List.take_add_one (l:=L) (i:=(8*k+4))).trans (by rw[hat];rfl);rw[h2];exact h1)
   clear HQ hown4 hgrow4 hg4 HP;go_roundw
   case rel=>exact⟨4+1,by omega,⟨_,_,rfl,HN⟩,by go_num⟩
   case measure=>simp[intOf]}
   {
   have HQ:=qA (PB.own (n:=(8*k+5)) HP.out (by rw[List.length_take,HLL.out,aA];omega));go_wp2_with (first|(at_builtin;refine aB rfl (.tmp 23) (.tmp 28) 22 rfl 5 (.int .u8 0) 1 Tryz.underlying22 Tryz.info5 rfl (.slice sa (8*k+5) sc) (8*k+5) (cA (L.take (8*k+5))) rfl (HQ.out _) wr.heap.size (.int .u8 (D/65536%256)) rfl (aC _ _ _ _ rfl) rfl (by omega) (by decide) ?_;intro g' cap' w4 hown4 hgrow4 hg4)|fail)
   have HN:Hid (PB w w4 (.slice (some ⟨g', 0,none⟩) (8*k+(5+1)) cap') (L.take (8*k+(5+1)))):=qA (by
     have hat:L[(8*k+5)]? =some (D.toNat/65536%256):=by rw[HLL.out,HK.out];show some (bJ D/65536%256)=_;rw[aQ H0.out.2.2.2]
     rw[show D/65536%256=((D.toNat/65536%256:Nat):Int) by have:=H0.out;omega]at hown4;have h1:=PB.push (n:=(8*k+5)) HP.out (by rw[List.length_take,HLL.out,aA];omega) hown4 hgrow4 hg4;have h2:L.take (8*k+(5+1))=L.take (8*k+5)++[D.toNat/65536%256]:=(List.take_add_one (l:=L) (i:=(8*k+5))).trans (by rw[hat];rfl);rw[h2];exact h1)
   clear HQ hown4 hgrow4 hg4 HP;go_roundw
   case rel=>exact⟨5+1,by omega,⟨_,_,rfl,HN⟩,by go_num⟩
   case measure=>simp[intOf]}
   {
   have HQ:=qA (PB.own (n:=(8*k+6)) HP.out (by rw[List.length_take,HLL.out,aA];omega));go_wp2_with (first|(at_builtin;refine aB rfl (.tmp 23) (.tmp 28) 22 rfl 5 (.int .u8 0) 1 Tryz.underlying22 Tryz.info5 rfl (.slice sa (8*k+6) sc) (8*k+6) (cA (L.take (8*k+6))) rfl (HQ.out _) wr.heap.size (.int .u8 (D/256%256)) rfl (aC _ _ _ _ rfl) rfl (by omega) (by decide) ?_;intro g' cap' w4 hown4 hgrow4 hg4)|fail)
   have HN:Hid (PB w w4 (.slice (some ⟨g', 0,none⟩) (8*k+(6+1)) cap') (L.take (8*k+(6+1)))):=qA (by
     have hat:L[(8*k+6)]? =some (D.toNat/256%256):=by rw[HLL.out,HK.out];show some (bJ D/256%256)=_;rw[aQ H0.out.2.2.2]
     rw[show D/256%256=((D.toNat/256%256:Nat):Int) by have:=H0.out;omega]at hown4;have h1:=PB.push (n:=(8*k+6)) HP.out (by rw[List.length_take,HLL.out,aA];omega) hown4 hgrow4 hg4;have h2:L.take (8*k+(6+1))=L.take (8*k+6)++[D.toNat/256%256]:=(List.take_add_one (l:=L) (i:=(8*k+6))).trans (by rw[hat];rfl);rw[h2];exact h1)
   clear HQ hown4 hgrow4 hg4 HP;go_roundw
   case rel=>exact⟨6+1,by omega,⟨_,_,rfl,HN⟩,by go_num⟩
   case measure=>simp[intOf]}
   {
   have HQ:=qA (PB.own (n:=(8*k+7)) HP.out (by rw[List.length_take,HLL.out,aA];omega));go_wp2_with (first|(at_builtin;refine aB rfl (.tmp 23) (.tmp 28) 22 rfl 5 (.int .u8 0) 1 Tryz.underlying22 Tryz.info5 rfl (.slice sa (8*k+7) sc) (8*k+7) (cA (L.take (8*k+7))) rfl (HQ.out _) wr.heap.size (.int .u8 (D%256)) rfl (aC _ _ _ _ rfl) rfl (by omega) (by decide) ?_;intro g' cap' w4 hown4 hgrow4 hg4)|fail)
   have HN:Hid (PB w w4 (.slice (some ⟨g', 0,none⟩) (8*k+(7+1)) cap') (L.take (8*k+(7+1)))):=qA (by
     have hat:L[(8*k+7)]? =some (D.toNat/1%256):=by rw[HLL.out,HK.out];show some (bJ D/1%256)=_;rw[aQ H0.out.2.2.2]
     rw[show D%256=((D.toNat/1%256:Nat):Int) by have:=H0.out;omega]at hown4;have h1:=PB.push (n:=(8*k+7)) HP.out (by rw[List.length_take,HLL.out,aA];omega) hown4 hgrow4 hg4;have h2:L.take (8*k+(7+1))=L.take (8*k+7)++[D.toNat/1%256]:=(List.take_add_one (l:=L) (i:=(8*k+7))).trans (by rw[hat];rfl);rw[h2];exact h1)
   clear HQ hown4 hgrow4 hg4 HP;go_roundw
   case rel=>exact⟨7+1,by omega,⟨_,_,rfl,HN⟩,by go_num⟩
   case measure=>simp[intOf]}}
   {
   obtain rfl:j=8:=by omega
   have HN:=qA (show PB w wr (.slice sa (8*(k+1)) sc) (L.take (8*(k+1))) from HP.out);clear HP;go_wp2_with fail
   go_roundw
   case rel=>exact⟨k+1,by omega,⟨_,_,rfl,HN⟩,by go_num⟩
   case measure=>simp[intOf];omega}}}
  {
  obtain rfl:k=4:=by omega
  have hPB:PB w wr (.slice sa 32 sc) (L.take 32):=HP.out;rw[show L.take 32=kU m E V D by rw[HLL.out];exact List.take_of_length_le (by rw[aA];exact qK _)]at hPB;have HFin:=qA hPB;clear HP hPB;go_wp2
  go_ret2;exact⟨_,rfl,HFin.out.1,HFin.out.2.1,HFin.out.2.2⟩}
end Go.Proofs.YtjdgpcjbgjnahaaGreatDoor
