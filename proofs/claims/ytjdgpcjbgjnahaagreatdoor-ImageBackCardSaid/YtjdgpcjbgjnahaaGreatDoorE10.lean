/- A window in memory. -/
import Derived.Test.YtjdgpcjbgjnahaaGreatDoorE5
import Derived.Test.YtjdgpcjbgjnahaaGreatDoorE4
import Derived.Shelf.SlGeneric
import Derived.Shelf.SlicesE.Clone
import Derived.Ground.SlgnProg
import Derived.Deep.WholeRow
import Derived.Deep.RegionHeld3
import Derived.StillTailTactics
import Derived.Test.YtjdgpcjbgjnahaaGreatDoorE8
import Derived.Test.YtjdgpcjbgjnahaaGreatDoorE9
set_option maxRecDepth 10000
set_option maxHeartbeats 1600000
set_option linter.unusedSimpArgs false
set_option linter.unusedVariables false
/- store: Insert, when it takes the edge. -/
namespace Go.Proofs.YtjdgpcjbgjnahaaGreatDoor
open Go.RowKit
theorem aHH{M:Md}(hok:M.Ok){id:Nat}(hid:id<18446744073709551616)(hf:aEG M id){iv:Int->Option Value}{f:List Nat}(h1:(iv id).isSome=true↔f≠[])(h2:(M.find id).isSome=true↔f≠[]):
    (if (iv id).isSome=true then M.L.length else M.L.length+1)=(M.put id).M.L.length:=by
 rw[(lC hok hid hf).2.2.1];by_cases e:f=[]
 · rw[qC (fun h=>h1.1 h e),qC (fun h=>h2.1 h e)]
 · rw[qD (h1.2 e),qD (h2.2 e)];rfl
theorem xS(p:List Nat)(i:Nat):fO (p++[i])=fO p++[.int .i64 i]:=by simp[fO]
theorem aNS{w w7 wo:World}{ps pa pt mb n n' sl q1 u v:Nat}{wt t x:Int}{vl vb:Value}{s:Sm}{la la' lT lb:List Nat}{c c7:Nat->Nat}(HB:StB w ps pa pt mb n vl s la lT lb c)(hck:s.chk u v=0)(hu:u<18446744073709551616)(hv:v<18446744073709551616)
    (hll:s.last+1<18446744073709551616) (hsl:sl=s.slot) (hq1:q1=s.last+1)
    (HS2:nH w7 ps pt mb vb la' lT lb (wH s.M u v 2) (nI (bU s.L) u v sl 2) (wH s.M u v 2).L.length wo)
    (HD7:Blk w7 ps 145 [.int .i64 s.V,.int .i64 s.E,.int .u64 q1,ptr pa,ptr pt,vb,.map (some mb)])
    (hA7:aR w7 pa s.A.alloc la') (hr7:dF w7 vb ((List.range n').map (aF (s.L++[⟨sl,q1,u,v,wt,t,x⟩])))) (hF7:Fr (ps::(la++vl.ownBlock.toList)) w w7) (HCL:Cls c7 ps mb vb la' lT lb)
    (hA1:∀q∈la', q∈la∨w.heap.size+2<=q) (hV1:∀q,vb.ownBlock=some q->vl.ownBlock=some q∨w.heap.size+2<=q) (hs7:w.heap.size+2<=w7.heap.size) (hnn:n<=n') (hgt:sl<n') (hn' :n' <= s.E):
    ∃K', bA (Go.Proofs.YtjdgpcjbgjnahaaGreatDoor.put7 wo (w.heap.size+1) 0 ⟨sl,q1,u,v,wt,t,x⟩) ps (s.ins u v wt t x) K' /\ Fr (stK ps mb vl la lT lb) w (Go.Proofs.YtjdgpcjbgjnahaaGreatDoor.put7 wo (w.heap.size+1) 0 ⟨sl,q1,u,v,wt,t,x⟩)/\∀q∈K', q∈stK ps mb vl la lT lb∨w.heap.size<=q:=by
 subst hsl hq1;have HLT:=HB.lt;have hput:Fr [w.heap.size+1] wo (Go.Proofs.YtjdgpcjbgjnahaaGreatDoor.put7 wo (w.heap.size+1) 0 ⟨s.slot,s.last+1,u,v,wt,t,x⟩):=(Fr.refl _ _).put7 _ _ _ (.inl (by simp));have hE:(⟨s.slot,s.last+1,u,v,wt,t,x⟩:Lv)=s.edge u v wt t x:=rfl;have hUV:=(Sm.chk_ok HB.ok hck).1;have hFr:=HS2.fr;obtain⟨lT', lb', c', hc', hT', hI', hF', h5', h6'⟩:=HS2;have hs1:=hFr.size;have hpsw' :ps<w.heap.size:=HLT ps (by simp[stK]);have hmbw:mb<w.heap.size:=HLT mb (by simp[stK]);have hTw:∀q∈lT,q<w.heap.size:=fun q hq=>HLT q (by simp[stK,hq]);have hBw:∀q∈lb,q<w.heap.size:=fun q hq=>HLT q (by simp[stK,hq]);have hAn:∀q∈la', q∉mb::(lT++lb):=fun q hq hm=>by
   have a1:=HCL.a q hq;simp only[qB,qE]at hm;rcases hm with rfl|e|e
   · have:=HCL.m;omega
   · have:=HCL.t q e;omega
   · have:=HCL.b q e;omega
 have hVn:∀q,vb.ownBlock=some q->q∉mb::(lT++lb):=fun q hq hm=>by
   have a1:=HCL.l q hq;simp only[qB,qE]at hm;rcases hm with rfl|e|e
   · have:=HCL.m;omega
   · have:=HCL.t q e;omega
   · have:=HCL.b q e;omega
 have hnx:∀q:Nat,(q<w.heap.size∨w.heap.size+2<=q)->q∉[w.heap.size+1]:=fun q hq hm=>by
   rw[qH]at hm;omega
 have hLa:∀q∈la,q<w.heap.size:=fun q hq=>HLT q (by simp[stK,hq]);have hLv:∀q,vl.ownBlock=some q->q<w.heap.size:=fun q hq=>HLT q (by simp[stK,hq]);have hPN:ps∉mb::(lT++lb):=fun hm=>by
   have a1:=HCL.p;simp only[qB,qE]at hm;rcases hm with e|e|e
   · have:=HCL.m;rw[<-e]at this;omega
   · have:=HCL.t ps e;omega
   · have:=HCL.b ps e;omega
 have hok:=Sm.ok_ins HB.ok hu hv hck hll wt t x;have hins:nI (bU s.L) u v s.slot 2=bU (s.L++[s.edge u v wt t x]):=by exact aLS (e:=s.edge u v wt t x) hUV
 refine⟨_,⟨pa,pt,mb,n', _,la', lT', lb', c', ⟨?_,?_,?_,?_,?_,?_,hn', hok,hc'⟩,rfl⟩,?_,?_⟩
 · exact hput.blk (hFr.blk HD7 hPN) (hnx ps (.inl hpsw'))
 · exact(hA7.fr hFr hAn).fr hput (fun q hq=>hnx q ((hA1 q hq).imp (hLa q) (fun e=>e)))
 · exact hT'.fr hput (fun q hq=>hnx q ((h5' q hq).imp (hTw q) (fun e=>by omega)))
 {
 have:=(hr7.fr hFr hVn).fr hput (fun q hq=>hnx q ((hV1 q hq).imp (hLv q) (fun e=>e)));exact this}
 {
 rw[hins]at hI';exact hI'.fr hput (hnx mb (.inl hmbw)) (fun q hq=>hnx q ((h6' q hq).imp (hBw q) (fun e=>by omega)))}
 {
 intro e he;rcases qE.1 he with he|he
 · have:=HB.sn e he;omega
 {
 rw[qH]at he;rw[he,<-hE];exact hgt}}
 {
 refine((hF7.mono (S' :=stK ps mb vl la lT lb) (fun q hq=>.inl ?_)).trans hFr (fun q hq=>.inl ?_)).put7 _ _ _ (.inr (by omega))
 {
 simp only[qB,qE,Option.mem_toList]at hq;rcases hq with e|e|e<;>simp[stK,e]}
 {
 simp only[qB,qE]at hq;rcases hq with e|e|e<;>simp[stK,e]}}
 {
 intro q hq;simp only[stK,qB,qE,Option.mem_toList]at hq;rcases hq with e|e|((e|e)|e)|e
 · exact .inl (by simp[stK,e])
 · exact .inl (by simp[stK,e])
 · exact(hA1 q e).imp (fun e=>by simp[stK,e]) (fun e=>by omega)
 · exact(h5' q e).imp (fun e=>by simp[stK,e]) (fun e=>by omega)
 · exact(hV1 q e).imp (fun e=>by simp[stK,e]) (fun e=>by omega)
 · exact(h6' q e).imp (fun e=>by simp[stK,e]) (fun e=>by omega)}
section
variable {w w' :World} {ps:Nat} {s:Sm} {K:List Nat}
theorem aFD(h:bA w ps s K)(u v:Nat)(hu:u<18446744073709551616)(hv:v<18446744073709551616)(wt t x:Int)(hc:s.chk u v=0)(hl:s.last+1<18446744073709551616):
    Calls Tryz.prog 135 #[fF ps,rJ u v wt t,.int .i64 x] w fun e w' =>e=.returned (.tuple #[lvA (s.edge u v wt t x),.int .i64 0])/\∃K', bA w' ps (s.ins u v wt t x) K' /\ Fr K w w' /\ ∀q∈K', q∈K∨w.heap.size<=q:=by
 obtain⟨pa,pt,mb,n,vl,la,lT,lb,c,hB,rfl⟩:=id h;have H:=qA h;have HCK:=qA hc;have HLL:=qA hl;have hn:=Sm.slot_next hB.ok hc;obtain⟨hnu,hiff⟩:=Md.isUsed_alloc' hB.ok.ar hn;obtain⟨sl,hsl⟩:∃sl,sl=s.slot:=⟨_,rfl⟩;rw[<-hsl]at hn hnu hiff;have hslE:sl<s.E:=by rw[<-hB.ok.sl];exact tY hB.ok.ar hn
 have hE:=hB.ok.leE;have hltw:=hB.lt;have hlast:IntKind.u64.wrap ((s.last:Int)+1)=((s.last+1:Nat):Int):=by simp[IntKind.wrap,IntKind.bits,IntKind.signed];omega
 have HB:=qA hB;have HSL:=qA hsl;have HLT:=qA hltw;have HNU:=qA (zI hn (zI hnu hiff));clear h hc hB hn hnu hiff hsl hltw hl;go_enter Tryz.func135,Tryz.ntmps135
 go_wp2_with fail
 have hf0:Fr [] w ((w.alloc (.cells #[.int .u64 u,.int .u64 v,.int .i64 wt,.int .i64 t] 72)).alloc (.cells #[.int .i64 0,.int .u64 0,.int .u64 0,.int .u64 0,.int .i64 0,.int .i64 0,.int .i64 0] 74)):=((Fr.refl [] w).alloc _).alloc _;have hbx:Blk ((w.alloc (.cells #[.int .u64 u,.int .u64 v,.int .i64 wt,.int .i64 t] 72)).alloc (.cells #[.int .i64 0,.int .u64 0,.int .u64 0,.int .u64 0,.int .i64 0,.int .i64 0,.int .i64 0] 74)) (w.heap.size+1) 74 [.int .i64 0,.int .u64 0,.int .u64 0,.int .u64 0,.int .i64 0,.int .i64 0,.int .i64 0]:=by {
 have:=Blk.new (w.alloc (.cells #[.int .u64 u,.int .u64 v,.int .i64 wt,.int .i64 t] 72)) [.int .i64 0,.int .u64 0,.int .u64 0,.int .u64 0,.int .i64 0,.int .i64 0,.int .i64 0] 74;simpa using this};have hbr:Blk ((w.alloc (.cells #[.int .u64 u,.int .u64 v,.int .i64 wt,.int .i64 t] 72)).alloc (.cells #[.int .i64 0,.int .u64 0,.int .u64 0,.int .u64 0,.int .i64 0,.int .i64 0,.int .i64 0] 74)) w.heap.size 72 [.int .u64 u,.int .u64 v,.int .i64 wt,.int .i64 t]:=(Blk.new w _ _).alloc _;have hs1:((w.alloc (.cells #[.int .u64 u,.int .u64 v,.int .i64 wt,.int .i64 t] 72)).alloc (.cells #[.int .i64 0,.int .u64 0,.int .u64 0,.int .u64 0,.int .i64 0,.int .i64 0,.int .i64 0] 74)).heap.size=w.heap.size+2:=by simp
 have HC:=oY (H.out.fr0 hf0) u v hu hv wt t;rw[HCK.out]at HC;have HC:=qA HC;generalize (w.alloc (.cells #[.int .u64 u,.int .u64 v,.int .i64 wt,.int .i64 t] 72)).alloc (.cells #[.int .i64 0,.int .u64 0,.int .u64 0,.int .u64 0,.int .i64 0,.int .i64 0,.int .i64 0] 74)=w1 at *;refine HC.out.mono ?_;rintro _ w2 ⟨rfl,h2⟩;have hF2:=hf0.trans' h2;have c3:=(hF2.blk HB.out.hd (by simp)).cell 3;simp only[zJ,zK]at c3;have HX:=qA (zI hF2 (zI (h2.blk hbx (by simp)) (zI (h2.blk hbr (by simp)) (show w.heap.size+2<=w2.heap.size by have:=h2.size;omega))));have HA:=qA (jE (HB.out.fr hF2 (by simp)).ar HNU.out.1);clear hf0 h2 hbx hbr hs1 HC hF2;go_wp2_with fail
 refine HA.out.mono ?_;rintro _ w3 ⟨rfl,la', hA3,hF3,hn3⟩;clear HA c3;have hla:∀b∈la,b<w.heap.size:=fun b hb=>HLT.out b (by simp[stK,hb]);have hpl:ps∉la:=fun hm=>by have e1:=HB.out.cls.a ps hm;have e2:=HB.out.cls.p;omega
 have hd3:=hF3.blk (HX.out.1.blk HB.out.hd (by simp)) hpl;have hx3:=hF3.blk HX.out.2.1 (fun hm=>by have:=hla _ hm;omega);have hr3:=hF3.blk HX.out.2.2.1 (fun hm=>by have:=hla _ hm;omega);have hs3:w.heap.size+2<=w3.heap.size:=by have h1:=HX.out.2.2.2;have h2:=hF3.size;omega
 have c2:=hd3.cell 2;have z2:=hd3.frozen 2;simp only[zJ,zK]at c2;have HX3:=qA (zI hd3 (zI hx3 (zI hr3 (zI hA3 (zI hF3 hn3)))));clear hd3 hx3 hr3 hA3 hF3 hn3 hla hpl;have hpsw:ps<w.heap.size:=HLT.out ps (by simp[stK]);have HR3:=qA HX3.out.2.2.1;have p0:=HR3.out.cell 0;have p1:=HR3.out.cell 1;have p2:=HR3.out.cell 2;have p3:=HR3.out.cell 3;simp only[zJ,zK]at p0 p1 p2 p3;have hne:ps≠w.heap.size:=by omega
 go_wp2_with fail
 obtain⟨q1,hq1⟩:∃q1:Nat,q1=s.last+1:=⟨_,rfl⟩;rw[show(s.last:Int)+1=(q1:Nat) by omega];have HQ1:=qA hq1;clear hq1 hlast;have hF4:Fr (ps::la) w2 (w3.setCell ⟨ps,2,none⟩ (.int .u64 q1)):=(HX3.out.2.2.2.2.1.mono (by simp +contextual)).setCell _ _ (.inl (by simp));have hd4:=HX3.out.1.set 2 (.int .u64 q1);have hx4:=HX3.out.2.1.other ⟨ps,2,none⟩ (.int .u64 q1) (by show w.heap.size+1≠ps;omega);have hr4:=HX3.out.2.2.1.other ⟨ps,2,none⟩ (.int .u64 q1) (by show w.heap.size≠ps;omega);have hA4:=aR.same HX3.out.2.2.2.1 (w' :=w3.setCell ⟨ps,2,none⟩ (.int .u64 q1)) (fun b hb=>Below.heap_setCell _ _ _ _ (fun e=>by
   rcases HX3.out.2.2.2.2.2 b hb with e1|e1
   · have e2:=HB.out.cls.a b e1;have e3:=HB.out.cls.p;rw[e]at e2;simp at e2;omega
   · have:=HX.out.2.2.2;simp at e;omega))
 have hs4:(w3.setCell ⟨ps,2,none⟩ (.int .u64 q1)).heap.size=w3.heap.size:=by simp
 simp only[qY,qU]at hd4;have hn4:=HX3.out.2.2.2.2.2;rw[<-hs4]at hs3;clear HX3 c2 z2 p0 p1 p2 p3 HR3 hs4;generalize w3.setCell ⟨ps,2,none⟩ (.int .u64 q1)=w4 at *;have c2:=hd4.cell 2;have p0:=hr4.cell 0;have p1:=hr4.cell 1;have p2:=hr4.cell 2;have p3:=hr4.cell 3;simp only[zJ,zK]at c2 p0 p1 p2 p3;have HC4:=qA (fun(w' :World) (hf:Fr [] w4 w')=>zI (hf.cell c2 (by simp)) (zI (hf.cell p0 (by simp)) (zI (hf.cell p1 (by simp)) (zI (hf.cell p2 (by simp)) (hf.cell p3 (by simp))))));have HX4:=qA (zI hd4 (zI hx4 (zI hr4 (zI hA4 (zI hF4 hn4)))));clear hd4 hx4 hr4 hA4 hF4 hn4
 go_region_held3 (fun w' => w'.cell? ⟨ps, 2, none⟩ = some (.int .u64 q1) /\ w'.cell? ⟨w.heap.size, 0, none⟩ = some (.int .u64 u) /\ w'.cell? ⟨w.heap.size, 1, none⟩ = some (.int .u64 v) /\ w'.cell? ⟨w.heap.size, 2, none⟩ = some (.int .i64 wt) /\ w'.cell? ⟨w.heap.size, 3, none⟩ = some (.int .i64 t))
   (first
     | go_keep
     | (exact HC4.out _ ((Fr.refl [] w4).alloc _))
     | (exact HC4.out _ (((Fr.refl [] w4).alloc _).drew)))
   (fail)
 have hg5:Fr [] w4 (w4.alloc (.cells #[.int .i64 sl,.int .u64 q1,.int .u64 u,.int .u64 v,.int .i64 wt,.int .i64 t,.int .i64 x] 74)).drew:=((Fr.refl [] w4).alloc _).drew;have he5:Blk (w4.alloc (.cells #[.int .i64 sl,.int .u64 q1,.int .u64 u,.int .u64 v,.int .i64 wt,.int .i64 t,.int .i64 x] 74)).drew w4.heap.size 74 (lvC ⟨sl,q1,u,v,wt,t,x⟩):=(Blk.new w4 _ _).drew;generalize (w4.alloc (.cells #[.int .i64 sl,.int .u64 q1,.int .u64 u,.int .u64 v,.int .i64 wt,.int .i64 t,.int .i64 x] 74)).drew=w5 at *;have hs5:=hg5.size;have hlv:=HB.out.lv.fr ((HX.out.1.mono (S' :=ps::la) (by simp)).trans' (HX4.out.2.2.2.2.1.trans' (hg5.mono (by simp)))) (fun q hq hm=>by
   have e1:=HB.out.cls.l q hq;rcases qB.1 hm with rfl|hm
   · have:=HB.out.cls.p;omega
   · have:=HB.out.cls.a q hm;omega)
 have hd5:=hg5.blk HX4.out.1 (by simp);have hL0:Fr (ps::vl.ownBlock.toList) w5 w5:=Fr.refl _ _;have HW5:=qA (zI (hg5.blk HX4.out.2.1 (by simp)) (zI (hg5.blk HX4.out.2.2.1 (by simp)) (zI (HX4.out.2.2.2.1.fr hg5 (by simp)) (zI (HX4.out.2.2.2.2.1.trans' (hg5.mono (by simp))) (zI he5 hs5)))));have hvl5:∀q,vl.ownBlock=some q->q<w5.heap.size:=fun q hq=>by have:=HLT.out q (by simp[stK,hq]);omega
 have HV5:=qA hvl5;have HS0:=qA (zI hd5 (zI hlv (zI hL0 (show ∀q,vl.ownBlock=some q->vl.ownBlock=some q∨w5.heap.size<=q from fun q hq=>.inl hq))));clear hg5 he5 hlv hd5 hL0 hvl5 c2 p0 p1 p2 p3 HC4;have hnE:=HB.out.nE;go_wp2_with fail
 go_loopw [] (fun wr=>∃(n' :Nat) (v' :Value),n' <= s.E/\Hid (Blk wr ps 145 [.int .i64 s.V,.int .i64 s.E,.int .u64 q1,ptr pa,ptr pt,v', .map (some mb)]/\dF wr v' ((List.range n').map (aF s.L))/\Fr (ps::vl.ownBlock.toList) w5 wr/\∀q,v'.ownBlock=some q->vl.ownBlock=some q∨w5.heap.size<=q)/\n<=n') (fun wr=>sl+1-zL wr ps)
 case atStart=>exact⟨n,vl,hnE,HS0,qK _⟩
 case round=>
  obtain⟨n', v', hn', HS,hnn⟩:=hrel;obtain⟨av,cv,rfl⟩:∃a cap,v' =.slice a n' cap:=by simpa using HS.out.2.1.slice
  have c5:=HS.out.1.cell 5;simp only[zJ,zK]at c5;have hmeas:=uK c5;have hpsv:∀q,(Value.slice av n' cv).ownBlock=some q->ps≠q:=fun q hq e=>by
    subst e;rcases HS.out.2.2.2 ps hq with h1|h1
    · have e1:=HB.out.cls.l ps h1;have e2:=HB.out.cls.p;omega
    · have:=HW5.out.2.2.2.2.2;omega
  have HPV:=qA hpsv;have HM:=qA hmeas;clear hpsv hmeas;by_cases hle:n' <= sl
  {
  have hle' :(n' :Int)<=sl:=by omega
  have hrow:(wr.alloc (.cells (lvC Lv.z).toArray 74)).ownsRow 0 74 7 (.slice av n' cv) n' (rowV ((List.range n').map (aF s.L))):=by {
  have:=HS.out.2.1.fr0 ((Fr.refl [] wr).alloc (.cells (lvC Lv.z).toArray 74));unfold dF at this;simpa using this};have HRW:=qA hrow;have HZ:=qA (Blk.new wr (lvC Lv.z) 74);have HD:=qA (HS.out.1.alloc (.cells (lvC Lv.z).toArray 74));have H7:=qA (show ∀u∈lvC Lv.z,u.oneCell' =true by decide);have HRZ:=qA (aIW HB.out.sn hnn);have hs6:=HS.out.2.2.1.size;clear hrow;go_wp2_with (first|(at_builtin;refine lH rfl _ _ 59 rfl 74 yY 7 56 Tryz.underlying59 Tryz.info74 rfl (by decide) (.slice av n' cv) n' _ rfl HRW.out wr.heap.size 74 (lvC Lv.z) rfl HZ.out rfl H7.out (by omega) (by decide) ?_;intro g' cap' w6 hown6 hgrow6 hg6;have hF6:Fr (Value.slice av n' cv).ownBlock.toList (wr.alloc (.cells (lvC Lv.z).toArray 74)) w6:=(Fr.refl _ _).grown hgrow6 (fun q e=>.inl (by simp[e]));have hd6:=hF6.blk HD.out (fun hm=>HPV.out _ (by simpa using hm) rfl);have c56:=hd6.cell 5;have z56:=hd6.frozen 5;simp only[zJ,zK]at c56)|fail)
  go_roundw
  case rel=>
   have hgne:ps≠g' :=fun e=>by
     rcases hg6 with h6|h6
     · exact HPV.out _ h6 e
     · simp only [World.size_alloc] at h6
       have:=HW5.out.2.2.2.2.2;omega
   refine⟨n' + 1,.slice (some ⟨g', 0,none⟩) (n' + 1) cap', by omega,qA ⟨hd6.set 5 _,?_,?_,?_⟩,by omega⟩
   {
   rw[HRZ.out];unfold dF;rw[xE];have:=bL hown6 ⟨ps,5,none⟩ (.slice (some ⟨g', 0,none⟩) (n' + 1) cap') (fun e=>hgne (by simp[Value.ownBlock]at e;exact e.symm));simpa using this}
   {
   refine((HS.out.2.2.1.alloc _).trans hF6 (fun q hq=>?_)).setCell _ _ (.inl (by simp));have hq' :(Value.slice av n' cv).ownBlock=some q:=by simpa using hq
   rcases HS.out.2.2.2 q hq' with e|e
   · exact .inl (by simp[e])
   · exact .inr e}
   {
   intro q hq;simp only[Value.ownBlock,qI]at hq;subst hq;rcases hg6 with h6|h6
   · exact HS.out.2.2.2 _ h6
   · simp only[World.size_alloc]at h6;exact .inr (by omega)}
  case measure=>
   have c5n:=(hd6.set 5 (.slice (some ⟨g', 0,none⟩) (n' + 1) cap')).cell 5;simp only[qY,qU,zJ,zK]at c5n;rw[uK c5n,HM.out];omega}
  {
  have d1:decide ((n' :Int)<=sl)=false:=qF (by omega);have d2:decide (n' <= sl)=false:=qF (by omega);have hgt:sl<n' :=by omega
  clear hle;go_wp2_with fail
  obtain⟨b,cap,ev,_,hb,hz,hat⟩:=HS.out.2.1.at (i:=sl) (by simp;omega);simp only[List.length_map,List.length_range,qP,true_and]at ev;obtain⟨rfl,rfl⟩:=ev;have hlti:(sl:Int)<n' :=by omega
  have heb:=HW5.out.2.2.2.2.1;have heK:w4.heap.size∉ps::vl.ownBlock.toList:=fun hm=>by
    have h1:=HW5.out.2.2.2.2.2;rcases qB.1 hm with e|e
    · omega
    · have:=HLT.out w4.heap.size (by simp only[stK,qB,qE];exact .inr (.inr (.inl (.inr e))));omega
  have he6:=HS.out.2.2.1.blk heb heK;obtain⟨e0,e1,e2,e3,e4,e5,e6⟩:=he6.lvAt;obtain⟨t0,t1,t2,t3,t4,t5,t6⟩:=hat;have z0:=hz (sl*7);have z1:=hz (sl*7+1);have z2:=hz (sl*7+2);have z3:=hz (sl*7+3);have z4:=hz (sl*7+4);have z5:=hz (sl*7+5);have z6:=hz (sl*7+6);simp only[Nat.zero_add]at e0 e1 e2 e3 e4 e5 e6;clear hz heb he6;have HEK:=qA heK;clear heK;have hnb1:ps≠b:=HPV.out b rfl;have hnb2:w4.heap.size≠b:=fun e=>by
    rcases HS.out.2.2.2 b rfl with h1|h1
    · have:=HLT.out b (by simp[stK,h1]);omega
    · have:=HW5.out.2.2.2.2.1.lt;omega
  have HKP:=qA (fun(w' :World) (hf:Fr [b] wr w')=>zI (hf.cell c5 (by simpa using hnb1)) (zI (hf.cell e0 (by simpa using hnb2)) (zI (hf.cell e1 (by simpa using hnb2)) (zI (hf.cell e2 (by simpa using hnb2)) (zI (hf.cell e3 (by simpa using hnb2)) (zI (hf.cell e4 (by simpa using hnb2)) (zI (hf.cell e5 (by simpa using hnb2)) (hf.cell e6 (by simpa using hnb2)))))))));have HKF:=qA (show ∀(a0 a1 a2 a3 a4 a5 a6:Value) (o0 o1 o2 o3 o4 o5 o6:Nat),Fr [b] wr (((((((wr.setCell ⟨b,o0,none⟩ a0).setCell ⟨b,o1,none⟩ a1).setCell ⟨b,o2,none⟩ a2).setCell ⟨b,o3,none⟩ a3).setCell ⟨b,o4,none⟩ a4).setCell ⟨b,o5,none⟩ a5).setCell ⟨b,o6,none⟩ a6).drew from
    fun _ _ _ _ _ _ _ _ _ _ _ _ _ _=>((((((((Fr.refl [b] wr).setCell _ _ (.inl (by simp))).setCell _ _ (.inl (by simp))).setCell _ _ (.inl (by simp))).setCell _ _ (.inl (by simp))).setCell _ _ (.inl (by simp))).setCell _ _ (.inl (by simp))).setCell _ _ (.inl (by simp))).drew)
  go_region_held3 (fun w' => w'.cell? ⟨ps, 5, none⟩ = some (.slice (some ⟨b, 0, none⟩) n' cv) /\ w'.cell? ⟨w4.heap.size, 0, none⟩ = some (.int .i64 sl) /\ w'.cell? ⟨w4.heap.size, 1, none⟩ = some (.int .u64 q1) /\ w'.cell? ⟨w4.heap.size, 2, none⟩ = some (.int .u64 u) /\ w'.cell? ⟨w4.heap.size, 3, none⟩ = some (.int .u64 v) /\ w'.cell? ⟨w4.heap.size, 4, none⟩ = some (.int .i64 wt) /\ w'.cell? ⟨w4.heap.size, 5, none⟩ = some (.int .i64 t) /\ w'.cell? ⟨w4.heap.size, 6, none⟩ = some (.int .i64 x))
    (first
      | with_reducible exact HKP.out _ (HKF.out _ _ _ _ _ _ _ _ _ _ _ _ _ _)
      | go_keep)
    (fail)
  have hg7:=HKF.out (.int .i64 sl) (.int .u64 q1) (.int .u64 u) (.int .u64 v) (.int .i64 wt) (.int .i64 t) (.int .i64 x) (sl*7) (sl*7+1) (sl*7+2) (sl*7+3) (sl*7+4) (sl*7+5) (sl*7+6);have hrv:dF wr (.slice (some ⟨b,0,none⟩) ((List.range n').map (aF s.L)).length cv) ((List.range n').map (aF s.L)):=by simpa using HS.out.2.1
  have hnew:∀y∈s.L,y.slot≠sl:=fun y hy e=>HNU.out.2.1 ((HB.out.ok.used _).2 ⟨y,hy,e⟩);have hr7:=(hrv.set (i:=sl) (by simp;omega) ⟨sl,q1,u,v,wt,t,x⟩).fr0 ((Fr.refl [] _).drew);rw[aLT (e:=⟨sl,q1,u,v,wt,t,x⟩) hnew hgt]at hr7;have hr7:dF (((((((wr.setCell ⟨b,sl*7,none⟩ (.int .i64 sl)).setCell ⟨b,sl*7+1,none⟩ (.int .u64 q1)).setCell ⟨b,sl*7+2,none⟩ (.int .u64 u)).setCell ⟨b,sl*7+3,none⟩ (.int .u64 v)).setCell ⟨b,sl*7+4,none⟩ (.int .i64 wt)).setCell ⟨b,sl*7+5,none⟩ (.int .i64 t)).setCell ⟨b,sl*7+6,none⟩ (.int .i64 x)).drew (.slice (some ⟨b,0,none⟩) n' cv) ((List.range n').map (aF (s.L++[⟨sl,q1,u,v,wt,t,x⟩]))):=by {
  rw[List.length_map,List.length_range]at hr7;exact hr7};generalize (((((((wr.setCell ⟨b,sl*7,none⟩ (.int .i64 sl)).setCell ⟨b,sl*7+1,none⟩ (.int .u64 q1)).setCell ⟨b,sl*7+2,none⟩ (.int .u64 u)).setCell ⟨b,sl*7+3,none⟩ (.int .u64 v)).setCell ⟨b,sl*7+4,none⟩ (.int .i64 wt)).setCell ⟨b,sl*7+5,none⟩ (.int .i64 t)).setCell ⟨b,sl*7+6,none⟩ (.int .i64 x)).drew=w7 at *;clear hrv hnew c5 e0 e1 e2 e3 e4 e5 e6 t0 t1 t2 t3 t4 t5 t6 z0 z1 z2 z3 z4 z5 z6 HKP HKF d1 d2;have hF57:Fr (ps::vl.ownBlock.toList) w5 w7:=HS.out.2.2.1.trans hg7 (fun q hq=>by
    simp at hq;subst hq;rcases HS.out.2.2.2 q rfl with h1|h1
    · exact .inl (by simp[h1])
    · exact .inr h1)
  have hw45:=HW5.out.2.2.2.2.1.lt;have hdn:∀y,y<w.heap.size+2->w.heap.size<=y->y∉ps::vl.ownBlock.toList:=fun y h1 h2 hm=>by
    rcases qB.1 hm with e|e
    · omega
    · have:=HLT.out y (by simp only[stK,qB,qE];exact .inr (.inr (.inl (.inr e))));omega
  have hd7:=hg7.blk HS.out.1 (by simpa using hnb1);have hx7:=hF57.blk HW5.out.1 (hdn _ (by omega) (by omega));have hrc7:=hF57.blk HW5.out.2.1 (hdn _ (by omega) (by omega));have hed7:=hF57.blk HW5.out.2.2.2.2.1 HEK.out;have hla4:=HX4.out.2.2.2.1.lt;have hA7:=HW5.out.2.2.1.fr hF57 (fun q hq hm=>by
    rcases HX4.out.2.2.2.2.2 q hq with e|e
    · have e1 := HB.out.cls.a q e
      rcases qB.1 hm with e2|e2
      · have:=HB.out.cls.p;rw[<-e2]at this;omega
      · have:=HB.out.cls.l q (by simpa using e2);omega
    · have := HX.out.2.2.2
      rcases qB.1 hm with e2|e2
      · omega
      · have:=HLT.out q (by simp only[stK,qB,qE];exact .inr (.inr (.inl (.inr e2))));omega)
  have hF07:Fr (ps::(la++vl.ownBlock.toList)) w w7:=((HX.out.1.mono (S' :=ps::(la++vl.ownBlock.toList)) (by simp)).trans HW5.out.2.2.2.1 (fun q hq=>.inl (by simp at hq ⊢;rcases hq with e|e<;>simp[e]))).trans hF57 (fun q hq=>.inl (by simp at hq ⊢;rcases hq with e|e<;>simp[e]));have hs7:=hF07.size;have hs57:=hF57.size;have hpsm:∀q,q∈mb::(lT++lb)->q∉ps::(la++vl.ownBlock.toList):=fun q hq hm=>by
    have hp:=HB.out.cls.p;have hm1:=HB.out.cls.m;have e1:c q=1∨c q=3∨c q=5:=by
      simp only[qB,qE]at hq;rcases hq with rfl|e|e
      · exact .inl hm1
      · exact .inr (.inl (HB.out.cls.t q e))
      · exact .inr (.inr (HB.out.cls.b q e))
    simp only[qB,qE,Option.mem_toList]at hm;rcases hm with rfl|e|e
    · omega
    · have:=HB.out.cls.a q e;omega
    · have:=HB.out.cls.l q e;omega
  have hcls:Cls (fun y=>if y<w.heap.size then c y else if y<w4.heap.size then 2 else 4) ps mb (.slice (some ⟨b,0,none⟩) n' cv) la' lT lb:=by {
  refine⟨?_,?_,fun y hy=>?_,fun y hy=>?_,fun q hq=>?_,fun y hy=>?_⟩
  · rw[qD hpsw];exact HB.out.cls.p
  · rw[qD (HLT.out mb (by simp[stK]))];exact HB.out.cls.m
  {
  rcases HX4.out.2.2.2.2.2 y hy with e|e
  · rw[qD (HLT.out y (by simp[stK,e]))];exact HB.out.cls.a y e
  {
  have:=HX.out.2.2.2;rw[qC (by omega),qD (hla4 y hy)]}}
  · rw[qD (HLT.out y (by simp[stK,hy]))];exact HB.out.cls.t y hy
  {
  rcases HS.out.2.2.2 q hq with e|e
  · rw[qD (HLT.out q (by simp[stK,e]))];exact HB.out.cls.l q e
  · rw[qC (by omega),qC (by omega)]}
  · rw[qD (HLT.out y (by simp[stK,hy]))];exact HB.out.cls.b y hy};have hIns:nH w7 ps pt mb (.slice (some ⟨b,0,none⟩) n' cv) la' lT lb s.M (bU s.L) s.M.L.length w7:=
    ⟨lT,lb,_,hcls,HB.out.tb.fr hF07 (fun q hq=>hpsm q (by simp[hq])),HB.out.inc.fr hF07 (hpsm mb (by simp)) (fun q hq=>hpsm q (by simp[hq])),Fr.refl _ _,fun q hq=>.inl hq,fun q hq=>.inl hq⟩
  have hpn:ps∉mb::(lT++lb):=fun hm=>hpsm ps hm (by simp);have hbn:∀y,w.heap.size<=y->y∉mb::(lT++lb):=fun y h1 hm=>by
    have:y∈stK ps mb vl la lT lb:=by
      simp only[qB,qE]at hm;simp only[stK,qB,qE];rcases hm with e|e|e
      · simp[e]
      · simp[e]
      · simp[e]
    have:=HLT.out y this;omega
  have r0:=hrc7.cell 0;have r1:=hrc7.cell 1;simp only[zJ,zK]at r0 r1;have HD7:=qA (zI hd7 (zI (show ps<w7.heap.size by omega) (zI hA7.lt (show ∀q,(Value.slice (some ⟨b,0,none⟩) n' cv).ownBlock=some q->q<w7.heap.size from fun q hq=>hr7.lt hq))));have HPN:=qA hpn;have HEnd:=qA (zI hbn (zI hx7 (zI hed7 (zI hA7 (zI hr7 hF07)))));have HIns:=qA hIns;have HCL:=qA hcls;have Hu:=qA (show u<U64 from hu);have Hv:=qA (show v<U64 from hv);clear hg7 hr7 hF57 hdn hd7 hx7 hrc7 hed7 hla4 hA7 hF07 hpsm hcls hIns hpn hbn;have hcap:=HB.out.ok.leE;have hLlen:s.L.length<=16384:=by {
  have h1:=Sm.len_used HB.out.ok;have h2:=HB.out.ok.ar.hb;have h3:=HB.out.ok.sl;unfold Ar.used at h1;omega};have huv:=(Sm.chk_ok HB.out.ok HCK.out).1;have HUV:=qA huv;clear huv;have HFT:=qA (Sm.fits_uv HB.out.ok hu HCK.out);go_wp2_with fail
  clear r0 r1;go_loopw [77] (fun y wr=>∃k:Nat,k<=2/\y=.int .i64 k/\Hid (nH w7 ps pt mb (.slice (some ⟨b,0,none⟩) n' cv) la' lT lb (wH s.M u v k) (nI (bU s.L) u v sl k) (wH s.M u v k).L.length wr)) (fun y _=>2-(intOf y).toNat)
  case atStart=>exact⟨0,by omega,rfl,HIns⟩
  case round=>
   obtain⟨k,hk,rfl,HS2⟩:=hrel;by_cases hlt:k<2
   {
   have hk2:k=0∨k=1:=by omega
   clear hlt hk;rcases hk2 with rfl|rfl
   {
   have hFr:=HS2.out.fr;have hd:=hFr.blk HD7.out.1 HPN.out;have c4:=hd.cell 4;have c6:=hd.cell 6;simp only[zJ,zK]at c4 c6;have HP:=qA (aGO HD7.out.2.1 HD7.out.2.2.1 HD7.out.2.2.2 HS2.out Hu.out);have HMO:=qA HS2.out.mok;clear hFr hd;rename World=>wo
   go_wp2_with fail
   refine HP.out.mono ?_;rintro _ w8 ⟨r8,rfl,hS8,hF8⟩;clear HP c4 c6;obtain⟨lT', lb', c', hc', hT', ⟨iv,hI'⟩,hF', h5', h6'⟩:=hS8;have c6:=(hF8.blk HD7.out.1 HPN.out).cell 6;simp only[zJ,zK]at c6;obtain⟨av0,cv0,ev0⟩:=(hI'.row u Hu.out).2.1.slice;have hfl:(nI (bU s.L) u v sl 0 u).length<=16384:=zH (lB s.L u) hLlen;have hml:(wH s.M u v 0).L.length<=65536:=by {
   have h1:=HMO.out.cnt;have h2:=HMO.out.ar.hb;have h3:=HMO.out.ar.hs;simp only[Md.ar]at h2 h3;omega};have hmx:(wH s.M u v 0).L.length<maxLen:=by unfold maxLen;omega
   have g1:=sD (w' :=w8.drew) hI' Hu.out ev0 rfl;have g2:=sD (w' :=(w8.alloc (.cells #[.int .i64 sl] 3)).drew) hI' Hu.out ev0 (Below.heap_alloc _ _ _ hI'.im.lt);have g3:=sD (w' :=w8.alloc (.cells #[.int .i64 sl] 3)) hI' Hu.out ev0 (Below.heap_alloc _ _ _ hI'.im.lt);have EV:=qA ev0;have hrow:=(hI'.row u Hu.out).2.1;rw[ev0]at hrow;have HRow:=qA hrow;clear hrow;have hvm:=(hI'.row u Hu.out).2.2;rw[ev0]at hvm;have HVM:=qA hvm;clear hvm;have HI:=qA hI';have HSet:=qA (fun(w8' w9' :World) (v1:Value) (l1:List Nat) (n2:Nat) a1 a2 a3 a4 a5 a6=>tB (M:=(wH s.M u v 1)) HD7.out.2.1 HD7.out.2.2.1 HD7.out.2.2.2 hc' hT' hI' hF' h5' h6' (id:=u) Hu.out (w8:=w8') (w9:=w9') (v1:=v1) (l1:=l1) (n2:=n2) a1 a2 a3 a4 a5 a6);have hmbn:mb∉lb' :=hI'.nm;have hmlt:=hI'.im.lt;have hHP:=qA hF8;have HPO:=qA (show ps∉(Value.slice av0 (nI (bU s.L) u v sl 0 u).length cv0).ownBlock.toList from fun hm=>by
     have e1:=hc'.b ps (HVM.out ps (by simpa using hm));have e2:=hc'.p;omega)
   have HMO2:=qA (show mb∉(Value.slice av0 (nI (bU s.L) u v sl 0 u).length cv0).ownBlock.toList from fun hm=>by
     have e1:=hc'.b mb (HVM.out mb (by simpa using hm));have e2:=hc'.m;omega)
   have hPM:=qA (show ps∉mb::(Value.slice av0 (nI (bU s.L) u v sl 0 u).length cv0).ownBlock.toList from fun hm=>by
     rcases qB.1 hm with e|e
     · have e1:=hc'.p;have e2:=hc'.m;rw[e]at e1;omega
     · exact HPO.out e)
   have HNN:=qA (aHH (f:=bU s.L u) HMO.out Hu.out HFT.out.1 (hI'.row u Hu.out).1 (HB.out.ok.vert u));clear hc' hT' hI' hF' h5' h6' hF8;generalize hfle:nI (bU s.L) u v sl 0 u=fl at *;have HFL:=qA hfle;clear hfle;have hFa:Fr [] w8 (w8.alloc (.cells #[.int .i64 sl] 3)).drew:=((Fr.refl [] w8).alloc _).drew;have HFa:=qA hFa;clear hFa;have HBa:=qA (show Blk (w8.alloc (.cells #[.int .i64 sl] 3)).drew w8.heap.size 3 [.int .i64 sl] from(Blk.new w8 _ _).drew);have HK8:=qA (fun(w' :World) (S:List Nat) (hf:Fr S w8 w') (hs:ps∉S)=>hf.cell c6 hs);go_wp2_with fail
   go_region_held3 (fun w' => w'.cell? ⟨ps, 6, none⟩ = some (.map (some mb)))
     (first
       | with_reducible exact HK8.out _ _ hF10 hPM.out
       | with_reducible exact HK8.out _ _ hF9 HPO.out
       | go_keep)
     (first
       | (refine xD (by rfl) _ _ _ (by rfl) 3 (.int .i64 0) 1 8 Tryz.underlying158 Tryz.info3 rfl (by decide) (.slice av0 fl.length cv0) fl.length (fO fl) (by rfl) (HRow.out.fr0 HFa.out) w8.heap.size 3 [.int .i64 sl] (by rfl) HBa.out rfl (by simp [Value.oneCell']) (by omega) (by decide) ?_; intro g9 cap9 w9 hown9 hgrow9 hg9
          have hF9:Fr (Value.slice av0 fl.length cv0).ownBlock.toList w8 w9:=(HFa.out.mono (by simp)).grown hgrow9 (fun q e=>.inl (by simp[e]));have hM9:=HI.out.im.same (hF9.keep mb hmlt HMO2.out);obtain⟨w10,hrun10,hM10,hG10⟩:=hM9.put Tryz.underlying36 Tryz.underlying143 hmx (kB Hu.out) (v:=.slice (some ⟨g9,0,none⟩) (fl.length+1) cap9) (by rfl);have hF10:Fr (mb::(Value.slice av0 fl.length cv0).ownBlock.toList) w8 w10:=(hF9.mono (fun b hb=>.inl (List.mem_cons_of_mem _ hb))).trans hG10 (fun b hb=>.inl (by simp at hb;simp[hb]))))
   all_goals
    go_wp2_with fail
    go_roundw
    case rel=>
     have hs9:=HFa.out.size;have h9:dO w9 (.slice (some ⟨g9,0,none⟩) (fl.length+1) cap9) (fl++[sl]):=by {
     unfold dO;rw[xS,zF];exact hown9};have:=HSet.out w9 w10 _ (fl++[sl]) _ h9 (by simp) (by rw[EV.out];exact hF9) (fun q hq=>by
       rw[EV.out];simp only[Value.ownBlock,qI]at hq;subst hq;exact hg9.imp (fun e=>e) (fun e=>by omega)) hM10 hG10
     rw[HNN.out]at this;refine⟨1,by omega,by go_num,qA ?_⟩;rw[<-HFL.out]at this;exact this
    case measure=>simp[intOf];try omega}
   {
   have hFr:=HS2.out.fr;have hd:=hFr.blk HD7.out.1 HPN.out;have c4:=hd.cell 4;have c6:=hd.cell 6;simp only[zJ,zK]at c4 c6;have HP:=qA (aGO HD7.out.2.1 HD7.out.2.2.1 HD7.out.2.2.2 HS2.out Hv.out);have HMO:=qA HS2.out.mok;clear hFr hd;rename World=>wo
   go_wp2_with fail
   refine HP.out.mono ?_;rintro _ w8 ⟨r8,rfl,hS8,hF8⟩;clear HP c4 c6;obtain⟨lT', lb', c', hc', hT', ⟨iv,hI'⟩,hF', h5', h6'⟩:=hS8;have c6:=(hF8.blk HD7.out.1 HPN.out).cell 6;simp only[zJ,zK]at c6;obtain⟨av0,cv0,ev0⟩:=(hI'.row v Hv.out).2.1.slice;have hfl:(nI (bU s.L) u v sl 1 v).length<=16384:=by {
   have e9:nI (bU s.L) u v sl 1 v=bU s.L v:=eG (fun e=>HUV.out e.symm);rw[e9];exact zH (lB s.L v) hLlen};have hml:(wH s.M u v 1).L.length<=65536:=by {
   have h1:=HMO.out.cnt;have h2:=HMO.out.ar.hb;have h3:=HMO.out.ar.hs;simp only[Md.ar]at h2 h3;omega};have hmx:(wH s.M u v 1).L.length<maxLen:=by unfold maxLen;omega
   have g1:=sD (w' :=w8.drew) hI' Hv.out ev0 rfl;have g2:=sD (w' :=(w8.alloc (.cells #[.int .i64 sl] 3)).drew) hI' Hv.out ev0 (Below.heap_alloc _ _ _ hI'.im.lt);have g3:=sD (w' :=w8.alloc (.cells #[.int .i64 sl] 3)) hI' Hv.out ev0 (Below.heap_alloc _ _ _ hI'.im.lt);have EV:=qA ev0;have hrow:=(hI'.row v Hv.out).2.1;rw[ev0]at hrow;have HRow:=qA hrow;clear hrow;have hvm:=(hI'.row v Hv.out).2.2;rw[ev0]at hvm;have HVM:=qA hvm;clear hvm;have HI:=qA hI';have HSet:=qA (fun(w8' w9' :World) (v1:Value) (l1:List Nat) (n2:Nat) a1 a2 a3 a4 a5 a6=>tB (M:=(wH s.M u v 2)) HD7.out.2.1 HD7.out.2.2.1 HD7.out.2.2.2 hc' hT' hI' hF' h5' h6' (id:=v) Hv.out (w8:=w8') (w9:=w9') (v1:=v1) (l1:=l1) (n2:=n2) a1 a2 a3 a4 a5 a6);have hmbn:mb∉lb' :=hI'.nm;have hmlt:=hI'.im.lt;have hHP:=qA hF8;have HPO:=qA (show ps∉(Value.slice av0 (nI (bU s.L) u v sl 1 v).length cv0).ownBlock.toList from fun hm=>by
     have e1:=hc'.b ps (HVM.out ps (by simpa using hm));have e2:=hc'.p;omega)
   have HMO2:=qA (show mb∉(Value.slice av0 (nI (bU s.L) u v sl 1 v).length cv0).ownBlock.toList from fun hm=>by
     have e1:=hc'.b mb (HVM.out mb (by simpa using hm));have e2:=hc'.m;omega)
   have hPM:=qA (show ps∉mb::(Value.slice av0 (nI (bU s.L) u v sl 1 v).length cv0).ownBlock.toList from fun hm=>by
     rcases qB.1 hm with e|e
     · have e1:=hc'.p;have e2:=hc'.m;rw[e]at e1;omega
     · exact HPO.out e)
   have HNN:=qA (aHH (f:=bU s.L v) HMO.out Hv.out HFT.out.2 (by have:=(hI'.row v Hv.out).1;rwa[show nI (bU s.L) u v sl 1 v=bU s.L v from eG (fun e=>HUV.out e.symm)]at this) (((lC HB.out.ok.md Hu.out HFT.out.1).2.1 v).trans ⟨fun h=>(HB.out.ok.vert v).1 (h.resolve_right (fun e=>HUV.out e.symm)),fun h=>.inl ((HB.out.ok.vert v).2 h)⟩));clear hc' hT' hI' hF' h5' h6' hF8;generalize hfle:nI (bU s.L) u v sl 1 v=fl at *;have HFL:=qA hfle;clear hfle;have hFa:Fr [] w8 (w8.alloc (.cells #[.int .i64 sl] 3)).drew:=((Fr.refl [] w8).alloc _).drew;have HFa:=qA hFa;clear hFa;have HBa:=qA (show Blk (w8.alloc (.cells #[.int .i64 sl] 3)).drew w8.heap.size 3 [.int .i64 sl] from(Blk.new w8 _ _).drew);have HK8:=qA (fun(w' :World) (S:List Nat) (hf:Fr S w8 w') (hs:ps∉S)=>hf.cell c6 hs);go_wp2_with fail
   go_region_held3 (fun w' => w'.cell? ⟨ps, 6, none⟩ = some (.map (some mb)))
     (first
       | with_reducible exact HK8.out _ _ hF10 hPM.out
       | with_reducible exact HK8.out _ _ hF9 HPO.out
       | go_keep)
     (first
       | (refine xD (by rfl) _ _ _ (by rfl) 3 (.int .i64 0) 1 8 Tryz.underlying158 Tryz.info3 rfl (by decide) (.slice av0 fl.length cv0) fl.length (fO fl) (by rfl) (HRow.out.fr0 HFa.out) w8.heap.size 3 [.int .i64 sl] (by rfl) HBa.out rfl (by simp [Value.oneCell']) (by omega) (by decide) ?_; intro g9 cap9 w9 hown9 hgrow9 hg9
          have hF9:Fr (Value.slice av0 fl.length cv0).ownBlock.toList w8 w9:=(HFa.out.mono (by simp)).grown hgrow9 (fun q e=>.inl (by simp[e]));have hM9:=HI.out.im.same (hF9.keep mb hmlt HMO2.out);obtain⟨w10,hrun10,hM10,hG10⟩:=hM9.put Tryz.underlying36 Tryz.underlying143 hmx (kB Hv.out) (v:=.slice (some ⟨g9,0,none⟩) (fl.length+1) cap9) (by rfl);have hF10:Fr (mb::(Value.slice av0 fl.length cv0).ownBlock.toList) w8 w10:=(hF9.mono (fun b hb=>.inl (List.mem_cons_of_mem _ hb))).trans hG10 (fun b hb=>.inl (by simp at hb;simp[hb]))))
   all_goals
    go_wp2_with fail
    go_roundw
    case rel=>
     have hs9:=HFa.out.size;have h9:dO w9 (.slice (some ⟨g9,0,none⟩) (fl.length+1) cap9) (fl++[sl]):=by {
     unfold dO;rw[xS,zF];exact hown9};have:=HSet.out w9 w10 _ (fl++[sl]) _ h9 (by simp) (by rw[EV.out];exact hF9) (fun q hq=>by
       rw[EV.out];simp only[Value.ownBlock,qI]at hq;subst hq;exact hg9.imp (fun e=>e) (fun e=>by omega)) hM10 hG10
     rw[HNN.out]at this;refine⟨2,by omega,by go_num,qA ?_⟩;rw[<-HFL.out]at this;exact this
    case measure=>simp[intOf];try omega}}
   {
   obtain rfl:k=2:=by omega
   have hFr:=HS2.out.fr;have hxb:=hFr.blk HEnd.out.2.1 (HEnd.out.1 _ (by omega));have heb:=hFr.blk HEnd.out.2.2.1 (HEnd.out.1 _ (by omega));obtain⟨e0,e1,e2,e3,e4,e5,e6⟩:=heb.lvAt;simp only[Nat.zero_add]at e0 e1 e2 e3 e4 e5 e6;have z:=hxb.frozen;have t0:=hxb.cell 0;have t1:=hxb.cell 1;have t2:=hxb.cell 2;have t3:=hxb.cell 3;have t4:=hxb.cell 4;have t5:=hxb.cell 5;have t6:=hxb.cell 6;simp only[zJ,zK]at t0 t1 t2 t3 t4 t5 t6;have HXB:=qA (hxb.put7 ⟨sl,q1,u,v,wt,t,x⟩);clear hFr hxb heb hlt hk;rename World=>wo
   go_wp2_with fail
   have hrr:=HXB.out.lvAt;have hE:(⟨sl,q1,u,v,wt,t,x⟩:Lv)=s.edge u v wt t x:=by unfold Sm.edge;rw[HSL.out,HQ1.out]
   unfold aIT Go.Proofs.YtjdgpcjbgjnahaaGreatDoor.put7 at hrr;simp only[Nat.zero_add]at hrr;obtain⟨r0,r1,r2,r3,r4,r5,r6⟩:=hrr;refine bodyPost_ret (v:=.tuple #[lvA ⟨sl,q1,u,v,wt,t,x⟩,.int .i64 0]) (by simp[results,Tryz.results135,go_sem,r0,r1,r2,r3,r4,r5,r6]) rfl ⟨by rw[hE],?_⟩;have hx1:=HEnd.out.2.1.lt;have hsz2:=HX.out.2.2.2;have hw5:=HW5.out.2.2.2.2.2;have hw4:w2.heap.size<=w4.heap.size:=HX4.out.2.2.2.2.1.size;have hw45:=HW5.out.2.2.2.2.1.lt
   exact aNS HB.out HCK.out hu hv HLL.out HSL.out HQ1.out HS2.out HD7.out.1 HEnd.out.2.2.2.1 HEnd.out.2.2.2.2.1 HEnd.out.2.2.2.2.2 HCL.out
     (fun q hq=>(HX4.out.2.2.2.2.2 q hq).imp (fun e=>e) (fun e=>by omega)) (fun q hq=>(HS.out.2.2.2 q hq).imp (fun e=>e) (fun e=>by omega)) (by omega) hnn hgt hn'}}
end
def sX(f:Nat->List Nat)(id sl:Nat):Nat->List Nat:=nG f id ((f id).filter (· != sl))
theorem sG{p:List Nat}(h:p.Nodup)(x:Nat):p.eraseIdx (p.idxOf x)=p.filter (· != x):=by
 rw[<-h.erase_eq_filter,List.erase_eq_eraseIdx_of_idxOf rfl]
theorem xT(f:Nat->List Nat)(id sl:Nat):sX f id sl id=(f id).filter (· != sl):=jH _ _ _
theorem kN{f:Nat->List Nat}{id sl x:Nat}(h:x≠id):sX f id sl x=f x:=eG h
theorem aRM{s:Sm}(h:s.Ok){k:Nat}(hu:s.A.isUsed k):sX (sX (bU s.L) (aF s.L k).u k) (aF s.L k).v k=bU (s.L.filter fun e=>e.slot != k):=by
 obtain⟨hm,hs⟩:=Sm.live_used h hu;have hne:=h.ne _ hm;have hone:∀x∈s.L,x.slot=k->x=aF s.L k:=fun x hx hxs=>by rw[<-hxs,gB h.one hx]
 generalize aF s.L k=e at *;funext id
 rw[iW];by_cases h1:id=e.v
 {
 subst h1;rw[xT,kN (fun e=>hne e.symm)]}
 {
 rw[kN h1];by_cases h2:id=e.u
 · subst h2;rw[xT]
 {
 rw[kN h2];refine(List.filter_eq_self.2 fun i hi=>?_).symm;obtain⟨x,hx,hat,hxs⟩:=eY.1 hi;simp only[bne_iff_ne];intro hik;have:=hone x hx (hxs.trans hik);subst this;simp[Lv.at]at hat;omega}}
theorem aRN{M:Md}(h:M.Ok){id:Nat}(hf:(M.find id).isSome=true):(M.del id).M.L.length+1=M.L.length:=by
 obtain⟨i,hi⟩:=qV.1 hf;unfold Md.del;rw[hi];exact Md.filter_ne h.ids (Md.find_mem hi)
theorem aCO{s:Sm}(h:s.Ok){k:Nat}(hu:s.A.isUsed k):k∈bU s.L (aF s.L k).u/\k∈bU s.L (aF s.L k).v:=by
 obtain⟨hm,hs⟩:=Sm.live_used h hu;exact⟨eY.2 ⟨_,hm,by simp[Lv.at],hs⟩,eY.2 ⟨_,hm,by simp[Lv.at],hs⟩⟩
section
variable {w7 wr:World} {ps pt mb n:Nat} {v7:Value} {la lT lb:List Nat} {M:Md} {f:Nat->List Nat}
theorem aCP(_hps:ps<w7.heap.size)(_hla:∀b∈la,b<w7.heap.size)(_hv7:∀q,v7.ownBlock=some q->q<w7.heap.size)(h:nH w7 ps pt mb v7 la lT lb M f n wr){id:Nat}(hid:id<U64):
    Calls Tryz.prog 155 #[ptr pt,.int .u64 id] wr fun e w' =>∃r,e=.returned r/\nH w7 ps pt mb v7 la lT lb (M.del id).M f n w' :=by
 obtain⟨lT', lb', c', hc,hT,hI,hF,h5,h6⟩:=h;refine(aPZ id hid hT).mono ?_;rintro _ w' ⟨rfl,hT', hN1,hN2⟩;have hlt:=hT.lt;have hlb:=hI.ltb;have hml:=hI.ltm;have hsz:=hF.size;have hF' :Fr (mb::(lT++lb)) w7 w' :=hF.trans hN1 (fun q hq=>(h5 q hq).imp (fun e=>by simp[e]) (fun e=>e));refine⟨_,rfl,⟨lT', lb', c', hc,hT', ?_,hF', h5,h6⟩⟩;refine hI.fr hN1 (fun hm=>?_) (fun b hb hm=>?_)
 · have e1:=hc.t mb hm;have e2:=hc.m;omega
 · have e1:=hc.t b hm;have e2:=hc.b b hb;omega
theorem aHI{iv:Int->Option Value}{lT' lb' :List Nat}{c' :Nat->Nat}(hc:Cls c' ps mb v7 la lT' lb')(hT:gV wr pt M lT')(hI:oC wr mb iv f n lb')(hF:Fr (mb::(lT++lb)) w7 wr)
    (h5:∀q∈lT', q∈lT∨w7.heap.size<=q) (h6:∀q∈lb', q∈lb∨w7.heap.size<=q) {id:Nat} (hid:id<U64) {w8 w9:World} {n2:Nat}
    (hF1:Fr ((iv id).getD gG).ownBlock.toList wr w8) (hM:dA Tryz.prog 36 .u64 okS w9 mb (jY iv id none) n2) (hF2:Fr [mb] w8 w9):nH w7 ps pt mb v7 la lT lb M (nG f id []) n2 w9:=by
 have hI2:=hI.del hid hF1 hM hF2;have hin:=(hI.row id hid).2.2;have hG:Fr (mb::((iv id).getD gG).ownBlock.toList) wr w9:=(hF1.mono (S' :=mb::((iv id).getD gG).ownBlock.toList) (fun b hb=>.inl (List.mem_cons_of_mem _ hb))).trans hF2 (fun b hb=>.inl (by simp at hb;simp[hb]));refine⟨lT', lb', c', hc,hT.fr hG (fun b hb hm=>?_),⟨_,hI2⟩,hF.trans hG (fun b hb=>?_),h5,h6⟩
 {
 have e0:=hc.t b hb;rcases qB.1 hm with e|e
 · have:=hc.m;rw[<-e]at this;omega
 · have:=hc.b b (hin b (by simpa using e));omega}
 {
 rcases qB.1 hb with rfl|e
 · exact .inl (by simp)
 {
 rcases h6 b (hin b (by simpa using e)) with e2|e2
 · exact .inl (by simp[e2])
 · exact .inr e2}}
end
def iN(s:Sm)(k:Nat):Nat->Md
  | 0=>s.M
  | 1=>Sm.delIf s.M (s.L.filter fun e=>e.slot != k) (aF s.L k).u
  | _=>Sm.delIf (Sm.delIf s.M (s.L.filter fun e=>e.slot != k) (aF s.L k).u) (s.L.filter fun e=>e.slot != k) (aF s.L k).v
def xU(s:Sm)(k:Nat):Nat->Nat->List Nat
  | 0=>bU s.L
  | 1=>sX (bU s.L) (aF s.L k).u k
  | _=>sX (sX (bU s.L) (aF s.L k).u k) (aF s.L k).v k
def idK(e:Lv):Nat->Nat
  | 0=>e.u
  | _=>e.v
theorem aCQ{s:Sm}(h:s.Ok){k:Nat}(hu:s.A.isUsed k){j:Nat}(hj:j<2):xU s k j (idK (aF s.L k) j)=bU s.L (idK (aF s.L k) j):=by
 have hne:=h.ne _ (Sm.live_used h hu).1;match j,hj with
 | 0,_=>rfl
 | 1,_=>exact kN (fun e=>hne e.symm)
theorem vH(s:Sm)(k:Nat){j:Nat}(hj:j<2):xU s k (j+1)=sX (xU s k j) (idK (aF s.L k) j) k:=by
 match j,hj with
 | 0,_=>rfl
 | 1,_=>rfl
theorem oM{s:Sm}{k j:Nat}(hj:j<2):iN s k (j+1)=if (bU s.L (idK (aF s.L k) j)).filter (· != k)=[] then((iN s k j).del (idK (aF s.L k) j)).M else iN s k j:=by
 rw[<-iW];match j,hj with
 | 0,_=>rfl
 | 1,_=>rfl
theorem aNT{s:Sm}(h:s.Ok)(k j:Nat):(iN s k j).Ok:=by
 match j with
 | 0=>exact h.md
 | 1=>exact Sm.delIf_ok h.md _ _
 | j+2=>exact Sm.delIf_ok (Sm.delIf_ok h.md _ _) _ _
theorem aFE{s:Sm}(h:s.Ok){k:Nat}(hu:s.A.isUsed k){j:Nat}(hj:j<2):((iN s k j).find (idK (aF s.L k) j)).isSome=true:=by
 have hne:=h.ne _ (Sm.live_used h hu).1;obtain⟨h1,h2⟩:=aCO h hu;match j,hj with
 | 0,_=>exact(h.vert _).2 (List.ne_nil_of_mem h1)
 | 1,_=>exact(Sm.delIf_find h.md _ _ _).2 ⟨(h.vert _).2 (List.ne_nil_of_mem h2),fun e=>absurd e.symm hne⟩
theorem aHJ{s:Sm}(h:s.Ok){k:Nat}(hu:s.A.isUsed k)(j:Nat):k∈bU s.L (idK (aF s.L k) j):=by
 obtain⟨h1,h2⟩:=aCO h hu;match j with
 | 0=>exact h1
 | j+1=>exact h2
theorem aHK{s:Sm}(h:s.Ok){k:Nat}(hu:s.A.isUsed k)(j:Nat):idK (aF s.L k) j<U64:=by
 have:=h.u64 _ (Sm.live_used h hu).1;match j with
 | 0=>exact this.1
 | j+1=>exact this.2
theorem aJS{s:Sm}(h:s.Ok){k:Nat}(hu:s.A.isUsed k):xU s k 2=bU (s.L.filter fun e=>e.slot != k):=aRM h hu
theorem aCR{s:Sm}(h:s.Ok){k:Nat}(hu:s.A.isUsed k){j:Nat}(hj:j<2)(he:(bU s.L (idK (aF s.L k) j)).filter (· != k)=[]):(iN s k (j+1)).L.length=(iN s k j).L.length-1:=by
 rw[oM hj,qD he];have:=aRN (aNT h k j) (aFE h hu hj);omega
theorem aFF(L:List Lv)(n k:Nat):((List.range n).map (aF L)).set k Lv.z=(List.range n).map (aF (L.filter fun e=>e.slot != k)):=by
 refine List.ext_getElem? fun i=>?_;rw[List.getElem?_set];by_cases hi:i<n
 {
 simp only[List.length_map,List.length_range,List.getElem?_map,List.getElem?_range hi,Option.map_some,wC];by_cases he:k=i
 · rw[qD he,qD he.symm,qD (by omega)]
 · rw[qC he,qC (fun h=>he h.symm)]}
 {
 rw[zB (by simp;omega),zB (by simp;omega)];simp;omega}
theorem aNU{w w7 wo:World}{ps pa pt mb n k:Nat}{vl:Value}{s:Sm}{la lT lb:List Nat}{c:Nat->Nat}(HB:StB w ps pa pt mb n vl s la lT lb c)(hu:s.A.isUsed k)(e:Lv)
    (HS2:nH w7 ps pt mb vl la lT lb (iN s k 2) (xU s k 2) (iN s k 2).L.length wo)
    (HD7:Blk w7 ps 145 [.int .i64 s.V,.int .i64 s.E,.int .u64 s.last,ptr pa,ptr pt,vl,.map (some mb)])
    (hA7:aR w7 pa (s.A.put k) la) (hr7:dF w7 vl ((List.range n).map (aF (s.L.filter fun e=>e.slot != k)))) (hF7:Fr (vl.ownBlock.toList++la) w w7) (hs7:w.heap.size+1<=w7.heap.size):
    ∃K', bA (Go.Proofs.YtjdgpcjbgjnahaaGreatDoor.put7 wo w.heap.size 0 e) ps (s.rem k) K' /\ Fr (stK ps mb vl la lT lb) w (Go.Proofs.YtjdgpcjbgjnahaaGreatDoor.put7 wo w.heap.size 0 e)/\∀q∈K', q∈stK ps mb vl la lT lb∨w.heap.size<=q:=by
 have HLT:=HB.lt;have hput:Fr [w.heap.size] wo (Go.Proofs.YtjdgpcjbgjnahaaGreatDoor.put7 wo w.heap.size 0 e):=(Fr.refl _ _).put7 _ _ _ (.inl (by simp));have hFr:=HS2.fr;obtain⟨lT', lb', c', hc', hT', hI', hF', h5', h6'⟩:=HS2;have HCL:=HB.cls;have hTw:∀q∈lT,q<w.heap.size:=fun q hq=>HLT q (by simp[stK,hq]);have hBw:∀q∈lb,q<w.heap.size:=fun q hq=>HLT q (by simp[stK,hq]);have hAn:∀q∈la,q∉mb::(lT++lb):=fun q hq hm=>by
   have a1:=HCL.a q hq;simp only[qB,qE]at hm;rcases hm with rfl|e|e
   · have:=HCL.m;omega
   · have:=HCL.t q e;omega
   · have:=HCL.b q e;omega
 have hVn:∀q,vl.ownBlock=some q->q∉mb::(lT++lb):=fun q hq hm=>by
   have a1:=HCL.l q hq;simp only[qB,qE]at hm;rcases hm with rfl|e|e
   · have:=HCL.m;omega
   · have:=HCL.t q e;omega
   · have:=HCL.b q e;omega
 have hPN:ps∉mb::(lT++lb):=fun hm=>by
   have a1:=HCL.p;simp only[qB,qE]at hm;rcases hm with e|e|e
   · have:=HCL.m;rw[<-e]at this;omega
   · have:=HCL.t ps e;omega
   · have:=HCL.b ps e;omega
 have hnx:∀q:Nat,(q<w.heap.size∨w.heap.size+1<=q)->q∉[w.heap.size]:=fun q hq hm=>by
   rw[qH]at hm;omega
 have hK:∀q∈stK ps mb vl la lT lb,q∉[w.heap.size]:=fun q hq=>hnx q (.inl (HLT q hq));rw[aJS HB.ok hu]at hI';refine⟨_,⟨pa,pt,mb,n,vl,la,lT', lb', c', ⟨?_,?_,?_,?_,?_,?_,HB.nE,Sm.ok_rem HB.ok hu,hc'⟩,rfl⟩,?_,?_⟩
 · exact hput.blk (hFr.blk HD7 hPN) (hK ps (by simp[stK]))
 · exact(hA7.fr hFr hAn).fr hput (fun q hq=>hK q (by simp[stK,hq]))
 · exact hT'.fr hput (fun q hq=>hnx q ((h5' q hq).imp (hTw q) (fun e=>by omega)))
 · exact(hr7.fr hFr hVn).fr hput (fun q hq=>hK q (by simp[stK,hq]))
 · exact hI'.fr hput (hK mb (by simp[stK])) (fun q hq=>hnx q ((h6' q hq).imp (hBw q) (fun e=>by omega)))
 · exact fun e he=>HB.sn e (zA.1 he).1
 {
 refine((hF7.mono (S' :=stK ps mb vl la lT lb) (fun q hq=>.inl ?_)).trans hFr (fun q hq=>.inl ?_)).put7 _ _ _ (.inr (qK _))
 {
 simp only[qE,Option.mem_toList]at hq;rcases hq with e|e<;>simp[stK,e]}
 {
 simp only[qB,qE]at hq;rcases hq with e|e|e<;>simp[stK,e]}}
 {
 intro q hq;simp only[stK,qB,qE,Option.mem_toList]at hq;rcases hq with e|e|((e|e)|e)|e
 · exact .inl (by simp[stK,e])
 · exact .inl (by simp[stK,e])
 · exact .inl (by simp[stK,e])
 · exact(h5' q e).imp (fun e=>by simp[stK,e]) (fun e=>by omega)
 · exact .inl (by simp[stK,e])
 · exact(h6' q e).imp (fun e=>by simp[stK,e]) (fun e=>by omega)}
section
variable {w w' :World} {ps:Nat} {s:Sm} {K:List Nat}
theorem vI(h:bA w ps s K)(k:Nat)(hu:s.A.isUsed k):
    Calls Tryz.prog 109 #[fF ps,.int .i64 k] w fun e w' =>e=.returned (.tuple #[lvA (aF s.L k),.int .i64 0])/\∃K', bA w' ps (s.rem k) K' /\ Fr K w w' /\ ∀q∈K', q∈K∨w.heap.size<=q:=by
 have hf0:Fr [] w (w.alloc (.cells #[.int .i64 0,.int .u64 0,.int .u64 0,.int .u64 0,.int .i64 0,.int .i64 0,.int .i64 0] 74)):=(Fr.refl [] w).alloc _;have hbx:Blk (w.alloc (.cells #[.int .i64 0,.int .u64 0,.int .u64 0,.int .u64 0,.int .i64 0,.int .i64 0,.int .i64 0] 74)) w.heap.size 74 [.int .i64 0,.int .u64 0,.int .u64 0,.int .u64 0,.int .i64 0,.int .i64 0,.int .i64 0]:=by {
 have:=Blk.new w [.int .i64 0,.int .u64 0,.int .u64 0,.int .u64 0,.int .i64 0,.int .i64 0,.int .i64 0] 74;simpa using this};have hs1:(w.alloc (.cells #[.int .i64 0,.int .u64 0,.int .u64 0,.int .u64 0,.int .i64 0,.int .i64 0,.int .i64 0] 74)).heap.size=w.heap.size+1:=by simp
 obtain⟨pa,pt,mb,n,vl,la,lT,lb,c,hB0,rfl⟩:=id h;have hB:=hB0.fr hf0 (by simp);have HV:=qA (gS (h.fr0 hf0));have HA:=qA (tP hB.ar hu);have HB0:=qA hB0;have HLT:=qA hB0.lt;have HLT1:=qA hB.lt;have HU:=qA hu;obtain⟨hm,hs⟩:=Sm.live_used hB.ok hu;have hkn:k<n:=by have:=hB.sn _ hm;omega
 clear h hB0;go_enter Tryz.func109,Tryz.ntmps109
 go_wp2_with fail
 have HF:=qA (zI hf0 hs1);clear hf0 hs1;generalize w.alloc (.cells #[.int .i64 0,.int .u64 0,.int .u64 0,.int .u64 0,.int .i64 0,.int .i64 0,.int .i64 0] 74)=w1 at *;refine HV.out.mono ?_;rintro _ w1 ⟨rfl,rfl⟩;have c3:=hB.hd.cell 3;simp only[zJ,zK]at c3;go_wp2_with fail
 refine HA.out.mono ?_;rintro _ w3 ⟨rfl,hA3,hF3⟩;clear HA HV c3;have hpl:ps∉la:=fun hm=>by have e1:=hB.cls.a ps hm;have e2:=hB.cls.p;omega
 have hd3:=hF3.blk hB.hd hpl;have hx3:=hF3.blk hbx (fun hm=>by have:=HLT.out _ (show w.heap.size∈stK ps mb vl la lT lb by simp[stK,hm]);omega);have hlv:=hB.lv.fr hF3 (fun q hq hm=>by have e1:=hB.cls.l q hq;have e2:=hB.cls.a q hm;omega);obtain⟨b,cap,ev,_,hb,hz,hat⟩:=hlv.at (i:=k) (by simp;omega);simp only[List.length_map,List.length_range]at ev;subst ev;simp only[List.getElem_map,List.getElem_range]at hat;have hs3:=hF3.size;have c5:=hd3.cell 5;simp only[zJ,zK]at c5;have HB:=qA hB;clear hB;have HX:=qA (zI hd3 (zI hx3 (zI hlv (zI hA3 (zI hF3 hpl)))));clear hd3 hx3 hlv hA3 hF3 hpl hbx;have HM:=qA (zI hm hs);clear hm hs;obtain⟨e,he⟩:∃e,e=aF s.L k:=⟨_,rfl⟩;rw[<-he]at hat;have HE:=qA he;clear he;have hat0:=hat;obtain⟨e0,e1,e2,e3,e4,e5,e6⟩:=hat0;have hki:(k:Int)<n:=by omega
 have z0:=hz (k*7);have z1:=hz (k*7+1);have z2:=hz (k*7+2);have z3:=hz (k*7+3);have z4:=hz (k*7+4);have z5:=hz (k*7+5);have z6:=hz (k*7+6);have HAT:=qA (zI hat hz);clear hat hz;have hfa:Fr [] w3 (w3.alloc (.cells #[.int .i64 e.slot,.int .u64 e.seq,.int .u64 e.u,.int .u64 e.v,.int .i64 e.wt,.int .i64 e.t,.int .i64 e.x] 74)):=(Fr.refl [] w3).alloc _;have a5:=hfa.cell c5 (by simp);obtain⟨b', cap', ev', _,hb', hzA,hatA⟩:=(HX.out.2.2.1.fr0 hfa).at (i:=k) (by simp;omega);simp only[List.length_map,List.length_range,qP,qI,Addr.mk.injEq,true_and,and_true]at ev';obtain⟨rfl,rfl⟩:=ev';simp only[List.getElem_map,List.getElem_range,<-HE.out]at hatA;obtain⟨f0,f1,f2,f3,f4,f5,f6⟩:=hatA;have y0:=hzA (k*7);have y1:=hzA (k*7+1);have y2:=hzA (k*7+2);have y3:=hzA (k*7+3);have y4:=hzA (k*7+4);have y5:=hzA (k*7+5);have y6:=hzA (k*7+6);have HFA:=qA hfa;clear hfa hzA hb';have hn3:ps≠b:=fun e=>by have e1:=HB.out.cls.l b rfl;have e2:=HB.out.cls.p;rw[e]at e2;omega
 go_wp2_with fail
 clear f0 f1 f2 f3 f4 f5 f6 y0 y1 y2 y3 y4 y5 y6 e0 e1 e2 e3 e4 e5 e6 z0 z1 z2 z3 z4 z5 z6 a5 c5;have hg7:Fr [b] w3 ((Go.Proofs.YtjdgpcjbgjnahaaGreatDoor.put7 w3 b (k*7) Lv.z).alloc (.cells (lvC e).toArray 74)):=((Fr.refl [b] w3).put7 _ _ _ (.inl (by simp))).alloc _;have he7:Blk ((Go.Proofs.YtjdgpcjbgjnahaaGreatDoor.put7 w3 b (k*7) Lv.z).alloc (.cells (lvC e).toArray 74)) w3.heap.size 74 (lvC e):=by {
 have:=Blk.new (Go.Proofs.YtjdgpcjbgjnahaaGreatDoor.put7 w3 b (k*7) Lv.z) (lvC e) 74;rwa[show(Go.Proofs.YtjdgpcjbgjnahaaGreatDoor.put7 w3 b (k*7) Lv.z).heap.size=w3.heap.size by unfold Go.Proofs.YtjdgpcjbgjnahaaGreatDoor.put7;simp]at this};have hr7:dF ((Go.Proofs.YtjdgpcjbgjnahaaGreatDoor.put7 w3 b (k*7) Lv.z).alloc (.cells (lvC e).toArray 74)) (.slice (some ⟨b,0,none⟩) n cap) ((List.range n).map (aF (s.L.filter fun e=>e.slot != k))):=by {
 have h0:dF w3 (.slice (some ⟨b,0,none⟩) ((List.range n).map (aF s.L)).length cap) ((List.range n).map (aF s.L)):=by simpa using HX.out.2.2.1
 have:=(h0.set (i:=k) (by simp;omega) Lv.z).fr0 ((Fr.refl [] _).alloc (.cells (lvC e).toArray 74));rw[aFF]at this;simpa using this};have hw7:(Go.Proofs.YtjdgpcjbgjnahaaGreatDoor.put7 w3 b (k*7) Lv.z).alloc (.cells (lvC e).toArray 74)=((((((((w3.setCell ⟨b,k*7,none⟩ (.int .i64 0)).setCell ⟨b,k*7+1,none⟩ (.int .u64 0)).setCell ⟨b,k*7+2,none⟩ (.int .u64 0)).setCell ⟨b,k*7+3,none⟩ (.int .u64 0)).setCell ⟨b,k*7+4,none⟩ (.int .i64 0)).setCell ⟨b,k*7+5,none⟩ (.int .i64 0)).setCell ⟨b,k*7+6,none⟩ (.int .i64 0)).alloc (.cells #[.int .i64 e.slot,.int .u64 e.seq,.int .u64 e.u,.int .u64 e.v,.int .i64 e.wt,.int .i64 e.t,.int .i64 e.x] 74)):=rfl;rw[hw7]at hg7 he7 hr7;clear hw7;generalize ((((((((w3.setCell ⟨b,k*7,none⟩ (.int .i64 0)).setCell ⟨b,k*7+1,none⟩ (.int .u64 0)).setCell ⟨b,k*7+2,none⟩ (.int .u64 0)).setCell ⟨b,k*7+3,none⟩ (.int .u64 0)).setCell ⟨b,k*7+4,none⟩ (.int .i64 0)).setCell ⟨b,k*7+5,none⟩ (.int .i64 0)).setCell ⟨b,k*7+6,none⟩ (.int .i64 0)).alloc (.cells #[.int .i64 e.slot,.int .u64 e.seq,.int .u64 e.u,.int .u64 e.v,.int .i64 e.wt,.int .i64 e.t,.int .i64 e.x] 74))=w7 at *;have hs7:=he7.lt;have hbw:b<w.heap.size:=HLT.out b (by simp[stK,Value.ownBlock]);have hF17:Fr (b::la) w1 w7:=(HX.out.2.2.2.2.1.mono (S' :=b::la) (fun q hq=>.inl (List.mem_cons_of_mem _ hq))).trans hg7 (fun q hq=>.inl (by simp at hq;simp[hq]));have hbl:∀q∈b::la,c q=4∨c q=2:=fun q hq=>by
   rcases qB.1 hq with rfl|e
   · exact .inl (HB.out.cls.l _ rfl)
   · exact .inr (HB.out.cls.a q e)
 have hd7:=hg7.blk HX.out.1 (by simpa using hn3);have hx7:=hg7.blk HX.out.2.1 (by simp;omega);have hA7:=HX.out.2.2.2.1.fr hg7 (fun q hq hm=>by
   rw[qH]at hm;subst hm;have e1:=HB.out.cls.a q hq;have e2:=HB.out.cls.l q rfl;omega)
 have hIns:nH w7 ps pt mb (.slice (some ⟨b,0,none⟩) n cap) la lT lb s.M (bU s.L) s.M.L.length w7:=
   ⟨lT,lb,c,HB.out.cls,HB.out.tb.fr hF17 (fun q hq hm=>by have e1:=HB.out.cls.t q hq;rcases hbl q hm with e2|e2<;>omega),
     HB.out.inc.fr hF17 (fun hm=>by have e1:=HB.out.cls.m;rcases hbl mb hm with e2|e2<;>omega) (fun q hq hm=>by have e1:=HB.out.cls.b q hq;rcases hbl q hm with e2|e2<;>omega),Fr.refl _ _,fun q hq=>.inl hq,fun q hq=>.inl hq⟩
 have hpn:ps∉mb::(lT++lb):=fun hm=>by
   have a1:=HB.out.cls.p;simp only[qB,qE]at hm;rcases hm with e|e|e
   · have:=HB.out.cls.m;rw[<-e]at this;omega
   · have:=HB.out.cls.t ps e;omega
   · have:=HB.out.cls.b ps e;omega
 have HD7:=qA (zI hd7 (zI (show ps<w7.heap.size from hd7.lt) (zI hA7.lt (show ∀q,(Value.slice (some ⟨b,0,none⟩) n cap).ownBlock=some q->q<w7.heap.size from fun q hq=>hr7.lt hq))));have HPN:=qA hpn;have hbn:∀y,w.heap.size<=y->y∉mb::(lT++lb):=fun y h1 hm=>by
   have:y∈stK ps mb (.slice (some ⟨b,0,none⟩) n cap) la lT lb:=by
     simp only[qB,qE]at hm;simp only[stK,qB,qE];rcases hm with e|e|e
     · simp[e]
     · simp[e]
     · simp[e]
   have:=HLT.out y this;omega
 have HEnd:=qA (zI hbn (zI hx7 (zI he7 (zI hA7 (zI hr7 hF17)))));have HIns:=qA hIns;clear hg7 hd7 hx7 he7 hA7 hr7 hIns hpn hbn hF17 hbl;have hLlen:s.L.length<=16384:=by {
 have h1:=Sm.len_used HB.out.ok;have h2:=HB.out.ok.ar.hb;have h3:=HB.out.ok.sl;have h4:=HB.out.ok.leE;unfold Ar.used at h1;omega};go_loopw [47] (fun y wr=>∃j:Nat,j<=2/\y=.int .i64 j/\Hid (nH w7 ps pt mb (.slice (some ⟨b,0,none⟩) n cap) la lT lb (iN s k j) (xU s k j) (iN s k j).L.length wr)) (fun y _=>2-(intOf y).toNat)
 case atStart=>exact⟨0,by omega,rfl,HIns⟩
 case round=>
  obtain⟨j,hj,rfl,HS2⟩:=hrel;by_cases hlt:j<2
  {
  have hk2:j=0∨j=1:=by omega
  clear hlt hj;rcases hk2 with rfl|rfl
  {
  have hFr:=HS2.out.fr;have hd:=hFr.blk HD7.out.1 HPN.out;have c4:=hd.cell 4;have c6:=hd.cell 6;simp only[zJ,zK]at c4 c6;have HMO:=qA HS2.out.mok;clear hFr hd;rename World=>wo
  obtain⟨lT', lb', c', hc', hT', ⟨iv,hI'⟩,hF', h5', h6'⟩:=HS2.out;have hidE:idK (aF s.L k) 0=e.u:=by rw[<-HE.out];rfl
  have Hid64:=qA (aHK HB.out.ok HU.out 0);have hmem:=aHJ HB.out.ok HU.out 0;have hpe:=aCQ HB.out.ok HU.out (j:=0) (by omega);have hnd:=tX HB.out.ok.one (idK (aF s.L k) 0);have hpl:=zH (lB s.L (idK (aF s.L k) 0)) hLlen;have HMS:=qA (oM (s:=s) (k:=k) (j:=0) (by omega));have HL0:=qA (aCR HB.out.ok HU.out (j:=0) (by omega));have HFS:=qA (vH s k (j:=0) (by omega));rw[hidE]at Hid64 hmem hpe hnd hpl HMS HL0 HFS;obtain⟨p,hp⟩:∃p,p=bU s.L e.u:=⟨_,rfl⟩;rw[<-hp]at hmem hpe hnd hpl HMS HL0;have HPE:=qA hpe;clear hpe;clear hp hidE;obtain⟨av0,cv0,ev0⟩:=(hI'.row e.u Hid64.out).2.1.slice;have hrow:=(hI'.row e.u Hid64.out).2.1;rw[HPE.out]at ev0 hrow;rw[ev0]at hrow;have EV:=qA ev0;have g1:=sD (w' :=wo) hI' Hid64.out ev0 rfl;obtain⟨i,hi⟩:∃i,i=p.idxOf k:=⟨_,rfl⟩;have hil:i<p.length:=by rw[hi];exact List.idxOf_lt_length_of_mem hmem
  have hpi:p[i]'hil=k:=by subst hi;exact List.getElem_idxOf hil
  have HER:=qA (show p.eraseIdx i=p.filter (· != k) by rw[hi];exact sG hnd k);have hix:=aBJ hrow hpl hil hnd;rw[hpi]at hix;have HIX:=qA hix;clear hix;have HDL:=qA (aBK hrow hpl hil);have HMX:=qA (show(iv e.u).isSome=true from(hI'.row e.u Hid64.out).1.2 (by rw[HPE.out];exact List.ne_nil_of_mem hmem));clear hi hmem hnd hrow ev0 hpi;have hml:(iN s k 0).L.length<maxLen:=by have:=HMO.out.len;unfold maxLen;omega
  have HML:=qA hml;clear hml;have HI:=qA hI';have HPK:=qA (zI hc' (zI hT' (zI hF' (zI h5' h6'))));have hio:∀q,(Value.slice av0 p.length cv0).ownBlock=some q->q≠ps/\q≠mb:=fun q hq=>by
    have e1:=hc'.b q ((hI'.row e.u Hid64.out).2.2 q (by rw[EV.out];exact hq));exact⟨fun e=>by have:=hc'.p;rw[<-e]at this;omega,fun e=>by have:=hc'.m;rw[<-e]at this;omega⟩
  have HIO:=qA hio;clear hc' hT' hI' hF' h5' h6' hio;have hi0:(0:Int)<=i:=by omega
  have hi1:decide ((0:Int)<=i)=true:=qG hi0;have hi2:IntKind.i64.wrap ((i:Int)+1)=(i:Int)+1:=by simp[IntKind.wrap,IntKind.bits,IntKind.signed];omega
  go_wp2_with fail
  refine HIX.out.mono ?_;rintro _ wo' ⟨rfl,rfl⟩;go_wp2_with fail
  refine HDL.out.mono ?_;rintro _ w8 ⟨v8,rfl,hr8,ho8,hF8⟩;rw[HER.out]at hr8;obtain⟨a8,cp8,rfl⟩:=hr8.slice;have hpo:ps∉(Value.slice av0 p.length cv0).ownBlock.toList:=fun hm=>(HIO.out ps (by simpa using hm)).1 rfl;have hmo:mb∉(Value.slice av0 p.length cv0).ownBlock.toList:=fun hm=>(HIO.out mb (by simpa using hm)).2 rfl;have k4:=hF8.cell c4 hpo;have k6:=hF8.cell c6 hpo;have hM8:=HI.out.im.same (hF8.keep mb HI.out.im.lt hmo);have HR8:=qA (zI hr8 (zI ho8 hF8));clear hr8 ho8 c4 c6 g1;have HFL:=qA (show List.filter (fun x=>x != k) p=List.filter (· != k) p from rfl);obtain⟨q,hq⟩:∃q,q=p.filter (· != k):=⟨_,rfl⟩;rw[<-hq]at HR8 HMS HL0 ⊢;have HQ:=qA hq;clear hq;by_cases hq0:q=[]
  {
  have hlen:q.length=0:=by rw[hq0];rfl
  have HQ0:=qA hq0;clear hq0;obtain⟨w9,hrun9,hM9,hG9⟩:=hM8.del Tryz.underlying36 Tryz.underlying143 (kB Hid64.out) 0;have hS9:=aHI HPK.out.1 HPK.out.2.1 HI.out HPK.out.2.2.1 HPK.out.2.2.2.1 HPK.out.2.2.2.2 Hid64.out (w8:=w8) (w9:=w9) (by rw[EV.out];exact HR8.out.2.2) hM9 hG9;rw[HMX.out,qD rfl,<-HL0.out HQ0.out]at hS9;have hpm:ps∉[mb]:=fun hm=>HPN.out (by rw[qH]at hm;simp[hm]);have j4:=hG9.cell k4 hpm;have HTD:=qA (aCP HD7.out.2.1 HD7.out.2.2.1 HD7.out.2.2.2 hS9 Hid64.out);have HHM:=qA hM9;clear hS9 hM9 hpm;go_wp2_with fail
  refine HTD.out.mono ?_;rintro _ w10 ⟨r10,rfl,hS10⟩;have HS10:=qA hS10;clear hS10;go_wp2_with fail
  go_roundw
  case rel=>
   have h1:=HS10.out;have h2:=HMS.out;rw[qD HQ0.out]at h2;rw[<-h2]at h1;refine⟨0+1,by omega,by go_num,qA ?_⟩;rw[HFS.out];unfold sX;rw[HPE.out,<-HQ.out,HQ0.out];exact h1
  case measure=>simp[intOf];try omega}
  {
  have hlen:(0:Int)<q.length:=by have:=List.length_pos_iff.2 hq0;omega
  have hlen2:0<q.length:=by omega
  have HQ0:=qA hq0;clear hq0;obtain⟨w9,hrun9,hM9,hG9⟩:=hM8.put Tryz.underlying36 Tryz.underlying143 HML.out (kB Hid64.out) (v:=.slice a8 q.length cp8) rfl;have hS9:=tB (M:=iN s k 0) HD7.out.2.1 HD7.out.2.2.1 HD7.out.2.2.2 HPK.out.1 HPK.out.2.1 HI.out HPK.out.2.2.1 HPK.out.2.2.2.1 HPK.out.2.2.2.2 Hid64.out (w8:=w8) (w9:=w9) HR8.out.1 HQ0.out (by rw[EV.out];exact HR8.out.2.2) (fun y hy=>by rw[EV.out,<-HR8.out.2.1];exact .inl hy) hM9 hG9;rw[HMX.out,qD rfl]at hS9;have HS9:=qA hS9;have HHM:=qA hM9;clear hS9 hM9;go_wp2_with fail
  go_roundw
  case rel=>
   have h1:=HS9.out;have h2:=HMS.out;rw[qC HQ0.out]at h2;rw[<-h2]at h1;refine⟨0+1,by omega,by go_num,qA ?_⟩;rw[HFS.out];unfold sX;rw[HPE.out,<-HQ.out];rw[h2]at h1 ⊢;exact h1
  case measure=>simp[intOf];try omega}}
  {
  have hFr:=HS2.out.fr;have hd:=hFr.blk HD7.out.1 HPN.out;have c4:=hd.cell 4;have c6:=hd.cell 6;simp only[zJ,zK]at c4 c6;have HMO:=qA HS2.out.mok;clear hFr hd;rename World=>wo
  obtain⟨lT', lb', c', hc', hT', ⟨iv,hI'⟩,hF', h5', h6'⟩:=HS2.out;have hidE:idK (aF s.L k) 1=e.v:=by rw[<-HE.out];rfl
  have Hid64:=qA (aHK HB.out.ok HU.out 1);have hmem:=aHJ HB.out.ok HU.out 1;have hpe:=aCQ HB.out.ok HU.out (j:=1) (by omega);have hnd:=tX HB.out.ok.one (idK (aF s.L k) 1);have hpl:=zH (lB s.L (idK (aF s.L k) 1)) hLlen;have HMS:=qA (oM (s:=s) (k:=k) (j:=1) (by omega));have HL0:=qA (aCR HB.out.ok HU.out (j:=1) (by omega));have HFS:=qA (vH s k (j:=1) (by omega));rw[hidE]at Hid64 hmem hpe hnd hpl HMS HL0 HFS;obtain⟨p,hp⟩:∃p,p=bU s.L e.v:=⟨_,rfl⟩;rw[<-hp]at hmem hpe hnd hpl HMS HL0;have HPE:=qA hpe;clear hpe;clear hp hidE;obtain⟨av0,cv0,ev0⟩:=(hI'.row e.v Hid64.out).2.1.slice;have hrow:=(hI'.row e.v Hid64.out).2.1;rw[HPE.out]at ev0 hrow;rw[ev0]at hrow;have EV:=qA ev0;have g1:=sD (w' :=wo) hI' Hid64.out ev0 rfl;obtain⟨i,hi⟩:∃i,i=p.idxOf k:=⟨_,rfl⟩;have hil:i<p.length:=by rw[hi];exact List.idxOf_lt_length_of_mem hmem
  have hpi:p[i]'hil=k:=by subst hi;exact List.getElem_idxOf hil
  have HER:=qA (show p.eraseIdx i=p.filter (· != k) by rw[hi];exact sG hnd k);have hix:=aBJ hrow hpl hil hnd;rw[hpi]at hix;have HIX:=qA hix;clear hix;have HDL:=qA (aBK hrow hpl hil);have HMX:=qA (show(iv e.v).isSome=true from(hI'.row e.v Hid64.out).1.2 (by rw[HPE.out];exact List.ne_nil_of_mem hmem));clear hi hmem hnd hrow ev0 hpi;have hml:(iN s k 1).L.length<maxLen:=by have:=HMO.out.len;unfold maxLen;omega
  have HML:=qA hml;clear hml;have HI:=qA hI';have HPK:=qA (zI hc' (zI hT' (zI hF' (zI h5' h6'))));have hio:∀q,(Value.slice av0 p.length cv0).ownBlock=some q->q≠ps/\q≠mb:=fun q hq=>by
    have e1:=hc'.b q ((hI'.row e.v Hid64.out).2.2 q (by rw[EV.out];exact hq));exact⟨fun e=>by have:=hc'.p;rw[<-e]at this;omega,fun e=>by have:=hc'.m;rw[<-e]at this;omega⟩
  have HIO:=qA hio;clear hc' hT' hI' hF' h5' h6' hio;have hi0:(0:Int)<=i:=by omega
  have hi1:decide ((0:Int)<=i)=true:=qG hi0;have hi2:IntKind.i64.wrap ((i:Int)+1)=(i:Int)+1:=by simp[IntKind.wrap,IntKind.bits,IntKind.signed];omega
  go_wp2_with fail
  refine HIX.out.mono ?_;rintro _ wo' ⟨rfl,rfl⟩;go_wp2_with fail
  refine HDL.out.mono ?_;rintro _ w8 ⟨v8,rfl,hr8,ho8,hF8⟩;rw[HER.out]at hr8;obtain⟨a8,cp8,rfl⟩:=hr8.slice;have hpo:ps∉(Value.slice av0 p.length cv0).ownBlock.toList:=fun hm=>(HIO.out ps (by simpa using hm)).1 rfl;have hmo:mb∉(Value.slice av0 p.length cv0).ownBlock.toList:=fun hm=>(HIO.out mb (by simpa using hm)).2 rfl;have k4:=hF8.cell c4 hpo;have k6:=hF8.cell c6 hpo;have hM8:=HI.out.im.same (hF8.keep mb HI.out.im.lt hmo);have HR8:=qA (zI hr8 (zI ho8 hF8));clear hr8 ho8 c4 c6 g1;have HFL:=qA (show List.filter (fun x=>x != k) p=List.filter (· != k) p from rfl);obtain⟨q,hq⟩:∃q,q=p.filter (· != k):=⟨_,rfl⟩;rw[<-hq]at HR8 HMS HL0 ⊢;have HQ:=qA hq;clear hq;by_cases hq0:q=[]
  {
  have hlen:q.length=0:=by rw[hq0];rfl
  have HQ0:=qA hq0;clear hq0;obtain⟨w9,hrun9,hM9,hG9⟩:=hM8.del Tryz.underlying36 Tryz.underlying143 (kB Hid64.out) 0;have hS9:=aHI HPK.out.1 HPK.out.2.1 HI.out HPK.out.2.2.1 HPK.out.2.2.2.1 HPK.out.2.2.2.2 Hid64.out (w8:=w8) (w9:=w9) (by rw[EV.out];exact HR8.out.2.2) hM9 hG9;rw[HMX.out,qD rfl,<-HL0.out HQ0.out]at hS9;have hpm:ps∉[mb]:=fun hm=>HPN.out (by rw[qH]at hm;simp[hm]);have j4:=hG9.cell k4 hpm;have HTD:=qA (aCP HD7.out.2.1 HD7.out.2.2.1 HD7.out.2.2.2 hS9 Hid64.out);have HHM:=qA hM9;clear hS9 hM9 hpm;go_wp2_with fail
  refine HTD.out.mono ?_;rintro _ w10 ⟨r10,rfl,hS10⟩;have HS10:=qA hS10;clear hS10;go_wp2_with fail
  go_roundw
  case rel=>
   have h1:=HS10.out;have h2:=HMS.out;rw[qD HQ0.out]at h2;rw[<-h2]at h1;refine⟨1+1,by omega,by go_num,qA ?_⟩;rw[HFS.out];unfold sX;rw[HPE.out,<-HQ.out,HQ0.out];exact h1
  case measure=>simp[intOf];try omega}
  {
  have hlen:(0:Int)<q.length:=by have:=List.length_pos_iff.2 hq0;omega
  have hlen2:0<q.length:=by omega
  have HQ0:=qA hq0;clear hq0;obtain⟨w9,hrun9,hM9,hG9⟩:=hM8.put Tryz.underlying36 Tryz.underlying143 HML.out (kB Hid64.out) (v:=.slice a8 q.length cp8) rfl;have hS9:=tB (M:=iN s k 1) HD7.out.2.1 HD7.out.2.2.1 HD7.out.2.2.2 HPK.out.1 HPK.out.2.1 HI.out HPK.out.2.2.1 HPK.out.2.2.2.1 HPK.out.2.2.2.2 Hid64.out (w8:=w8) (w9:=w9) HR8.out.1 HQ0.out (by rw[EV.out];exact HR8.out.2.2) (fun y hy=>by rw[EV.out,<-HR8.out.2.1];exact .inl hy) hM9 hG9;rw[HMX.out,qD rfl]at hS9;have HS9:=qA hS9;have HHM:=qA hM9;clear hS9 hM9;go_wp2_with fail
  go_roundw
  case rel=>
   have h1:=HS9.out;have h2:=HMS.out;rw[qC HQ0.out]at h2;rw[<-h2]at h1;refine⟨1+1,by omega,by go_num,qA ?_⟩;rw[HFS.out];unfold sX;rw[HPE.out,<-HQ.out];rw[h2]at h1 ⊢;exact h1
  case measure=>simp[intOf];try omega}}}
  {
  obtain rfl:j=2:=by omega
  have hFr:=HS2.out.fr;have hxb:=hFr.blk HEnd.out.2.1 (HEnd.out.1 _ (by omega));have heb:=hFr.blk HEnd.out.2.2.1 (HEnd.out.1 _ (by have:=HF.out.2;omega));obtain⟨e0,e1,e2,e3,e4,e5,e6⟩:=heb.lvAt;simp only[Nat.zero_add]at e0 e1 e2 e3 e4 e5 e6;have z:=hxb.frozen;have t0:=hxb.cell 0;have t1:=hxb.cell 1;have t2:=hxb.cell 2;have t3:=hxb.cell 3;have t4:=hxb.cell 4;have t5:=hxb.cell 5;have t6:=hxb.cell 6;simp only[zJ,zK]at t0 t1 t2 t3 t4 t5 t6;have HXB:=qA (hxb.put7 e);clear hFr hxb heb hlt hj;rename World=>wo
  go_wp2_with fail
  have hrr:=HXB.out.lvAt;unfold aIT Go.Proofs.YtjdgpcjbgjnahaaGreatDoor.put7 at hrr;simp only[Nat.zero_add]at hrr;obtain⟨r0,r1,r2,r3,r4,r5,r6⟩:=hrr;refine bodyPost_ret (v:=.tuple #[lvA e,.int .i64 0]) (by simp[results,Tryz.results109,go_sem,r0,r1,r2,r3,r4,r5,r6]) rfl ⟨by rw[HE.out],?_⟩;clear r0 r1 r2 r3 r4 r5 r6 t0 t1 t2 t3 t4 t5 t6 e0 e1 e2 e3 e4 e5 e6 z;exact aNU HB0.out HU.out e HS2.out HD7.out.1 HEnd.out.2.2.2.1 HEnd.out.2.2.2.2.1 ((HF.out.1.mono (by simp)).trans' HEnd.out.2.2.2.2.2) (by have:=HF.out.2;omega)}
end
theorem aRO(V E last:Nat)(w:World)(hV:V<=4096)(hE:E<=16384)(hl:last<=9223372036854775807):
    Calls Tryz.prog 84 #[.int .i64 V,.int .i64 E,.int .u64 last] w fun e w' =>∃ps,e=.returned (.tuple #[.pointer (some ⟨ps,0,none⟩),.int .i64 0])/\∃K,bA w' ps (Sm.new V E last) K/\Fr [] w w' /\ ∀q∈K,w.heap.size<=q:=by
 have d1:decide ((V:Int)<0)=false:=qF (by omega);have d2:decide ((4096:Int)<V)=false:=qF (by omega);have d3:decide ((E:Int)<0)=false:=qF (by omega);have d4:decide ((16384:Int)<E)=false:=qF (by omega);have d5:decide ((9223372036854775807:Int)<last)=false:=qF (by omega);have d6:decide ((4096:Nat)<V)=false:=qF (by omega);have d7:decide ((16384:Nat)<E)=false:=qF (by omega);have d8:decide ((9223372036854775807:Nat)<last)=false:=qF (by omega);have hmk:∀W:World,(Instr.makeMap 143 none).run Tryz.prog W=.ok (.map (some W.heap.size)) (W.alloc (.map #[] 0)):=fun W=>by kernel_rfl
 have HA:=qA (wU E w (by omega));have HT:=qA (fun w' =>aPX V w' (by omega));go_enter Tryz.func84,Tryz.ntmps84
 go_wp2_with fail
 refine HA.out.mono ?_;rintro _ w1 ⟨rfl,hA,hF1⟩;go_wp2_with fail
 refine(HT.out w1).mono ?_;rintro _ w2 ⟨pt,rfl,l,hT,hF2,hl2⟩;have HH:=qA (zI hA (zI hF1 (zI hT (zI hF2 hl2))));clear hA hF1 hT hF2 hl2 HA HT;go_wp2_with fail
 go_ret2;obtain⟨hA,hF1,hT,hF2,hl2⟩:=HH.out;have hal:=hA.lt w.heap.size (by simp);have hsz:=hF2.size;have htl:=hT.lt;have hln:∀b∈l,w1.heap.size<=b:=fun b hb=>(hl2 b hb).resolve_left (by simp);have hF:Fr [] w2 ((w2.alloc (.map #[] 0)).alloc (.cells #[.int .i64 V,.int .i64 E,.int .u64 last,ptr w.heap.size,ptr pt,gG,.map (some w2.heap.size)] 145)):=((Fr.refl [] w2).alloc _).alloc _;have hB:=Blk.new (w2.alloc (.map #[] 0)) [.int .i64 V,.int .i64 E,.int .u64 last,ptr w.heap.size,ptr pt,gG,.map (some w2.heap.size)] 145;rw[World.size_alloc]at hB;refine⟨_,rfl,_,⟨w.heap.size,pt,w2.heap.size,0,gG,[w.heap.size],l,[],fun x=>if x<w.heap.size+1 then 2 else if x<w2.heap.size then 3 else if x=w2.heap.size then 1 else 0,⟨hB,?_,?_,dF.nil _,?_,?_,qS _,Sm.ok_new hV hE (by omega),?_⟩,rfl⟩,?_,?_⟩
 · exact hA.fr (hF2.trans' hF) (by simp)
 · exact hT.fr hF (by simp)
 · refine⟨fun _=>none,((dA.made w2 Tryz.prog 36 .u64 okS).same (Below.heap_alloc _ _ _ (by simp))),by simp,by simp,fun id hid=>⟨by simp[Sm.new,bU],dO.nil _,fun q e=>(by cases e)⟩,fun id id' q _ _ e=>(by cases e)⟩
 · intro e he;cases he
 {
 refine⟨?_,?_,fun b hb=>?_,fun b hb=>?_,fun q e=>(by cases e),fun b hb=>(by cases hb)⟩
 · rw[qC (by omega),qC (by omega),qC (by omega)]
 · rw[qC (by omega),qC (by omega),qD rfl]
 · rw[qH]at hb;rw[qD (by omega)]
 {
 have h1:=hln b hb;have h2:=htl b hb;rw[qC (by omega),qD h2]}}
 · exact(hF1.trans' hF2).trans' hF
 {
 have hs1:=hF1.size;intro q hq;simp only[stK,qB,qE,Value.ownBlock,Option.toList_none,List.not_mem_nil,or_false]at hq;rcases hq with rfl|rfl|rfl|hq
 · omega
 · omega
 · omega
 · have:=hln q hq;omega}
section
variable {Z Y:List Nat} {w w' w'' :World}
end
section
variable {W wr w' :World} {ps:Nat} {s:Sm} {Z Y X:List Nat}
end
def Tryz.laysCloneE_ren:Go.Shelf.Ren:=⟨fun|41=>161|n=>n,fun|22=>239|23=>223|4=>4|n=>n,fun|n=>n⟩
theorem Tryz.laysCloneE:Go.Proofs.SlLaysE0.n41 Tryz.prog Tryz.laysCloneE_ren:={
  mixed:=by kernel_rfl
  f41:=⟨Tryz.f161.name,by decide,Tryz.func161.trans (congrArg some (by kernel_rfl))⟩
  t4:=Tryz.underlying4
  a4:=Tryz.isAgg4
  z4:=Tryz.sizeOf4
  v4:=Tryz.zeroValue4
  t22:=Tryz.underlying239
  a22:=Tryz.isAgg239
  z22:=Tryz.sizeOf239
  v22:=Tryz.zeroValue239 }
theorem Tryz.sizeEnt:∀w,(Go.sizeOf 223).run Tryz.prog w=.ok 2 w:=fun w=>by kernel_rfl
theorem aFG{w:World}{v:Value}{n:Nat}{e:Nat->Nat×Int}(h:w.ownsRow 0 223 2 v n (iL n e))(hn:n<=65536):
    Calls Tryz.prog 161 #[v] w fun r w' =>∃v', r=.returned v' /\ w'.ownsRow 0 223 2 v' n (iL n e)/\(∀q,v'.ownBlock=some q->w.heap.size<=q)/\Fr [] w w' :=by
 obtain⟨i0,hi,hz0,hz1,hz2⟩:=info_parts Tryz.infoEnt;rcases h.2 with⟨rfl,rfl⟩|⟨g,cap,cur,rfl,hg,hcur,hnc,hcm,hcs,htk⟩
 {
 refine(AnyE.slices_Clone_nil Tryz.laysCloneE 0 0 w).mono ?_;rintro _ _ ⟨rfl,rfl⟩;exact⟨_,rfl,h,fun q e=>(by cases e),Fr.refl _ _⟩}
 {
 refine(AnyE.slices_Clone Tryz.laysCloneE i0 (.agg #[.int .i64 0,.int .i64 0]) 2 16 hi hz0 hz1 hz2 rfl (by decide) Tryz.sizeEnt g 0 n cap (iL n e) w (jQ n e) (by unfold maxLen;omega) (by omega) (fun j u hj=>?_) (fun u hu=>?_)).mono ?_
 {
 have hjl:j<n*2:=by have:=(qT.1 hj).1;rwa[jQ]at this
 rw[<-htk,List.getElem?_take,qD hjl]at hj;simpa[World.cell?,hcur] using hj}
 {
 simp only[iL,List.mem_flatMap,List.mem_range]at hu;obtain⟨k,_,hk⟩:=hu;simp at hk;rcases hk with rfl|rfl<;>rfl}
 {
 rintro _ w' ⟨v', rfl,h1,_,hB⟩;refine⟨v', rfl,⟨h1.1,h1.2.elim .inl (fun⟨g,cap,cur,k1,_,k3⟩=>.inr ⟨g,cap,cur,k1,qS _,k3⟩)⟩,fun q hq=>?_,Fr.of_below hB⟩;rcases h1.2 with⟨rfl,_⟩|⟨g,cap,cur,rfl,hb,_⟩
 · cases hq
 · simp[Value.ownBlock]at hq;omega}}
theorem clone_ents' {w:World}{v:Value}{n:Nat}{e:Nat->Nat×Int}(h:w.ownsRow 0 223 2 v n (iL n e))(hn:n<=65536):
    Calls Tryz.prog 161 #[v] w fun r w' =>∃a c,r=.returned (.slice a n c)/\w'.ownsRow 0 223 2 (.slice a n c) n (iL n e)/\(∀q,(Value.slice a n c).ownBlock=some q->w.heap.size<=q)/\Fr [] w w' :=by
 refine(aFG h hn).mono ?_;rintro r w' ⟨u,rfl,h1,h2,h3⟩;obtain⟨a,c,rfl⟩:=aO h1;exact⟨a,c,rfl,h1,h2,h3⟩
structure CS (w w' :World) (x:Value) (slots n m:Nat) (e:Nat->Nat×Int) (pl:Nat->Nat) (v:Value) (hc dr:Nat) (bs:Nat->Option Nat):Prop where
  fr:Fr [] w w'
  hd:Blk w' hc 242 [x,.int .i64 slots,v,.slice (some ⟨dr,0,none⟩) m m]
  it:w'.ownsRow 0 223 2 v n (iL n e)
  dir:Blk w' dr 244 ((List.range m).map fun k=>fW (bs k))
  a1:w.heap.size<=hc
  a2:w.heap.size<=dr
  a3:hc≠dr
  a4:∀q,v.ownBlock=some q->w.heap.size<=q/\q≠hc/\q≠dr
  bl:∀k b,k<m->bs k=some b->Blk w' b 246 (jB pl k)/\w.heap.size<=b/\b≠hc/\b≠dr/\v.ownBlock≠some b
  inj:∀k k' b,k<m->k' < m->bs k=some b->bs k' =some b->k=k'
theorem CS.self{w w' :World}{x y:Value}{slots n m:Nat}{e:Nat->Nat×Int}{pl:Nat->Nat}{v:Value}{hc dr:Nat}{bs:Nat->Option Nat}(h:CS w w' x slots n m e pl v hc dr bs):
    CS w (w'.setCell ⟨hc,0,none⟩ y) y slots n m e pl v hc dr bs:=
  ⟨h.fr.setCell _ _ (.inr h.a1),h.hd.set 0 _,bL h.it _ _ (fun e=>(h.a4 _ e).2.1 rfl),h.dir.other _ _ h.a3.symm,h.a1,h.a2,h.a3,h.a4,
    fun k b hk hb=>by
 obtain⟨k1,k2,k3,k4,k5⟩:=h.bl k b hk hb;exact⟨k1.other _ _ k3,k2,k3,k4,k5⟩,h.inj⟩
theorem CS.more{w w' :World}{x:Value}{slots n m:Nat}{e:Nat->Nat×Int}{pl:Nat->Nat}{v:Value}{hc dr:Nat}{bs:Nat->Option Nat}(h:CS w w' x slots n m e pl v hc dr bs){k:Nat}(hk:k<m)(hb:bs k=none):
    CS w ((w'.alloc (.cells (jB pl k).toArray 246)).setCell ⟨dr,k,none⟩ (aP w'.heap.size)) x slots n m e pl v hc dr (zZ bs k w'.heap.size):=by
 have hnew:=Blk.new w' (jB pl k) 246;have hl1:=h.hd.lt;have hl2:=h.dir.lt;have hle:=h.fr.size;refine⟨(h.fr.alloc _).setCell _ _ (.inr h.a2),(h.hd.alloc _).other _ _ h.a3,bL (h.it.alloc _) _ _ (fun e=>(h.a4 _ e).2.2 rfl),?_,h.a1,h.a2,h.a3,h.a4,fun j b hj hb' =>?_,fun j j' b hj hj' hb' hb2=>?_⟩
 {
 have:=(h.dir.alloc (.cells (jB pl k).toArray 246)).set k (aP w'.heap.size);have e1:((List.range m).map fun x=>fW (bs x)).set k (aP w'.heap.size)=(List.range m).map fun x=>fW (zZ bs k w'.heap.size x):=by {
 apply List.ext_getElem?;intro j;by_cases hj:j<m
 {
 by_cases e2:j=k
 · subst e2;rw[List.getElem?_set_self (by simpa using hj)];simp[hj,cE,fW]
 · rw[List.getElem?_set_ne (by omega)];simp[hj,bY e2]}
 · rw[zB (by simp;omega),zB (by simp;omega)]};rw[e1]at this;exact this}
 {
 by_cases e2:j=k
 {
 subst e2;rw[cE]at hb'; cases hb';refine⟨hnew.other _ _ (by simp;omega),hle,by omega,by omega,fun e3=>?_⟩;have:=(h.it.lt _ e3).2;omega}
 {
 rw[bY e2]at hb';obtain⟨k1,k2,k3,k4,k5⟩:=h.bl j b hj hb';exact⟨(k1.alloc _).other _ _ k4,k2,k3,k4,k5⟩}}
 {
 by_cases e2:j=k
 {
 by_cases e3:j' =k
 · omega
 {
 rw[bY e3]at hb2;subst e2;rw[cE]at hb'; cases hb';have:=(h.bl j' _ hj' hb2).1.lt;omega}}
 {
 rw[bY e2]at hb';by_cases e3:j' =k
 {
 subst e3;rw[cE]at hb2;cases hb2;have:=(h.bl j _ hj hb').1.lt;omega}
 {
 rw[bY e3]at hb2;exact h.inj j j' b hj hj' hb' hb2}}}
theorem aHL{w:World}{ph slots n:Nat}{Q:Nat->Option Int}{l:List Nat}(h:dE w ph slots Q n l):
    Calls Tryz.prog 121 #[aP ph] w fun r w' =>∃ph', r=.returned (aP ph')/\∃l', dE w' ph' slots Q n l' /\ Fr [] w w' /\ ∀b∈l', w.heap.size<=b:=by
 obtain⟨e,pl,v,gp,cp,bs,hm,hk,hp,hq,rfl⟩:=h;obtain⟨m,hmm⟩:∃m,m=(slots+63)/64:=⟨_,rfl⟩;have hle:=hm.le;have hmk:=fun w' =>nU m w' (by omega);have c0:=hm.hd.cell 0;have c1:=hm.hd.cell 1;have c2:=hm.hd.cell 2;have c3:=hm.hd.cell 3;simp only[zJ,zK,<-hmm]at c0 c1 c2 c3;have HC:=qA (fun(w' :World) (hf:Fr [] w w')=>clone_ents' (aL hm.items (fun k hk=>hf.keep k (hm.items.lt k hk).2 (by simp))) hm.nb);have hml:m<=1024:=by omega
 have HMm:=qA hmm;clear hmm;have HM:=qA hm;have HK:=qA (zI hk (zI hp hq));clear hk hp hq;have HV:=qA (lV hm);clear hm;go_enter Tryz.func121,Tryz.ntmps121
 go_wp2_with fail
 refine HV.out.mono ?_;rintro _ w ⟨rfl,rfl⟩;have HQ:=qA (HC.out w.drew (Fr.refl [] w).drew);go_wp2_with fail
 go_region_held3 (fun w' => w'.cell? ⟨ph, 1, none⟩ = some (.int .i64 slots) /\ w'.cell? ⟨ph, 2, none⟩ = some v /\ w'.cell? ⟨ph, 3, none⟩ = some (.slice (some ⟨gp, 0, none⟩) m cp))
   (first
     | go_keep
     | exact⟨hF4.cell c1 (by simp),hF4.cell c2 (by simp),hF4.cell c3 (by simp)⟩
     | exact⟨hF4.cell (((Fr.refl [] w).alloc _).drew.cell c1 (by simp)) (by simp),hF4.cell (((Fr.refl [] w).alloc _).drew.cell c2 (by simp)) (by simp),hF4.cell (((Fr.refl [] w).alloc _).drew.cell c3 (by simp)) (by simp)⟩)
   (first
     | (go_at_call 161;with_reducible refine HQ.out.mono ?_;rintro e w4 ⟨au,cu,rfl,hR4,hQ4,hF4⟩)
     | (go_at_call 161;refine(HC.out _ (((Fr.refl [] w).alloc _).drew)).mono ?_;rintro e w4 ⟨au,cu,rfl,hR4,hQ4,hF4⟩))
 focus
   have hb:=Blk.new (w4.alloc (.cells ((List.range m).map fun k=>fW ((fun _=>none:Nat->Option Nat) k)).toArray 244)) [.pointer none,.int .i64 slots,.slice au n cu,.slice (some ⟨w4.heap.size,0,none⟩) m m] 242;have hd:=(Blk.new w4 ((List.range m).map fun k=>fW ((fun _=>none:Nat->Option Nat) k)) 244).alloc (.cells [.pointer none,.int .i64 slots,.slice au n cu,.slice (some ⟨w4.heap.size,0,none⟩) m m].toArray 242);rw[World.size_alloc]at hb;have hle:=hF4.size;have hlq:=hR4.lt;have F:CS w _ _ slots n m e pl _ _ _ (fun _=>none):=⟨(((Fr.refl [] w).drew.trans' hF4).alloc _).alloc _,hb,(hR4.alloc _).alloc _,hd,by simp at hle;omega,by simpa using hle,by omega,fun q hq=>⟨by simpa using hQ4 q hq,by have:=(hlq q hq).2;omega,by have:=(hlq q hq).2;omega⟩,fun k b _ h=>(by cases h),fun k k' b _ _ h=>(by cases h)⟩;have HF:=qA F;clear hb hd hle hlq F hR4 hQ4 hF4;generalize hw5:(w4.alloc (.cells ((List.range m).map fun k=>fW ((fun _=>none:Nat->Option Nat) k)).toArray 244)).alloc (.cells [.pointer none,.int .i64 slots,.slice au n cu,.slice (some ⟨w4.heap.size,0,none⟩) m m].toArray 242)=w5 at *;generalize w4.heap.size+1=hc at *;generalize w4.heap.size=dr at *;rename_i hHH;clear hw5
 rotate_left
 focus
   have hb:=Blk.new w4 [.pointer none,.int .i64 slots,.slice au n cu,.slice (some ⟨w.heap.size,0,none⟩) m m] 242;have hd:=(hF4.blk (Blk.new w ((List.range m).map fun k=>fW ((fun _=>none:Nat->Option Nat) k)) 244).drew (by simp)).alloc (.cells [.pointer none,.int .i64 slots,.slice au n cu,.slice (some ⟨w.heap.size,0,none⟩) m m].toArray 242);have hle:=hF4.size;have hlq:=hR4.lt;have F:CS w _ _ slots n m e pl _ _ _ (fun _=>none):=⟨((((Fr.refl [] w).alloc _).drew).trans' hF4).alloc _,hb,hR4.alloc _,hd,by simp at hle;omega,qK _,by simp at hle;omega,fun q hq=>⟨by have:=hQ4 q hq;simp at this;omega,by have:=(hlq q hq).2;omega,by have:=hQ4 q hq;simp at this;omega⟩,fun k b _ h=>(by cases h),fun k k' b _ _ h=>(by cases h)⟩;have HF:=qA F;clear hb hd hle hlq F hR4 hQ4 hF4;generalize hw5:w4.alloc (.cells [.pointer none,.int .i64 slots,.slice au n cu,.slice (some ⟨w.heap.size,0,none⟩) m m].toArray 242)=w5 at *;generalize w4.heap.size=hc at *;generalize w.heap.size=dr at *;rename_i hHH;clear hw5
 all_goals
  have F2:=HF.out.self (y:=aP hc);have hx3:w5.cell? ⟨ph,3,none⟩=some (.slice (some ⟨gp,0,none⟩) m cp):=hHH.2.2;have hne:ph≠hc:=by have:=HM.out.hd.lt;have:=HF.out.a1;omega
  have s0:=HF.out.hd.cell 0;have z0:=HF.out.hd.frozen 0;simp only[zJ]at s0;have HF2:=qA F2;clear F2 hHH HF;go_wp2_with fail
  clear hx3 hne s0 z0;generalize w5.setCell ⟨hc,0,none⟩ (aP hc)=w6 at *;go_loopw [36] (fun si wr=>∃(i:Nat) (bs' :Nat->Option Nat),i<=m/\si=.int .i64 i/\Hid (CS w wr (aP hc) slots n m e pl (.slice au n cu) hc dr bs')/\Hid ((∀k,k<i->(bs' k=none↔bs k=none))/\∀k,i<=k->bs' k=none)) (fun si _=>m-(intOf si).toNat)
  case atStart=>exact⟨0,_,qS _,rfl,HF2,qA ⟨fun k h=>by omega,fun _ _=>rfl⟩⟩
  case round=>
   clear HF2;obtain⟨i,bs', hi,rfl,HF,HN⟩:=hrel;by_cases hlt:i<m
   {
   have hil:(i:Int)<m:=by omega
   have hdc:wr.cell? ⟨gp,i,none⟩=some (fW (bs i)):=HF.out.fr.cell (HM.out.dirAt (by rw[<-HMm.out];exact hlt)) (by simp);cases hbi:bs i with
   | none=>{
   rw[hbi]at hdc;simp only[fW,Option.map_none]at hdc;have HB:=qA hbi;clear hbi;go_wp2
   go_roundw
   case rel=>exact⟨i+1,bs', by omega,by go_num,HF,qA ⟨fun k hk=>if h:k<i then HN.out.1 k h else by
     obtain rfl:k=i:=by omega
     rw[HN.out.2 k (qK _),HB.out],fun k hk=>HN.out.2 k (by omega)⟩⟩
   case measure=>simp[intOf];omega}
   | some b=>{
   rw[hbi]at hdc;simp only[fW,Option.map_some]at hdc;have HB:=qA hbi;clear hbi;have hcsr:Blk wr b 246 (jB pl i):=HF.out.fr.blk (HM.out.some_ i b (by rw[<-HMm.out];exact hlt) HB.out) (by simp);obtain⟨cs,hcs⟩:∃cs,cs=jB pl i:=⟨_,rfl⟩;have hcl:cs.length=64:=by rw[hcs];simp[jB]
   have hone:∀u∈cs,u.oneCell' =true:=by {
   intro u hu;rw[hcs]at hu;simp only[jB,qW,List.mem_range]at hu;obtain⟨j,_,rfl⟩:=hu;rfl};have F3:=HF.out.more hlt (HN.out.2 i (qK _));have hFa:=HF.out.hd.alloc (.cells cs.toArray 246);have hFd:=HF.out.dir.alloc (.cells cs.toArray 246);rw[<-hcs]at hcsr F3;have c3:=hFa.cell 3;have cd:=hFd.cell i;have zd:=hFd.frozen i;simp only[zJ,zK]at c3;have hcd:((List.range m).map fun k=>fW (bs' k))[i]? =some (fW (bs' i)):=by simp[hlt]
   rw[hcd]at cd;generalize fW (bs' i)=od at *;have HF3:=qA F3;clear F3 hFa hFd hcd;have HCS:=qA hcs;clear hcs;have hinfo:(Tryz.prog.info? 246).map (·.size)=some cs.toArray.size:=by {
   have:(Tryz.prog.info? 246).map (·.size)=some 64:=by kernel_rfl
   rw[this];simp[hcl]};have hst:=run_storeCells_new (P:=Tryz.prog) wr 246 #[.int .i64 0,.int .i64 0,.int .i64 0,.int .i64 0,.int .i64 0,.int .i64 0,.int .i64 0,.int .i64 0,.int .i64 0,.int .i64 0,.int .i64 0,.int .i64 0,.int .i64 0,.int .i64 0,.int .i64 0,.int .i64 0,.int .i64 0,.int .i64 0,.int .i64 0,.int .i64 0,.int .i64 0,.int .i64 0,.int .i64 0,.int .i64 0,.int .i64 0,.int .i64 0,.int .i64 0,.int .i64 0,.int .i64 0,.int .i64 0,.int .i64 0,.int .i64 0,.int .i64 0,.int .i64 0,.int .i64 0,.int .i64 0,.int .i64 0,.int .i64 0,.int .i64 0,.int .i64 0,.int .i64 0,.int .i64 0,.int .i64 0,.int .i64 0,.int .i64 0,.int .i64 0,.int .i64 0,.int .i64 0,.int .i64 0,.int .i64 0,.int .i64 0,.int .i64 0,.int .i64 0,.int .i64 0,.int .i64 0,.int .i64 0,.int .i64 0,.int .i64 0,.int .i64 0,.int .i64 0,.int .i64 0,.int .i64 0,.int .i64 0,.int .i64 0] cs.toArray hinfo (by simp[hcl]) (by simpa using hone);go_wp2_with (refine wpList_load_row rfl 246 _ rfl b rfl 246 cs.toArray (0,0) _ hcsr Tryz.underlying246 rfl hinfo ?_)
   go_roundw
   case rel=>
    refine⟨i+1,_,by omega,by go_num,HF3,qA ⟨fun k hk=>?_,fun k hk=>?_⟩⟩
    {
    by_cases h:k=i
    · subst h;rw[cE,HB.out];simp
    · rw[bY h];exact HN.out.1 k (by omega)}
    · rw[bY (by omega)];exact HN.out.2 k (by omega)
   case measure=>simp[intOf];omega}}
   {
   obtain rfl:i=m:=by omega
   go_wp2
   go_ret;refine⟨hc,rfl,hB slots hc (.slice au n cu) dr bs', ⟨e,pl,.slice au n cu,dr,i,bs', ⟨by rw[<-HMm.out];exact HF.out.hd,HF.out.it,by rw[<-HMm.out];exact HF.out.dir,fun k b hk hb=>(HF.out.bl k b (by rw[HMm.out];exact hk) hb).1,fun k hk hb=>HM.out.none_ k hk ((HN.out.1 k (by rw[HMm.out];exact hk)).1 hb),hle,HM.out.nb,HM.out.pb,HF.out.a3,fun e=>(HF.out.a4 _ e).2.1 rfl,fun e=>(HF.out.a4 _ e).2.2 rfl,fun k b hk hb=>(HF.out.bl k b (by rw[HMm.out];exact hk) hb).2.2,fun k k' b hk hk' =>HF.out.inj k k' b (by rw[HMm.out];exact hk) (by rw[HMm.out];exact hk')⟩,HK.out.1,HK.out.2.1,HK.out.2.2,rfl⟩,HF.out.fr,fun b hb=>?_⟩;rcases dQ.1 hb with rfl|rfl|hb|⟨k,hk,hb⟩
   · exact HF.out.a1
   · exact HF.out.a2
   · exact(HF.out.a4 _ hb).1
   · exact(HF.out.bl k b (by rw[HMm.out];exact hk) hb).2.1}
def cQ(w:World)(px slots:Nat)(Q:Nat->Option Int)(n:Nat)(l:List Nat):Prop:=∃ph lh,Blk w px 179 [.int .i64 slots,aP ph]/\dE w ph slots Q n lh/\px∉lh/\l=px::lh
section
variable {w w' :World} {px slots n:Nat} {Q:Nat->Option Int} {l S:List Nat}
theorem cQ.fr(h:cQ w px slots Q n l)(hf:Fr S w w')(hs:∀b∈l,b∉S):cQ w' px slots Q n l:=by
 obtain⟨ph,lh,h1,h2,h3,rfl⟩:=h;exact⟨ph,lh,hf.blk h1 (hs _ (by simp)),h2.fr hf (fun b hb=>hs b (by simp[hb])),h3,rfl⟩
theorem cQ.fr0(h:cQ w px slots Q n l)(hf:Fr [] w w'):cQ w' px slots Q n l:=h.fr hf (by simp)
theorem cQ.lt(h:cQ w px slots Q n l):∀b∈l,b<w.heap.size:=by
 obtain⟨ph,lh,h1,h2,h3,rfl⟩:=h;intro b hb;rcases qB.1 hb with rfl|hb
 · exact h1.lt
 · exact h2.lt b hb
theorem aUY(slots:Nat)(w:World)(hs:slots<=65536):
    Calls Tryz.prog 85 #[.int .i64 slots] w fun e w' =>∃px,e=.returned (.tuple #[aP px,.int .i64 0])/\∃l,cQ w' px slots (fun _=>none) 0 l/\Fr [] w w' /\ ∀b∈l,w.heap.size<=b:=by
 have HN:=qA (aNH slots w hs);go_enter Tryz.func85,Tryz.ntmps85
 go_wp2_with fail
 refine HN.out.mono ?_;rintro _ w1 ⟨ph,rfl,lh,h1,h2,h3⟩;have H1:=qA (zI h1 (zI h2 h3));clear h1 h2 h3;go_wp2
 go_ret2;have hs1:=H1.out.2.1.size;have hb:=Blk.new w1 [.int .i64 slots,aP ph] 179;have hF:Fr [] w1 (w1.alloc (.cells #[.int .i64 slots,aP ph] 179)):=(Fr.refl [] w1).alloc _;refine⟨w1.heap.size,rfl,_,⟨ph,lh,hb,H1.out.1.fr hF (by simp),fun hm=>by have:=H1.out.1.lt _ hm;omega,rfl⟩,H1.out.2.1.trans' hF,fun b hb=>?_⟩;rcases qB.1 hb with rfl|hb
 · exact hs1
 · exact H1.out.2.2 b hb
theorem pQ(h:cQ w px slots Q n l):Calls Tryz.prog 120 #[aP px] w fun e w' =>e=.returned (.bool true)/\w' =w:=by
 obtain⟨ph,lh,h1,h2,h3,rfl⟩:=h;have c1:=h1.cell 1;simp only[zJ,zK]at c1;clear h1 h2 h3;go_enter Tryz.func120,Tryz.ntmps120
 go_wp2
 go_ret;exact⟨rfl,rfl⟩
theorem aRP(h:cQ w px slots Q n l):
    Calls Tryz.prog 156 #[aP px] w fun r w' =>Fr [] w w' /\ ((n=0/\r=.returned (.tuple #[.agg #[.int .i64 0,.int .i64 0],.bool false])) ∨
      (0<n/\∃i k,Q i=some k/\(∀j x,Q j=some x->¬elt (j,x) (i,k))/\r=.returned (.tuple #[.agg #[.int .i64 (i:Nat),.int .i64 k],.bool true]))):=by
 have hf0:Fr [] w (w.alloc (.cells #[.int .i64 0,.int .i64 0] 223)):=(Fr.refl _ _).alloc _;have HBX:=qA (Blk.new w [.int .i64 0,.int .i64 0] 223);have HV:=qA (pQ (h.fr0 hf0));obtain⟨ph,lh,h1,h2,h3,rfl⟩:=h;have HM:=qA (aCI (h2.fr hf0 (by simp)));have c1:=(hf0.blk h1 (by simp)).cell 1;simp only[zJ,zK]at c1;clear h1 h2 h3 hf0;go_enter Tryz.func156,Tryz.ntmps156
 go_wp2_with fail
 refine HV.out.mono ?_;rintro _ w0 ⟨rfl,rfl⟩;go_wp2_with fail
 refine HM.out.mono ?_;rintro r w1 ⟨f1,hr⟩;have k1:=f1.blk HBX.out (by simp);have z0:=k1.frozen 0;have z1:=k1.frozen 1;have x0:=k1.cell 0;have x1:=k1.cell 1;simp only[zJ,zK]at x0 x1;have HF1:=qA f1;have HK1:=qA k1;clear f1 k1 HV HM;rcases hr with⟨hn,rfl⟩|⟨hn,i,k,h1,h2,rfl⟩
 {
 have Hn:=qA hn;clear hn;go_wp2
 have hK:=((HK1.out.set 0 (.int .i64 0)).set 1 (.int .i64 0));have r0:=hK.cell 0;have r1:=hK.cell 1;simp only[qY,qU,zJ,zK]at r0 r1;refine bodyPost_ret (v:=.tuple #[.agg #[.int .i64 0,.int .i64 0],.bool false]) (by simp[results,Tryz.results156,go_sem,r0,r1]) rfl ?_;exact⟨((((Fr.refl [] w).alloc _).trans' HF1.out).setCell _ _ (.inr (qK _))).setCell _ _ (.inr (qK _)),.inl ⟨Hn.out,rfl⟩⟩}
 {
 have Hn:=qA (zI hn (zI h1 h2));clear hn h1 h2;go_wp2
 have hK:=((HK1.out.set 0 (.int .i64 (i:Int))).set 1 (.int .i64 k));have r0:=hK.cell 0;have r1:=hK.cell 1;simp only[qY,qU,zJ,zK]at r0 r1;refine bodyPost_ret (v:=.tuple #[.agg #[.int .i64 i,.int .i64 k],.bool true]) (by simp[results,Tryz.results156,go_sem,r0,r1]) rfl ?_;exact⟨((((Fr.refl [] w).alloc _).trans' HF1.out).setCell _ _ (.inr (qK _))).setCell _ _ (.inr (qK _)),.inr ⟨Hn.out.1,i,k,Hn.out.2.1,Hn.out.2.2,rfl⟩⟩}
end
abbrev gL(p:Nat):Value:=.pointer (some ⟨p,0,none⟩)
def lX(a b:Int):Int:=if a+b<=9223372036854775807 then 0 else 7
def vJ(a b:Int):Int:=if a+b<=9223372036854775807 then a+b else 0
theorem aXP(a b:Int)(ha:-9223372036854775808<=a)(ha2:a<=9223372036854775807)(hb:0<=b)(hb2:b<=9223372036854775807)(w:World):
    Calls Tryz.prog 170 #[.int .i64 a,.int .i64 b] w fun e w' =>e=.returned (.tuple #[.int .i64 (vJ a b),.int .i64 (lX a b)])/\w' =w:=by
 have d2:decide (b<0)=false:=qF (by omega);by_cases hs:a+b<=9223372036854775807
 {
 have hw:IntKind.i64.wrap (a+b)=a+b:=zG _ (by omega);have e1:vJ a b=a+b:=qD hs;have e2:lX a b=0:=qD hs;rw[e1,e2];by_cases h0:a<0
 {
 have d1:decide (a<0)=true:=qG h0;clear hs e1 e2;go_enter Tryz.func170,Tryz.ntmps170
 go_wp2
 go_ret2;exact⟨rfl,rfl⟩}
 {
 have d1:decide (a<0)=false:=qF h0;have d3:decide (a+b<0)=false:=qF (by omega);clear hs e1 e2;go_enter Tryz.func170,Tryz.ntmps170
 go_wp2
 go_ret2;exact⟨rfl,rfl⟩}}
 {
 have h0:¬a<0:=by omega
 have hw:IntKind.i64.wrap (a+b)=a+b-18446744073709551616:=by simp[IntKind.wrap,IntKind.bits,IntKind.signed];omega
 have d1:decide (a<0)=false:=qF h0;have d3:decide (a+b-18446744073709551616<0)=true:=qG (by omega);have e1:vJ a b=0:=qC hs;have e2:lX a b=7:=qC hs;rw[e1,e2];clear hs e1 e2;go_enter Tryz.func170,Tryz.ntmps170
 go_wp2
 go_ret2;exact⟨rfl,rfl⟩}
structure Clk (w:World) (pc:Nat) (m now:Int):Prop where
  hd:Blk w pc 157 [.int .i64 m,.int .i64 now]
  m1:1<=m
  m2:m<=9223372036854775807
  n0:0<=now
  n1:now+m<=9223372036854775807
section
variable {w w' :World} {pc:Nat} {m now:Int}
theorem Clk.fr{S:List Nat}(h:Clk w pc m now)(hf:Fr S w w')(hs:pc∉S):Clk w' pc m now:=⟨hf.blk h.hd hs,h.m1,h.m2,h.n0,h.n1⟩
theorem Clk.fr0(h:Clk w pc m now)(hf:Fr [] w w'):Clk w' pc m now:=h.fr hf (by simp)
theorem aUZ(m:Int)(h1:1<=m)(h2:m<=9223372036854775807)(w:World):Calls Tryz.prog 83 #[.int .i64 m] w fun e w' =>∃pc,e=.returned (.tuple #[gL pc,.int .i64 0])/\Clk w' pc m 0/\Fr [] w w' /\ pc=w.heap.size:=by
 have d1:decide (m<1)=false:=qF (by omega);go_enter Tryz.func83,Tryz.ntmps83
 go_wp2
 go_ret2;exact⟨w.heap.size,rfl,⟨Blk.new w [.int .i64 m,.int .i64 0] _,h1,h2,Int.le_refl _,by omega⟩,(Fr.refl [] w).alloc _,rfl⟩
theorem lY(h:Clk w pc m now):Calls Tryz.prog 102 #[gL pc] w fun e w' =>e=.returned (.bool true)/\w' =w:=by
 have c0:=h.hd.cell 0;simp only[zJ]at c0;have d1:decide (m≥1)=true:=qG h.m1;clear h;go_enter Tryz.func102,Tryz.ntmps102
 go_wp2
 go_ret;exact⟨rfl,rfl⟩
theorem aVA(h:Clk w pc m now):Calls Tryz.prog 64 #[gL pc] w fun e w' =>e=.returned (.int .i64 now)/\w' =w:=by
 have HV:=qA (lY h);have c1:=h.hd.cell 1;simp only[zJ,zK]at c1;clear h;go_enter Tryz.func64,Tryz.ntmps64
 go_wp2_with fail
 refine HV.out.mono ?_;rintro _ w ⟨rfl,rfl⟩;go_wp2
 go_ret;exact⟨rfl,rfl⟩
theorem aAF(h1:1<=m)(h2:m<=9223372036854775807)(t:Int)(ht:-9223372036854775808<=t)(ht2:t<=9223372036854775807)(w:World):Calls Tryz.prog 132 #[.int .i64 m,.int .i64 t] w fun e w' =>e=.returned (.tuple #[.int .i64 (vJ t m),.int .i64 (lX t m)])/\w' =w:=by
 have HA:=qA (aXP t m ht ht2 (by omega) h2 w);clear h1 h2 ht ht2;go_enter Tryz.func132,Tryz.ntmps132
 go_wp2_with fail
 refine HA.out.mono ?_;rintro _ w ⟨rfl,rfl⟩;go_wp2
 go_ret2;exact⟨rfl,rfl⟩
def dL(m now t:Int):Int:=if t<now then 10 else lX t m
theorem lZ(h:Clk w pc m now)(t:Int)(ht:-9223372036854775808<=t)(ht2:t<=9223372036854775807):Calls Tryz.prog 111 #[gL pc,.int .i64 t] w fun e w' =>e=.returned (.int .i64 (dL m now t))/\w' =w:=by
 have HV:=qA (lY h);have HA:=qA (aAF h.m1 h.m2 t ht ht2 w);have c0:=h.hd.cell 0;have c1:=h.hd.cell 1;simp only[zJ,zK]at c0 c1;clear h;unfold dL;by_cases hlt:t<now
 {
 have d1:decide (t<now)=true:=qG hlt;rw[qD hlt];clear hlt;go_enter Tryz.func111,Tryz.ntmps111
 go_wp2_with fail
 refine HV.out.mono ?_;rintro _ w ⟨rfl,rfl⟩;go_wp2
 go_ret;exact⟨rfl,rfl⟩}
 {
 have d1:decide (t<now)=false:=qF hlt;rw[qC hlt];clear hlt;generalize lX t m=cc at *;generalize vJ t m=vv at *;go_enter Tryz.func111,Tryz.ntmps111
 go_wp2_with fail
 refine HV.out.mono ?_;rintro _ w ⟨rfl,rfl⟩;go_wp2_with fail
 refine HA.out.mono ?_;rintro _ w ⟨rfl,rfl⟩;go_wp2
 go_ret;exact⟨rfl,rfl⟩}
theorem aHM(h:Clk w pc m now)(t:Int)(ht:-9223372036854775808<=t)(ht2:t<=9223372036854775807)(hc:dL m now t≠0):Calls Tryz.prog 88 #[gL pc,.int .i64 t] w fun e w' =>e=.returned (.int .i64 (dL m now t))/\w' =w:=by
 have HC:=qA (lZ h t ht ht2);clear h;generalize dL m now t=cc at *;have d1:(cc == 0)=false:=by simp[hc]
 clear hc;go_enter Tryz.func88,Tryz.ntmps88
 go_wp2_with fail
 refine HC.out.mono ?_;rintro _ w ⟨rfl,rfl⟩;go_wp2
 go_ret;exact⟨rfl,rfl⟩
theorem mY{m now t:Int}(hc:dL m now t=0):now<=t/\t+m<=9223372036854775807:=by
 unfold dL lX at hc;split at hc
 · cases hc
 {
 split at hc
 · omega
 · cases hc}
theorem aCS(h:Clk w pc m now)(t:Int)(ht:-9223372036854775808<=t)(ht2:t<=9223372036854775807)(hc:dL m now t=0):Calls Tryz.prog 88 #[gL pc,.int .i64 t] w fun e w' =>e=.returned (.int .i64 0)/\Clk w' pc m t/\Fr [pc] w w' :=by
 have hC:=lZ h t ht ht2;have hk:=mY hc;rw[hc]at hC;have HC:=qA hC;clear hC;have c1:=h.hd.cell 1;have f1:=h.hd.frozen 1;simp only[zJ,zK]at c1;have HR:=qA (show Clk (w.setCell ⟨pc,1,none⟩ (.int .i64 t)) pc m t from⟨h.hd.set 1 _,h.m1,h.m2,by have:=h.n0;omega,hk.2⟩);clear h hc hk;go_enter Tryz.func88,Tryz.ntmps88
 go_wp2_with fail
 refine HC.out.mono ?_;rintro _ w ⟨rfl,rfl⟩;go_wp2
 go_ret;exact⟨rfl,HR.out,(Fr.refl _ _).setCell _ _ (.inl (by simp))⟩
theorem aVB(h:Clk w pc m now)(t:Int)(ht:-9223372036854775808<=t)(ht2:t<=9223372036854775807):Calls Tryz.prog 134 #[gL pc,.int .i64 t] w fun e w' =>e=.returned (.tuple #[.int .i64 (vJ t m),.int .i64 (lX t m)])/\w' =w:=by
 have HV:=qA (lY h);have HA:=qA (aAF h.m1 h.m2 t ht ht2 w);have c0:=h.hd.cell 0;simp only[zJ]at c0;clear h;generalize lX t m=cc at *;generalize vJ t m=vv at *;go_enter Tryz.func134,Tryz.ntmps134
 go_wp2_with fail
 refine HV.out.mono ?_;rintro _ w ⟨rfl,rfl⟩;go_wp2_with fail
 refine HA.out.mono ?_;rintro _ w ⟨rfl,rfl⟩;go_wp2
 go_ret2;exact⟨rfl,rfl⟩
theorem aRQ(h:Clk w pc m now):Calls Tryz.prog 75 #[gL pc] w fun e w' =>∃pc', e=.returned (gL pc')/\Clk w' pc' m now/\Fr [] w w' /\ pc' =w.heap.size:=by
 have HV:=qA (lY h);have c0:=h.hd.cell 0;have c1:=h.hd.cell 1;simp only[zJ,zK]at c0 c1;have HR:=qA (show Clk (w.alloc (.cells #[.int .i64 m,.int .i64 now] 157)) w.heap.size m now from⟨Blk.new w [.int .i64 m,.int .i64 now] _,h.m1,h.m2,h.n0,h.n1⟩);clear h;go_enter Tryz.func75,Tryz.ntmps75
 go_wp2_with fail
 refine HV.out.mono ?_;rintro _ w ⟨rfl,rfl⟩;go_wp2
 go_ret;exact⟨w.heap.size,rfl,HR.out,(Fr.refl [] w).alloc _,rfl⟩
end
structure Wp where
  m:Int
  E:Nat
  V:Nat
  D:Int
  now:Int
  s:Sm
  Q:Nat->Option Int
  nq:Nat
  G:Nat->Option (Nat×Nat×Int)
  added:Nat
  gone:Nat
def bZ(pw pc:Nat)(Ks lx Lf:List Nat):List Nat:=pw::pc::(Ks++(lx++Lf))
structure cU (w:World) (pw pc ps px pf:Nat) (P:Wp) (Ks lx Lf:List Nat) (cl:Nat->Nat):Prop where
  hd:Blk w pw 38 [.int .i64 P.m,.int .i64 P.E,.int .i64 P.V,.int .i64 P.D,gL pc,fF ps,aP px,cH pf,.int .u64 P.added,.int .u64 P.gone]
  clk:Clk w pc P.m P.now
  st:bA w ps P.s Ks
  sch:cQ w px P.E P.Q P.nq lx
  fo:FAt w pf P.E P.V P.G Lf
  kw:cl pw=0
  kc:cl pc=1
  ks:∀q∈Ks,cl q=2
  kx:∀q∈lx,cl q=3
  kf:∀q∈Lf,cl q=4
section
variable {w w' :World} {pw pc ps px pf:Nat} {P:Wp} {Ks Ks' lx lx' Lf Lf' S:List Nat} {cl:Nat->Nat}
theorem cU.fr(h:cU w pw pc ps px pf P Ks lx Lf cl)(hf:Fr S w w')(hs:∀q∈bZ pw pc Ks lx Lf,q∉S):cU w' pw pc ps px pf P Ks lx Lf cl:=
  ⟨hf.blk h.hd (hs _ (by simp[bZ])),h.clk.fr hf (hs _ (by simp[bZ])),h.st.fr hf (fun q hq=>hs q (by simp[bZ,hq])),h.sch.fr hf (fun q hq=>hs q (by simp[bZ,hq])),h.fo.fr hf (fun q hq=>hs q (by simp[bZ,hq])),h.kw,h.kc,h.ks,h.kx,h.kf⟩
theorem cU.fr0(h:cU w pw pc ps px pf P Ks lx Lf cl)(hf:Fr [] w w'):cU w' pw pc ps px pf P Ks lx Lf cl:=h.fr hf (by simp)
theorem cU.lt(h:cU w pw pc ps px pf P Ks lx Lf cl):∀q∈bZ pw pc Ks lx Lf,q<w.heap.size:=by
 intro q hq;simp only[bZ,qB,qE]at hq;rcases hq with rfl|rfl|hq|hq|hq
 · exact h.hd.lt
 · exact h.clk.hd.lt
 · exact h.st.lt q hq
 · exact h.sch.lt q hq
 · exact h.fo.lt q hq
theorem gM{k n:Nat}{cl:Nat->Nat}{q j:Nat}(h1:q<n)(h2:cl q=j):(if q<n then cl q else k)=j:=by rw[qD h1];exact h2
theorem aAG{A A' :List Nat}{n k:Nat}{cl:Nat->Nat}(h:∀q∈A,cl q=k)(hl:∀q∈A,q<n)(hq:∀q∈A', q∈A∨n<=q):∀q∈A', (if q<n then cl q else k)=k:=by
 intro q hm;rcases hq q hm with e|e
 · exact gM (hl q e) (h q e)
 · rw[qC (by omega)]
theorem cU.setSt(h:cU w pw pc ps px pf P Ks lx Lf cl){s' :Sm}(hs:bA w' ps s' Ks')(hF:Fr Ks w w')(hq:∀q∈Ks', q∈Ks∨w.heap.size<=q):∃cl', cU w' pw pc ps px pf { P with s:=s' } Ks' lx Lf cl' :=by
 refine⟨fun q=>if q<w.heap.size then cl q else 2,hF.blk h.hd (fun hm=>by have:=h.ks _ hm;have:=h.kw;omega),h.clk.fr hF (fun hm=>by have:=h.ks _ hm;have:=h.kc;omega),hs,h.sch.fr hF (fun q hq hm=>by have:=h.ks _ hm;have:=h.kx q hq;omega),h.fo.fr hF (fun q hq hm=>by have:=h.ks _ hm;have:=h.kf q hq;omega),
   gM h.hd.lt h.kw,gM h.clk.hd.lt h.kc,aAG h.ks (fun q hq=>h.st.lt q hq) hq,fun q hq=>gM (h.sch.lt q hq) (h.kx q hq),fun q hq=>gM (h.fo.lt q hq) (h.kf q hq)⟩
theorem cU.setSch(h:cU w pw pc ps px pf P Ks lx Lf cl){Q' :Nat->Option Int}{nq' :Nat}(hs:cQ w' px P.E Q' nq' lx')(hF:Fr lx w w')(hq:∀q∈lx', q∈lx∨w.heap.size<=q):∃cl', cU w' pw pc ps px pf { P with Q:=Q', nq:=nq' } Ks lx' Lf cl' :=by
 refine⟨fun q=>if q<w.heap.size then cl q else 3,hF.blk h.hd (fun hm=>by have:=h.kx _ hm;have:=h.kw;omega),h.clk.fr hF (fun hm=>by have:=h.kx _ hm;have:=h.kc;omega),h.st.fr hF (fun q hq hm=>by have:=h.kx _ hm;have:=h.ks q hq;omega),hs,h.fo.fr hF (fun q hq hm=>by have:=h.kx _ hm;have:=h.kf q hq;omega),
   gM h.hd.lt h.kw,gM h.clk.hd.lt h.kc,fun q hq=>gM (h.st.lt q hq) (h.ks q hq),aAG h.kx (fun q hq=>h.sch.lt q hq) hq,fun q hq=>gM (h.fo.lt q hq) (h.kf q hq)⟩
theorem cU.setFo(h:cU w pw pc ps px pf P Ks lx Lf cl){G' :Nat->Option (Nat×Nat×Int)}(hs:FAt w' pf P.E P.V G' Lf')(hF:Fr Lf w w')(hq:∀q∈Lf', q∈Lf∨w.heap.size<=q):∃cl', cU w' pw pc ps px pf { P with G:=G' } Ks lx Lf' cl' :=by
 refine⟨fun q=>if q<w.heap.size then cl q else 4,hF.blk h.hd (fun hm=>by have:=h.kf _ hm;have:=h.kw;omega),h.clk.fr hF (fun hm=>by have:=h.kf _ hm;have:=h.kc;omega),h.st.fr hF (fun q hq hm=>by have:=h.kf _ hm;have:=h.ks q hq;omega),h.sch.fr hF (fun q hq hm=>by have:=h.kf _ hm;have:=h.kx q hq;omega),hs,
   gM h.hd.lt h.kw,gM h.clk.hd.lt h.kc,fun q hq=>gM (h.st.lt q hq) (h.ks q hq),fun q hq=>gM (h.sch.lt q hq) (h.kx q hq),aAG h.kf (fun q hq=>h.fo.lt q hq) hq⟩
theorem cU.setClk(h:cU w pw pc ps px pf P Ks lx Lf cl){now' :Int}(hs:Clk w' pc P.m now')(hF:Fr [pc] w w'):cU w' pw pc ps px pf { P with now:=now' } Ks lx Lf cl:=by
 have hp:∀q,q∈[pc]->q=pc:=fun q hq=>by simpa using hq
 exact⟨hF.blk h.hd (fun hm=>by have:=hp _ hm;have:=h.kw;have:=h.kc;subst_vars;omega),hs,h.st.fr hF (fun q hq hm=>by have e:=hp _ hm;have:=h.ks q hq;have:=h.kc;rw[e]at *;omega),h.sch.fr hF (fun q hq hm=>by have e:=hp _ hm;have:=h.kx q hq;have:=h.kc;rw[e]at *;omega),h.fo.fr hF (fun q hq hm=>by have e:=hp _ hm;have:=h.kf q hq;have:=h.kc;rw[e]at *;omega),h.kw,h.kc,h.ks,h.kx,h.kf⟩
theorem cU.setN(h:cU w pw pc ps px pf P Ks lx Lf cl)(hF:Fr [pw] w w'){a g:Nat}(hb:Blk w' pw 38 [.int .i64 P.m,.int .i64 P.E,.int .i64 P.V,.int .i64 P.D,gL pc,fF ps,aP px,cH pf,.int .u64 a,.int .u64 g]):cU w' pw pc ps px pf { P with added:=a,gone:=g } Ks lx Lf cl:=by
 have hp:∀q,q∈[pw]->q=pw:=fun q hq=>by simpa using hq
 exact⟨hb,h.clk.fr hF (fun hm=>by have e:=hp _ hm;have:=h.kc;have:=h.kw;rw[e]at *;omega),h.st.fr hF (fun q hq hm=>by have e:=hp _ hm;have:=h.ks q hq;have:=h.kw;rw[e]at *;omega),h.sch.fr hF (fun q hq hm=>by have e:=hp _ hm;have:=h.kx q hq;have:=h.kw;rw[e]at *;omega),h.fo.fr hF (fun q hq hm=>by have e:=hp _ hm;have:=h.kf q hq;have:=h.kw;rw[e]at *;omega),h.kw,h.kc,h.ks,h.kx,h.kf⟩
end
def Wm.wp(W:Wm)(nq:Nat):Wp:={ m:=W.m,E:=W.E,V:=W.V,D:=W.D,now:=W.now,s:=W.s,Q:=W.Q,nq:=nq,G:=W.G,added:=W.s.last,gone:=W.gone }
def eK(w:World)(pw:Nat)(W:Wm)(K:List Nat):Prop:=W.Ok/\∃pc ps px pf nq Ks lx Lf cl,cU w pw pc ps px pf (W.wp nq) Ks lx Lf cl/\K=bZ pw pc Ks lx Lf
section
variable {w w' :World} {pw:Nat} {W:Wm} {K S:List Nat}
theorem eK.fr(h:eK w pw W K)(hf:Fr S w w')(hs:∀q∈K,q∉S):eK w' pw W K:=by
 obtain⟨h0,pc,ps,px,pf,nq,Ks,lx,Lf,cl,h,rfl⟩:=h;exact⟨h0,pc,ps,px,pf,nq,Ks,lx,Lf,cl,h.fr hf hs,rfl⟩
theorem eK.fr0(h:eK w pw W K)(hf:Fr [] w w'):eK w' pw W K:=h.fr hf (by simp)
theorem eK.lt(h:eK w pw W K):∀q∈K,q<w.heap.size:=by
 obtain⟨h0,pc,ps,px,pf,nq,Ks,lx,Lf,cl,h,rfl⟩:=h;exact h.lt
end
end Go.Proofs.YtjdgpcjbgjnahaaGreatDoor
