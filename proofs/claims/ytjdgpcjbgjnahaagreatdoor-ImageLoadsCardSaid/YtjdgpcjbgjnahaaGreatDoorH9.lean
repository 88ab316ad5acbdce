/- The plain model of a window: indexes stay while the time goes on. -/
import Derived.Test.YtjdgpcjbgjnahaaGreatDoorH3
import Derived.Shelf.SlGeneric
import Derived.Shelf.SlicesE.Clone
import Derived.Ground.SlgnProg
import Derived.Deep.WholeRow
import Derived.Deep.RegionHeld3
import Derived.StillTailTactics
import Derived.Test.YtjdgpcjbgjnahaaGreatDoorH8
import Derived.Test.YtjdgpcjbgjnahaaGreatDoorH7
import Derived.Shelf.SlSortCmp.WholeK
import Derived.Shelf.Lay
import Derived.Ground.SlsfProg
set_option maxRecDepth 10000
set_option maxHeartbeats 1600000
set_option linter.unusedSimpArgs false
set_option linter.unusedVariables false
/- store: Insert, when it takes the edge. -/
namespace Go.Proofs.YtjdgpcjbgjnahaaGreatDoor
open Go.RowKit
theorem aEN{M:Md}(hok:M.Ok){id:Nat}(hid:id<18446744073709551616)(hf:aBQ M id){iv:Int->Option Value}{f:List Nat}(h1:(iv id).isSome=true↔f≠[])(h2:(M.find id).isSome=true↔f≠[]):
    (if (iv id).isSome=true then M.L.length else M.L.length+1)=(M.put id).M.L.length:=by
 rw[(kN hok hid hf).2.2.1];by_cases e:f=[]
 · rw[qC (fun h=>h1.1 h e),qC (fun h=>h2.1 h e)]
 · rw[qD (h1.2 e),qD (h2.2 e)];rfl
theorem vN(p:List Nat)(i:Nat):oV (p++[i])=oV p++[.int .i64 i]:=by simp[oV]
theorem aJV{w w7 wo:World}{ps pa pt mb n n' sl q1 u v:Nat}{wt t x:Int}{vl vb:Value}{s:Sm}{la la' lT lb:List Nat}{c c7:Nat->Nat}(HB:StB w ps pa pt mb n vl s la lT lb c)(hck:s.chk u v=0)(hu:u<18446744073709551616)(hv:v<18446744073709551616)
    (hll:s.last+1<18446744073709551616) (hsl:sl=s.slot) (hq1:q1=s.last+1)
    (HS2:uC w7 ps pt mb vb la' lT lb (uD s.M u v 2) (mF (dQ s.L) u v sl 2) (uD s.M u v 2).L.length wo)
    (HD7:Blk w7 ps 145 [.int .i64 s.V,.int .i64 s.E,.int .u64 q1,ptr pa,ptr pt,vb,.map (some mb)])
    (hA7:bB w7 pa s.A.alloc la') (hr7:bN w7 vb ((List.range n').map (bM (s.L++[⟨sl,q1,u,v,wt,t,x⟩])))) (hF7:Fr (ps::(la++vl.ownBlock.toList)) w w7) (HCL:Cls c7 ps mb vb la' lT lb)
    (hA1:∀q∈la', q∈la∨w.heap.size+2<=q) (hV1:∀q,vb.ownBlock=some q->vl.ownBlock=some q∨w.heap.size+2<=q) (hs7:w.heap.size+2<=w7.heap.size) (hnn:n<=n') (hgt:sl<n') (hn' :n' <= s.E):
    ∃K', bG (Go.Proofs.YtjdgpcjbgjnahaaGreatDoor.put7 wo (w.heap.size+1) 0 ⟨sl,q1,u,v,wt,t,x⟩) ps (s.ins u v wt t x) K' /\ Fr (stK ps mb vl la lT lb) w (Go.Proofs.YtjdgpcjbgjnahaaGreatDoor.put7 wo (w.heap.size+1) 0 ⟨sl,q1,u,v,wt,t,x⟩)/\∀q∈K', q∈stK ps mb vl la lT lb∨w.heap.size<=q:=by
 subst hsl hq1;have HLT:=HB.lt;have hput:Fr [w.heap.size+1] wo (Go.Proofs.YtjdgpcjbgjnahaaGreatDoor.put7 wo (w.heap.size+1) 0 ⟨s.slot,s.last+1,u,v,wt,t,x⟩):=(Fr.refl _ _).put7 _ _ _ (.inl (by simp));have hE:(⟨s.slot,s.last+1,u,v,wt,t,x⟩:Lv)=s.edge u v wt t x:=rfl;have hUV:=(Sm.chk_ok HB.ok hck).1;have hFr:=HS2.fr;obtain⟨lT', lb', c', hc', hT', hI', hF', h5', h6'⟩:=HS2;have hs1:=hFr.size;have hpsw' :ps<w.heap.size:=HLT ps (by simp[stK]);have hmbw:mb<w.heap.size:=HLT mb (by simp[stK]);have hTw:∀q∈lT,q<w.heap.size:=fun q hq=>HLT q (by simp[stK,hq]);have hBw:∀q∈lb,q<w.heap.size:=fun q hq=>HLT q (by simp[stK,hq]);have hAn:∀q∈la', q∉mb::(lT++lb):=fun q hq hm=>by
   have a1:=HCL.a q hq;simp only[qB,qE]at hm;rcases hm with rfl|e|e
   · have:=HCL.m;omega
   · have:=HCL.t q e;omega
   · have:=HCL.b q e;omega
 have hVn:∀q,vb.ownBlock=some q->q∉mb::(lT++lb):=fun q hq hm=>by
   have a1:=HCL.l q hq;simp only[qB,qE]at hm;rcases hm with rfl|e|e
   · have:=HCL.m;omega
   · have:=HCL.t q e;omega
   · have:=HCL.b q e;omega
 have hnx:∀q:Nat,(q<w.heap.size∨w.heap.size+2<=q)->q∉[w.heap.size+1]:=fun q hq hm=>by
   rw[qH]at hm;omega
 have hLa:∀q∈la,q<w.heap.size:=fun q hq=>HLT q (by simp[stK,hq]);have hLv:∀q,vl.ownBlock=some q->q<w.heap.size:=fun q hq=>HLT q (by simp[stK,hq]);have hPN:ps∉mb::(lT++lb):=fun hm=>by
   have a1:=HCL.p;simp only[qB,qE]at hm;rcases hm with e|e|e
   · have:=HCL.m;rw[<-e]at this;omega
   · have:=HCL.t ps e;omega
   · have:=HCL.b ps e;omega
 have hok:=Sm.ok_ins HB.ok hu hv hck hll wt t x;have hins:mF (dQ s.L) u v s.slot 2=dQ (s.L++[s.edge u v wt t x]):=by exact aHZ (e:=s.edge u v wt t x) hUV
 refine⟨_,⟨pa,pt,mb,n', _,la', lT', lb', c', ⟨?_,?_,?_,?_,?_,?_,hn', hok,hc'⟩,rfl⟩,?_,?_⟩
 · exact hput.blk (hFr.blk HD7 hPN) (hnx ps (.inl hpsw'))
 · exact(hA7.fr hFr hAn).fr hput (fun q hq=>hnx q ((hA1 q hq).imp (hLa q) (fun e=>e)))
 · exact hT'.fr hput (fun q hq=>hnx q ((h5' q hq).imp (hTw q) (fun e=>by omega)))
 {
 have:=(hr7.fr hFr hVn).fr hput (fun q hq=>hnx q ((hV1 q hq).imp (hLv q) (fun e=>e)));exact this}
 {
 rw[hins]at hI';exact hI'.fr hput (hnx mb (.inl hmbw)) (fun q hq=>hnx q ((h6' q hq).imp (hBw q) (fun e=>by omega)))}
 {
 intro e he;rcases qE.1 he with he|he
 · have:=HB.sn e he;omega
 {
 rw[qH]at he;rw[he,<-hE];exact hgt}}
 {
 refine((hF7.mono (S' :=stK ps mb vl la lT lb) (fun q hq=>.inl ?_)).trans hFr (fun q hq=>.inl ?_)).put7 _ _ _ (.inr (by omega))
 {
 simp only[qB,qE,Option.mem_toList]at hq;rcases hq with e|e|e<;>simp[stK,e]}
 {
 simp only[qB,qE]at hq;rcases hq with e|e|e<;>simp[stK,e]}}
 {
 intro q hq;simp only[stK,qB,qE,Option.mem_toList]at hq;rcases hq with e|e|((e|e)|e)|e
 · exact .inl (by simp[stK,e])
 · exact .inl (by simp[stK,e])
 · exact(hA1 q e).imp (fun e=>by simp[stK,e]) (fun e=>by omega)
 · exact(h5' q e).imp (fun e=>by simp[stK,e]) (fun e=>by omega)
 · exact(hV1 q e).imp (fun e=>by simp[stK,e]) (fun e=>by omega)
 · exact(h6' q e).imp (fun e=>by simp[stK,e]) (fun e=>by omega)}
section
variable {w w' :World} {ps:Nat} {s:Sm} {K:List Nat}
theorem aCN(h:bG w ps s K)(u v:Nat)(hu:u<18446744073709551616)(hv:v<18446744073709551616)(wt t x:Int)(hc:s.chk u v=0)(hl:s.last+1<18446744073709551616):
    Calls Tryz.prog 135 #[iM ps,aBW u v wt t,.int .i64 x] w fun e w' =>e=.returned (.tuple #[lvA (s.edge u v wt t x),.int .i64 0])/\∃K', bG w' ps (s.ins u v wt t x) K' /\ Fr K w w' /\ ∀q∈K', q∈K∨w.heap.size<=q:=by
 obtain⟨pa,pt,mb,n,vl,la,lT,lb,c,hB,rfl⟩:=id h;have H:=qA h;have HCK:=qA hc;have HLL:=qA hl;have hn:=Sm.slot_next hB.ok hc;obtain⟨hnu,hiff⟩:=Md.isUsed_alloc' hB.ok.ar hn;obtain⟨sl,hsl⟩:∃sl,sl=s.slot:=⟨_,rfl⟩;rw[<-hsl]at hn hnu hiff;have hslE:sl<s.E:=by rw[<-hB.ok.sl];exact sD hB.ok.ar hn
 have hE:=hB.ok.leE;have hltw:=hB.lt;have hlast:IntKind.u64.wrap ((s.last:Int)+1)=((s.last+1:Nat):Int):=by simp[IntKind.wrap,IntKind.bits,IntKind.signed];omega
 have HB:=qA hB;have HSL:=qA hsl;have HLT:=qA hltw;have HNU:=qA (zI hn (zI hnu hiff));clear h hc hB hn hnu hiff hsl hltw hl;go_enter Tryz.func135,Tryz.ntmps135
 go_wp2_with fail
 have hf0:Fr [] w ((w.alloc (.cells #[.int .u64 u,.int .u64 v,.int .i64 wt,.int .i64 t] 72)).alloc (.cells #[.int .i64 0,.int .u64 0,.int .u64 0,.int .u64 0,.int .i64 0,.int .i64 0,.int .i64 0] 74)):=((Fr.refl [] w).alloc _).alloc _;have hbx:Blk ((w.alloc (.cells #[.int .u64 u,.int .u64 v,.int .i64 wt,.int .i64 t] 72)).alloc (.cells #[.int .i64 0,.int .u64 0,.int .u64 0,.int .u64 0,.int .i64 0,.int .i64 0,.int .i64 0] 74)) (w.heap.size+1) 74 [.int .i64 0,.int .u64 0,.int .u64 0,.int .u64 0,.int .i64 0,.int .i64 0,.int .i64 0]:=by {
 have:=Blk.new (w.alloc (.cells #[.int .u64 u,.int .u64 v,.int .i64 wt,.int .i64 t] 72)) [.int .i64 0,.int .u64 0,.int .u64 0,.int .u64 0,.int .i64 0,.int .i64 0,.int .i64 0] 74;simpa using this};have hbr:Blk ((w.alloc (.cells #[.int .u64 u,.int .u64 v,.int .i64 wt,.int .i64 t] 72)).alloc (.cells #[.int .i64 0,.int .u64 0,.int .u64 0,.int .u64 0,.int .i64 0,.int .i64 0,.int .i64 0] 74)) w.heap.size 72 [.int .u64 u,.int .u64 v,.int .i64 wt,.int .i64 t]:=(Blk.new w _ _).alloc _;have hs1:((w.alloc (.cells #[.int .u64 u,.int .u64 v,.int .i64 wt,.int .i64 t] 72)).alloc (.cells #[.int .i64 0,.int .u64 0,.int .u64 0,.int .u64 0,.int .i64 0,.int .i64 0,.int .i64 0] 74)).heap.size=w.heap.size+2:=by simp
 have HC:=yU (H.out.fr0 hf0) u v hu hv wt t;rw[HCK.out]at HC;have HC:=qA HC;generalize (w.alloc (.cells #[.int .u64 u,.int .u64 v,.int .i64 wt,.int .i64 t] 72)).alloc (.cells #[.int .i64 0,.int .u64 0,.int .u64 0,.int .u64 0,.int .i64 0,.int .i64 0,.int .i64 0] 74)=w1 at *;refine HC.out.mono ?_;rintro _ w2 ⟨rfl,h2⟩;have hF2:=hf0.trans' h2;have c3:=(hF2.blk HB.out.hd (by simp)).cell 3;simp only[zJ,zK]at c3;have HX:=qA (zI hF2 (zI (h2.blk hbx (by simp)) (zI (h2.blk hbr (by simp)) (show w.heap.size+2<=w2.heap.size by have:=h2.size;omega))));have HA:=qA (iR (HB.out.fr hF2 (by simp)).ar HNU.out.1);clear hf0 h2 hbx hbr hs1 HC hF2;go_wp2_with fail
 refine HA.out.mono ?_;rintro _ w3 ⟨rfl,la', hA3,hF3,hn3⟩;clear HA c3;have hla:∀b∈la,b<w.heap.size:=fun b hb=>HLT.out b (by simp[stK,hb]);have hpl:ps∉la:=fun hm=>by have e1:=HB.out.cls.a ps hm;have e2:=HB.out.cls.p;omega
 have hd3:=hF3.blk (HX.out.1.blk HB.out.hd (by simp)) hpl;have hx3:=hF3.blk HX.out.2.1 (fun hm=>by have:=hla _ hm;omega);have hr3:=hF3.blk HX.out.2.2.1 (fun hm=>by have:=hla _ hm;omega);have hs3:w.heap.size+2<=w3.heap.size:=by have h1:=HX.out.2.2.2;have h2:=hF3.size;omega
 have c2:=hd3.cell 2;have z2:=hd3.frozen 2;simp only[zJ,zK]at c2;have HX3:=qA (zI hd3 (zI hx3 (zI hr3 (zI hA3 (zI hF3 hn3)))));clear hd3 hx3 hr3 hA3 hF3 hn3 hla hpl;have hpsw:ps<w.heap.size:=HLT.out ps (by simp[stK]);have HR3:=qA HX3.out.2.2.1;have p0:=HR3.out.cell 0;have p1:=HR3.out.cell 1;have p2:=HR3.out.cell 2;have p3:=HR3.out.cell 3;simp only[zJ,zK]at p0 p1 p2 p3;have hne:ps≠w.heap.size:=by omega
 go_wp2_with fail
 obtain⟨q1,hq1⟩:∃q1:Nat,q1=s.last+1:=⟨_,rfl⟩;rw[show(s.last:Int)+1=(q1:Nat) by omega];have HQ1:=qA hq1;clear hq1 hlast;have hF4:Fr (ps::la) w2 (w3.setCell ⟨ps,2,none⟩ (.int .u64 q1)):=(HX3.out.2.2.2.2.1.mono (by simp +contextual)).setCell _ _ (.inl (by simp));have hd4:=HX3.out.1.set 2 (.int .u64 q1);have hx4:=HX3.out.2.1.other ⟨ps,2,none⟩ (.int .u64 q1) (by show w.heap.size+1≠ps;omega);have hr4:=HX3.out.2.2.1.other ⟨ps,2,none⟩ (.int .u64 q1) (by show w.heap.size≠ps;omega);have hA4:=bB.same HX3.out.2.2.2.1 (w' :=w3.setCell ⟨ps,2,none⟩ (.int .u64 q1)) (fun b hb=>Below.heap_setCell _ _ _ _ (fun e=>by
   rcases HX3.out.2.2.2.2.2 b hb with e1|e1
   · have e2:=HB.out.cls.a b e1;have e3:=HB.out.cls.p;rw[e]at e2;simp at e2;omega
   · have:=HX.out.2.2.2;simp at e;omega))
 have hs4:(w3.setCell ⟨ps,2,none⟩ (.int .u64 q1)).heap.size=w3.heap.size:=by simp
 simp only[qY,qU]at hd4;have hn4:=HX3.out.2.2.2.2.2;rw[<-hs4]at hs3;clear HX3 c2 z2 p0 p1 p2 p3 HR3 hs4;generalize w3.setCell ⟨ps,2,none⟩ (.int .u64 q1)=w4 at *;have c2:=hd4.cell 2;have p0:=hr4.cell 0;have p1:=hr4.cell 1;have p2:=hr4.cell 2;have p3:=hr4.cell 3;simp only[zJ,zK]at c2 p0 p1 p2 p3;have HC4:=qA (fun(w' :World) (hf:Fr [] w4 w')=>zI (hf.cell c2 (by simp)) (zI (hf.cell p0 (by simp)) (zI (hf.cell p1 (by simp)) (zI (hf.cell p2 (by simp)) (hf.cell p3 (by simp))))));have HX4:=qA (zI hd4 (zI hx4 (zI hr4 (zI hA4 (zI hF4 hn4)))));clear hd4 hx4 hr4 hA4 hF4 hn4
 go_region_held3 (fun w' => w'.cell? ⟨ps, 2, none⟩ = some (.int .u64 q1) /\ w'.cell? ⟨w.heap.size, 0, none⟩ = some (.int .u64 u) /\ w'.cell? ⟨w.heap.size, 1, none⟩ = some (.int .u64 v) /\ w'.cell? ⟨w.heap.size, 2, none⟩ = some (.int .i64 wt) /\ w'.cell? ⟨w.heap.size, 3, none⟩ = some (.int .i64 t))
   (first
     | go_keep
     | (exact HC4.out _ ((Fr.refl [] w4).alloc _))
     | (exact HC4.out _ (((Fr.refl [] w4).alloc _).drew)))
   (fail)
 have hg5:Fr [] w4 (w4.alloc (.cells #[.int .i64 sl,.int .u64 q1,.int .u64 u,.int .u64 v,.int .i64 wt,.int .i64 t,.int .i64 x] 74)).drew:=((Fr.refl [] w4).alloc _).drew;have he5:Blk (w4.alloc (.cells #[.int .i64 sl,.int .u64 q1,.int .u64 u,.int .u64 v,.int .i64 wt,.int .i64 t,.int .i64 x] 74)).drew w4.heap.size 74 (lvC ⟨sl,q1,u,v,wt,t,x⟩):=(Blk.new w4 _ _).drew;generalize (w4.alloc (.cells #[.int .i64 sl,.int .u64 q1,.int .u64 u,.int .u64 v,.int .i64 wt,.int .i64 t,.int .i64 x] 74)).drew=w5 at *;have hs5:=hg5.size;have hlv:=HB.out.lv.fr ((HX.out.1.mono (S' :=ps::la) (by simp)).trans' (HX4.out.2.2.2.2.1.trans' (hg5.mono (by simp)))) (fun q hq hm=>by
   have e1:=HB.out.cls.l q hq;rcases qB.1 hm with rfl|hm
   · have:=HB.out.cls.p;omega
   · have:=HB.out.cls.a q hm;omega)
 have hd5:=hg5.blk HX4.out.1 (by simp);have hL0:Fr (ps::vl.ownBlock.toList) w5 w5:=Fr.refl _ _;have HW5:=qA (zI (hg5.blk HX4.out.2.1 (by simp)) (zI (hg5.blk HX4.out.2.2.1 (by simp)) (zI (HX4.out.2.2.2.1.fr hg5 (by simp)) (zI (HX4.out.2.2.2.2.1.trans' (hg5.mono (by simp))) (zI he5 hs5)))));have hvl5:∀q,vl.ownBlock=some q->q<w5.heap.size:=fun q hq=>by have:=HLT.out q (by simp[stK,hq]);omega
 have HV5:=qA hvl5;have HS0:=qA (zI hd5 (zI hlv (zI hL0 (show ∀q,vl.ownBlock=some q->vl.ownBlock=some q∨w5.heap.size<=q from fun q hq=>.inl hq))));clear hg5 he5 hlv hd5 hL0 hvl5 c2 p0 p1 p2 p3 HC4;have hnE:=HB.out.nE;go_wp2_with fail
 go_loopw [] (fun wr=>∃(n' :Nat) (v' :Value),n' <= s.E/\Hid (Blk wr ps 145 [.int .i64 s.V,.int .i64 s.E,.int .u64 q1,ptr pa,ptr pt,v', .map (some mb)]/\bN wr v' ((List.range n').map (bM s.L))/\Fr (ps::vl.ownBlock.toList) w5 wr/\∀q,v'.ownBlock=some q->vl.ownBlock=some q∨w5.heap.size<=q)/\n<=n') (fun wr=>sl+1-xA wr ps)
 case atStart=>exact⟨n,vl,hnE,HS0,qK _⟩
 case round=>
  obtain⟨n', v', hn', HS,hnn⟩:=hrel;obtain⟨av,cv,rfl⟩:∃a cap,v' =.slice a n' cap:=by simpa using HS.out.2.1.slice
  have c5:=HS.out.1.cell 5;simp only[zJ,zK]at c5;have hmeas:=sM c5;have hpsv:∀q,(Value.slice av n' cv).ownBlock=some q->ps≠q:=fun q hq e=>by
    subst e;rcases HS.out.2.2.2 ps hq with h1|h1
    · have e1:=HB.out.cls.l ps h1;have e2:=HB.out.cls.p;omega
    · have:=HW5.out.2.2.2.2.2;omega
  have HPV:=qA hpsv;have HM:=qA hmeas;clear hpsv hmeas;by_cases hle:n' <= sl
  {
  have hle' :(n' :Int)<=sl:=by omega
  have hrow:(wr.alloc (.cells (lvC Lv.z).toArray 74)).ownsRow 0 74 7 (.slice av n' cv) n' (rowV ((List.range n').map (bM s.L))):=by {
  have:=HS.out.2.1.fr0 ((Fr.refl [] wr).alloc (.cells (lvC Lv.z).toArray 74));unfold bN at this;simpa using this};have HRW:=qA hrow;have HZ:=qA (Blk.new wr (lvC Lv.z) 74);have HD:=qA (HS.out.1.alloc (.cells (lvC Lv.z).toArray 74));have H7:=qA (show ∀u∈lvC Lv.z,u.oneCell' =true by decide);have HRZ:=qA (aFS HB.out.sn hnn);have hs6:=HS.out.2.2.1.size;clear hrow;go_wp2_with (first|(at_builtin;refine iH rfl _ _ 59 rfl 74 sJ 7 56 Tryz.underlying59 Tryz.info74 rfl (by decide) (.slice av n' cv) n' _ rfl HRW.out wr.heap.size 74 (lvC Lv.z) rfl HZ.out rfl H7.out (by omega) (by decide) ?_;intro g' cap' w6 hown6 hgrow6 hg6;have hF6:Fr (Value.slice av n' cv).ownBlock.toList (wr.alloc (.cells (lvC Lv.z).toArray 74)) w6:=(Fr.refl _ _).grown hgrow6 (fun q e=>.inl (by simp[e]));have hd6:=hF6.blk HD.out (fun hm=>HPV.out _ (by simpa using hm) rfl);have c56:=hd6.cell 5;have z56:=hd6.frozen 5;simp only[zJ,zK]at c56)|fail)
  go_roundw
  case rel=>
   have hgne:ps≠g' :=fun e=>by
     rcases hg6 with h6|h6
     · exact HPV.out _ h6 e
     · simp only [World.size_alloc] at h6
       have:=HW5.out.2.2.2.2.2;omega
   refine⟨n' + 1,.slice (some ⟨g', 0,none⟩) (n' + 1) cap', by omega,qA ⟨hd6.set 5 _,?_,?_,?_⟩,by omega⟩
   {
   rw[HRZ.out];unfold bN;rw[vB];have:=cY hown6 ⟨ps,5,none⟩ (.slice (some ⟨g', 0,none⟩) (n' + 1) cap') (fun e=>hgne (by simp[Value.ownBlock]at e;exact e.symm));simpa using this}
   {
   refine((HS.out.2.2.1.alloc _).trans hF6 (fun q hq=>?_)).setCell _ _ (.inl (by simp));have hq' :(Value.slice av n' cv).ownBlock=some q:=by simpa using hq
   rcases HS.out.2.2.2 q hq' with e|e
   · exact .inl (by simp[e])
   · exact .inr e}
   {
   intro q hq;simp only[Value.ownBlock,qI]at hq;subst hq;rcases hg6 with h6|h6
   · exact HS.out.2.2.2 _ h6
   · simp only[World.size_alloc]at h6;exact .inr (by omega)}
  case measure=>
   have c5n:=(hd6.set 5 (.slice (some ⟨g', 0,none⟩) (n' + 1) cap')).cell 5;simp only[qY,qU,zJ,zK]at c5n;rw[sM c5n,HM.out];omega}
  {
  have d1:decide ((n' :Int)<=sl)=false:=qF (by omega);have d2:decide (n' <= sl)=false:=qF (by omega);have hgt:sl<n' :=by omega
  clear hle;go_wp2_with fail
  obtain⟨b,cap,ev,_,hb,hz,hat⟩:=HS.out.2.1.at (i:=sl) (by simp;omega);simp only[List.length_map,List.length_range,qP,true_and]at ev;obtain⟨rfl,rfl⟩:=ev;have hlti:(sl:Int)<n' :=by omega
  have heb:=HW5.out.2.2.2.2.1;have heK:w4.heap.size∉ps::vl.ownBlock.toList:=fun hm=>by
    have h1:=HW5.out.2.2.2.2.2;rcases qB.1 hm with e|e
    · omega
    · have:=HLT.out w4.heap.size (by simp only[stK,qB,qE];exact .inr (.inr (.inl (.inr e))));omega
  have he6:=HS.out.2.2.1.blk heb heK;obtain⟨e0,e1,e2,e3,e4,e5,e6⟩:=he6.lvAt;obtain⟨t0,t1,t2,t3,t4,t5,t6⟩:=hat;have z0:=hz (sl*7);have z1:=hz (sl*7+1);have z2:=hz (sl*7+2);have z3:=hz (sl*7+3);have z4:=hz (sl*7+4);have z5:=hz (sl*7+5);have z6:=hz (sl*7+6);simp only[Nat.zero_add]at e0 e1 e2 e3 e4 e5 e6;clear hz heb he6;have HEK:=qA heK;clear heK;have hnb1:ps≠b:=HPV.out b rfl;have hnb2:w4.heap.size≠b:=fun e=>by
    rcases HS.out.2.2.2 b rfl with h1|h1
    · have:=HLT.out b (by simp[stK,h1]);omega
    · have:=HW5.out.2.2.2.2.1.lt;omega
  have HKP:=qA (fun(w' :World) (hf:Fr [b] wr w')=>zI (hf.cell c5 (by simpa using hnb1)) (zI (hf.cell e0 (by simpa using hnb2)) (zI (hf.cell e1 (by simpa using hnb2)) (zI (hf.cell e2 (by simpa using hnb2)) (zI (hf.cell e3 (by simpa using hnb2)) (zI (hf.cell e4 (by simpa using hnb2)) (zI (hf.cell e5 (by simpa using hnb2)) (hf.cell e6 (by simpa using hnb2)))))))));have HKF:=qA (show ∀(a0 a1 a2 a3 a4 a5 a6:Value) (o0 o1 o2 o3 o4 o5 o6:Nat),Fr [b] wr (((((((wr.setCell ⟨b,o0,none⟩ a0).setCell ⟨b,o1,none⟩ a1).setCell ⟨b,o2,none⟩ a2).setCell ⟨b,o3,none⟩ a3).setCell ⟨b,o4,none⟩ a4).setCell ⟨b,o5,none⟩ a5).setCell ⟨b,o6,none⟩ a6).drew from
    fun _ _ _ _ _ _ _ _ _ _ _ _ _ _=>((((((((Fr.refl [b] wr).setCell _ _ (.inl (by simp))).setCell _ _ (.inl (by simp))).setCell _ _ (.inl (by simp))).setCell _ _ (.inl (by simp))).setCell _ _ (.inl (by simp))).setCell _ _ (.inl (by simp))).setCell _ _ (.inl (by simp))).drew)
  go_region_held3 (fun w' => w'.cell? ⟨ps, 5, none⟩ = some (.slice (some ⟨b, 0, none⟩) n' cv) /\ w'.cell? ⟨w4.heap.size, 0, none⟩ = some (.int .i64 sl) /\ w'.cell? ⟨w4.heap.size, 1, none⟩ = some (.int .u64 q1) /\ w'.cell? ⟨w4.heap.size, 2, none⟩ = some (.int .u64 u) /\ w'.cell? ⟨w4.heap.size, 3, none⟩ = some (.int .u64 v) /\ w'.cell? ⟨w4.heap.size, 4, none⟩ = some (.int .i64 wt) /\ w'.cell? ⟨w4.heap.size, 5, none⟩ = some (.int .i64 t) /\ w'.cell? ⟨w4.heap.size, 6, none⟩ = some (.int .i64 x))
    (first
      | with_reducible exact HKP.out _ (HKF.out _ _ _ _ _ _ _ _ _ _ _ _ _ _)
      | go_keep)
    (fail)
  have hg7:=HKF.out (.int .i64 sl) (.int .u64 q1) (.int .u64 u) (.int .u64 v) (.int .i64 wt) (.int .i64 t) (.int .i64 x) (sl*7) (sl*7+1) (sl*7+2) (sl*7+3) (sl*7+4) (sl*7+5) (sl*7+6);have hrv:bN wr (.slice (some ⟨b,0,none⟩) ((List.range n').map (bM s.L)).length cv) ((List.range n').map (bM s.L)):=by simpa using HS.out.2.1
  have hnew:∀y∈s.L,y.slot≠sl:=fun y hy e=>HNU.out.2.1 ((HB.out.ok.used _).2 ⟨y,hy,e⟩);have hr7:=(hrv.set (i:=sl) (by simp;omega) ⟨sl,q1,u,v,wt,t,x⟩).fr0 ((Fr.refl [] _).drew);rw[aIA (e:=⟨sl,q1,u,v,wt,t,x⟩) hnew hgt]at hr7;have hr7:bN (((((((wr.setCell ⟨b,sl*7,none⟩ (.int .i64 sl)).setCell ⟨b,sl*7+1,none⟩ (.int .u64 q1)).setCell ⟨b,sl*7+2,none⟩ (.int .u64 u)).setCell ⟨b,sl*7+3,none⟩ (.int .u64 v)).setCell ⟨b,sl*7+4,none⟩ (.int .i64 wt)).setCell ⟨b,sl*7+5,none⟩ (.int .i64 t)).setCell ⟨b,sl*7+6,none⟩ (.int .i64 x)).drew (.slice (some ⟨b,0,none⟩) n' cv) ((List.range n').map (bM (s.L++[⟨sl,q1,u,v,wt,t,x⟩]))):=by {
  rw[List.length_map,List.length_range]at hr7;exact hr7};generalize (((((((wr.setCell ⟨b,sl*7,none⟩ (.int .i64 sl)).setCell ⟨b,sl*7+1,none⟩ (.int .u64 q1)).setCell ⟨b,sl*7+2,none⟩ (.int .u64 u)).setCell ⟨b,sl*7+3,none⟩ (.int .u64 v)).setCell ⟨b,sl*7+4,none⟩ (.int .i64 wt)).setCell ⟨b,sl*7+5,none⟩ (.int .i64 t)).setCell ⟨b,sl*7+6,none⟩ (.int .i64 x)).drew=w7 at *;clear hrv hnew c5 e0 e1 e2 e3 e4 e5 e6 t0 t1 t2 t3 t4 t5 t6 z0 z1 z2 z3 z4 z5 z6 HKP HKF d1 d2;have hF57:Fr (ps::vl.ownBlock.toList) w5 w7:=HS.out.2.2.1.trans hg7 (fun q hq=>by
    simp at hq;subst hq;rcases HS.out.2.2.2 q rfl with h1|h1
    · exact .inl (by simp[h1])
    · exact .inr h1)
  have hw45:=HW5.out.2.2.2.2.1.lt;have hdn:∀y,y<w.heap.size+2->w.heap.size<=y->y∉ps::vl.ownBlock.toList:=fun y h1 h2 hm=>by
    rcases qB.1 hm with e|e
    · omega
    · have:=HLT.out y (by simp only[stK,qB,qE];exact .inr (.inr (.inl (.inr e))));omega
  have hd7:=hg7.blk HS.out.1 (by simpa using hnb1);have hx7:=hF57.blk HW5.out.1 (hdn _ (by omega) (by omega));have hrc7:=hF57.blk HW5.out.2.1 (hdn _ (by omega) (by omega));have hed7:=hF57.blk HW5.out.2.2.2.2.1 HEK.out;have hla4:=HX4.out.2.2.2.1.lt;have hA7:=HW5.out.2.2.1.fr hF57 (fun q hq hm=>by
    rcases HX4.out.2.2.2.2.2 q hq with e|e
    · have e1 := HB.out.cls.a q e
      rcases qB.1 hm with e2|e2
      · have:=HB.out.cls.p;rw[<-e2]at this;omega
      · have:=HB.out.cls.l q (by simpa using e2);omega
    · have := HX.out.2.2.2
      rcases qB.1 hm with e2|e2
      · omega
      · have:=HLT.out q (by simp only[stK,qB,qE];exact .inr (.inr (.inl (.inr e2))));omega)
  have hF07:Fr (ps::(la++vl.ownBlock.toList)) w w7:=((HX.out.1.mono (S' :=ps::(la++vl.ownBlock.toList)) (by simp)).trans HW5.out.2.2.2.1 (fun q hq=>.inl (by simp at hq ⊢;rcases hq with e|e<;>simp[e]))).trans hF57 (fun q hq=>.inl (by simp at hq ⊢;rcases hq with e|e<;>simp[e]));have hs7:=hF07.size;have hs57:=hF57.size;have hpsm:∀q,q∈mb::(lT++lb)->q∉ps::(la++vl.ownBlock.toList):=fun q hq hm=>by
    have hp:=HB.out.cls.p;have hm1:=HB.out.cls.m;have e1:c q=1∨c q=3∨c q=5:=by
      simp only[qB,qE]at hq;rcases hq with rfl|e|e
      · exact .inl hm1
      · exact .inr (.inl (HB.out.cls.t q e))
      · exact .inr (.inr (HB.out.cls.b q e))
    simp only[qB,qE,Option.mem_toList]at hm;rcases hm with rfl|e|e
    · omega
    · have:=HB.out.cls.a q e;omega
    · have:=HB.out.cls.l q e;omega
  have hcls:Cls (fun y=>if y<w.heap.size then c y else if y<w4.heap.size then 2 else 4) ps mb (.slice (some ⟨b,0,none⟩) n' cv) la' lT lb:=by {
  refine⟨?_,?_,fun y hy=>?_,fun y hy=>?_,fun q hq=>?_,fun y hy=>?_⟩
  · rw[qD hpsw];exact HB.out.cls.p
  · rw[qD (HLT.out mb (by simp[stK]))];exact HB.out.cls.m
  {
  rcases HX4.out.2.2.2.2.2 y hy with e|e
  · rw[qD (HLT.out y (by simp[stK,e]))];exact HB.out.cls.a y e
  {
  have:=HX.out.2.2.2;rw[qC (by omega),qD (hla4 y hy)]}}
  · rw[qD (HLT.out y (by simp[stK,hy]))];exact HB.out.cls.t y hy
  {
  rcases HS.out.2.2.2 q hq with e|e
  · rw[qD (HLT.out q (by simp[stK,e]))];exact HB.out.cls.l q e
  · rw[qC (by omega),qC (by omega)]}
  · rw[qD (HLT.out y (by simp[stK,hy]))];exact HB.out.cls.b y hy};have hIns:uC w7 ps pt mb (.slice (some ⟨b,0,none⟩) n' cv) la' lT lb s.M (dQ s.L) s.M.L.length w7:=
    ⟨lT,lb,_,hcls,HB.out.tb.fr hF07 (fun q hq=>hpsm q (by simp[hq])),HB.out.inc.fr hF07 (hpsm mb (by simp)) (fun q hq=>hpsm q (by simp[hq])),Fr.refl _ _,fun q hq=>.inl hq,fun q hq=>.inl hq⟩
  have hpn:ps∉mb::(lT++lb):=fun hm=>hpsm ps hm (by simp);have hbn:∀y,w.heap.size<=y->y∉mb::(lT++lb):=fun y h1 hm=>by
    have:y∈stK ps mb vl la lT lb:=by
      simp only[qB,qE]at hm;simp only[stK,qB,qE];rcases hm with e|e|e
      · simp[e]
      · simp[e]
      · simp[e]
    have:=HLT.out y this;omega
  have r0:=hrc7.cell 0;have r1:=hrc7.cell 1;simp only[zJ,zK]at r0 r1;have HD7:=qA (zI hd7 (zI (show ps<w7.heap.size by omega) (zI hA7.lt (show ∀q,(Value.slice (some ⟨b,0,none⟩) n' cv).ownBlock=some q->q<w7.heap.size from fun q hq=>hr7.lt hq))));have HPN:=qA hpn;have HEnd:=qA (zI hbn (zI hx7 (zI hed7 (zI hA7 (zI hr7 hF07)))));have HIns:=qA hIns;have HCL:=qA hcls;have Hu:=qA (show u<U64 from hu);have Hv:=qA (show v<U64 from hv);clear hg7 hr7 hF57 hdn hd7 hx7 hrc7 hed7 hla4 hA7 hF07 hpsm hcls hIns hpn hbn;have hcap:=HB.out.ok.leE;have hLlen:s.L.length<=16384:=by {
  have h1:=Sm.len_used HB.out.ok;have h2:=HB.out.ok.ar.hb;have h3:=HB.out.ok.sl;unfold Ar.used at h1;omega};have huv:=(Sm.chk_ok HB.out.ok HCK.out).1;have HUV:=qA huv;clear huv;have HFT:=qA (Sm.fits_uv HB.out.ok hu HCK.out);go_wp2_with fail
  clear r0 r1;go_loopw [77] (fun y wr=>∃k:Nat,k<=2/\y=.int .i64 k/\Hid (uC w7 ps pt mb (.slice (some ⟨b,0,none⟩) n' cv) la' lT lb (uD s.M u v k) (mF (dQ s.L) u v sl k) (uD s.M u v k).L.length wr)) (fun y _=>2-(intOf y).toNat)
  case atStart=>exact⟨0,by omega,rfl,HIns⟩
  case round=>
   obtain⟨k,hk,rfl,HS2⟩:=hrel;by_cases hlt:k<2
   {
   have hk2:k=0∨k=1:=by omega
   clear hlt hk;rcases hk2 with rfl|rfl
   {
   have hFr:=HS2.out.fr;have hd:=hFr.blk HD7.out.1 HPN.out;have c4:=hd.cell 4;have c6:=hd.cell 6;simp only[zJ,zK]at c4 c6;have HP:=qA (aDW HD7.out.2.1 HD7.out.2.2.1 HD7.out.2.2.2 HS2.out Hu.out);have HMO:=qA HS2.out.mok;clear hFr hd;rename World=>wo
   go_wp2_with fail
   refine HP.out.mono ?_;rintro _ w8 ⟨r8,rfl,hS8,hF8⟩;clear HP c4 c6;obtain⟨lT', lb', c', hc', hT', ⟨iv,hI'⟩,hF', h5', h6'⟩:=hS8;have c6:=(hF8.blk HD7.out.1 HPN.out).cell 6;simp only[zJ,zK]at c6;obtain⟨av0,cv0,ev0⟩:=(hI'.row u Hu.out).2.1.slice;have hfl:(mF (dQ s.L) u v sl 0 u).length<=16384:=zH (yN s.L u) hLlen;have hml:(uD s.M u v 0).L.length<=65536:=by {
   have h1:=HMO.out.cnt;have h2:=HMO.out.ar.hb;have h3:=HMO.out.ar.hs;simp only[Md.ar]at h2 h3;omega};have hmx:(uD s.M u v 0).L.length<maxLen:=by unfold maxLen;omega
   have g1:=vC (w' :=w8.drew) hI' Hu.out ev0 rfl;have g2:=vC (w' :=(w8.alloc (.cells #[.int .i64 sl] 3)).drew) hI' Hu.out ev0 (Below.heap_alloc _ _ _ hI'.im.lt);have g3:=vC (w' :=w8.alloc (.cells #[.int .i64 sl] 3)) hI' Hu.out ev0 (Below.heap_alloc _ _ _ hI'.im.lt);have EV:=qA ev0;have hrow:=(hI'.row u Hu.out).2.1;rw[ev0]at hrow;have HRow:=qA hrow;clear hrow;have hvm:=(hI'.row u Hu.out).2.2;rw[ev0]at hvm;have HVM:=qA hvm;clear hvm;have HI:=qA hI';have HSet:=qA (fun(w8' w9' :World) (v1:Value) (l1:List Nat) (n2:Nat) a1 a2 a3 a4 a5 a6=>aDX (M:=(uD s.M u v 1)) HD7.out.2.1 HD7.out.2.2.1 HD7.out.2.2.2 hc' hT' hI' hF' h5' h6' (id:=u) Hu.out (w8:=w8') (w9:=w9') (v1:=v1) (l1:=l1) (n2:=n2) a1 a2 a3 a4 a5 a6);have hmbn:mb∉lb' :=hI'.nm;have hmlt:=hI'.im.lt;have hHP:=qA hF8;have HPO:=qA (show ps∉(Value.slice av0 (mF (dQ s.L) u v sl 0 u).length cv0).ownBlock.toList from fun hm=>by
     have e1:=hc'.b ps (HVM.out ps (by simpa using hm));have e2:=hc'.p;omega)
   have HMO2:=qA (show mb∉(Value.slice av0 (mF (dQ s.L) u v sl 0 u).length cv0).ownBlock.toList from fun hm=>by
     have e1:=hc'.b mb (HVM.out mb (by simpa using hm));have e2:=hc'.m;omega)
   have hPM:=qA (show ps∉mb::(Value.slice av0 (mF (dQ s.L) u v sl 0 u).length cv0).ownBlock.toList from fun hm=>by
     rcases qB.1 hm with e|e
     · have e1:=hc'.p;have e2:=hc'.m;rw[e]at e1;omega
     · exact HPO.out e)
   have HNN:=qA (aEN (f:=dQ s.L u) HMO.out Hu.out HFT.out.1 (hI'.row u Hu.out).1 (HB.out.ok.vert u));clear hc' hT' hI' hF' h5' h6' hF8;generalize hfle:mF (dQ s.L) u v sl 0 u=fl at *;have HFL:=qA hfle;clear hfle;have hFa:Fr [] w8 (w8.alloc (.cells #[.int .i64 sl] 3)).drew:=((Fr.refl [] w8).alloc _).drew;have HFa:=qA hFa;clear hFa;have HBa:=qA (show Blk (w8.alloc (.cells #[.int .i64 sl] 3)).drew w8.heap.size 3 [.int .i64 sl] from(Blk.new w8 _ _).drew);have HK8:=qA (fun(w' :World) (S:List Nat) (hf:Fr S w8 w') (hs:ps∉S)=>hf.cell c6 hs);go_wp2_with fail
   go_region_held3 (fun w' => w'.cell? ⟨ps, 6, none⟩ = some (.map (some mb)))
     (first
       | with_reducible exact HK8.out _ _ hF10 hPM.out
       | with_reducible exact HK8.out _ _ hF9 HPO.out
       | go_keep)
     (first
       | (refine vA (by rfl) _ _ _ (by rfl) 3 (.int .i64 0) 1 8 Tryz.underlying158 Tryz.info3 rfl (by decide) (.slice av0 fl.length cv0) fl.length (oV fl) (by rfl) (HRow.out.fr0 HFa.out) w8.heap.size 3 [.int .i64 sl] (by rfl) HBa.out rfl (by simp [Value.oneCell']) (by omega) (by decide) ?_; intro g9 cap9 w9 hown9 hgrow9 hg9
          have hF9:Fr (Value.slice av0 fl.length cv0).ownBlock.toList w8 w9:=(HFa.out.mono (by simp)).grown hgrow9 (fun q e=>.inl (by simp[e]));have hM9:=HI.out.im.same (hF9.keep mb hmlt HMO2.out);obtain⟨w10,hrun10,hM10,hG10⟩:=hM9.put Tryz.underlying36 Tryz.underlying143 hmx (aBV Hu.out) (v:=.slice (some ⟨g9,0,none⟩) (fl.length+1) cap9) (by rfl);have hF10:Fr (mb::(Value.slice av0 fl.length cv0).ownBlock.toList) w8 w10:=(hF9.mono (fun b hb=>.inl (List.mem_cons_of_mem _ hb))).trans hG10 (fun b hb=>.inl (by simp at hb;simp[hb]))))
   all_goals
    go_wp2_with fail
    go_roundw
    case rel=>
     have hs9:=HFa.out.size;have h9:gR w9 (.slice (some ⟨g9,0,none⟩) (fl.length+1) cap9) (fl++[sl]):=by {
     unfold gR;rw[vN,zF];exact hown9};have:=HSet.out w9 w10 _ (fl++[sl]) _ h9 (by simp) (by rw[EV.out];exact hF9) (fun q hq=>by
       rw[EV.out];simp only[Value.ownBlock,qI]at hq;subst hq;exact hg9.imp (fun e=>e) (fun e=>by omega)) hM10 hG10
     rw[HNN.out]at this;refine⟨1,by omega,by go_num,qA ?_⟩;rw[<-HFL.out]at this;exact this
    case measure=>simp[intOf];try omega}
   {
   have hFr:=HS2.out.fr;have hd:=hFr.blk HD7.out.1 HPN.out;have c4:=hd.cell 4;have c6:=hd.cell 6;simp only[zJ,zK]at c4 c6;have HP:=qA (aDW HD7.out.2.1 HD7.out.2.2.1 HD7.out.2.2.2 HS2.out Hv.out);have HMO:=qA HS2.out.mok;clear hFr hd;rename World=>wo
   go_wp2_with fail
   refine HP.out.mono ?_;rintro _ w8 ⟨r8,rfl,hS8,hF8⟩;clear HP c4 c6;obtain⟨lT', lb', c', hc', hT', ⟨iv,hI'⟩,hF', h5', h6'⟩:=hS8;have c6:=(hF8.blk HD7.out.1 HPN.out).cell 6;simp only[zJ,zK]at c6;obtain⟨av0,cv0,ev0⟩:=(hI'.row v Hv.out).2.1.slice;have hfl:(mF (dQ s.L) u v sl 1 v).length<=16384:=by {
   have e9:mF (dQ s.L) u v sl 1 v=dQ s.L v:=fW (fun e=>HUV.out e.symm);rw[e9];exact zH (yN s.L v) hLlen};have hml:(uD s.M u v 1).L.length<=65536:=by {
   have h1:=HMO.out.cnt;have h2:=HMO.out.ar.hb;have h3:=HMO.out.ar.hs;simp only[Md.ar]at h2 h3;omega};have hmx:(uD s.M u v 1).L.length<maxLen:=by unfold maxLen;omega
   have g1:=vC (w' :=w8.drew) hI' Hv.out ev0 rfl;have g2:=vC (w' :=(w8.alloc (.cells #[.int .i64 sl] 3)).drew) hI' Hv.out ev0 (Below.heap_alloc _ _ _ hI'.im.lt);have g3:=vC (w' :=w8.alloc (.cells #[.int .i64 sl] 3)) hI' Hv.out ev0 (Below.heap_alloc _ _ _ hI'.im.lt);have EV:=qA ev0;have hrow:=(hI'.row v Hv.out).2.1;rw[ev0]at hrow;have HRow:=qA hrow;clear hrow;have hvm:=(hI'.row v Hv.out).2.2;rw[ev0]at hvm;have HVM:=qA hvm;clear hvm;have HI:=qA hI';have HSet:=qA (fun(w8' w9' :World) (v1:Value) (l1:List Nat) (n2:Nat) a1 a2 a3 a4 a5 a6=>aDX (M:=(uD s.M u v 2)) HD7.out.2.1 HD7.out.2.2.1 HD7.out.2.2.2 hc' hT' hI' hF' h5' h6' (id:=v) Hv.out (w8:=w8') (w9:=w9') (v1:=v1) (l1:=l1) (n2:=n2) a1 a2 a3 a4 a5 a6);have hmbn:mb∉lb' :=hI'.nm;have hmlt:=hI'.im.lt;have hHP:=qA hF8;have HPO:=qA (show ps∉(Value.slice av0 (mF (dQ s.L) u v sl 1 v).length cv0).ownBlock.toList from fun hm=>by
     have e1:=hc'.b ps (HVM.out ps (by simpa using hm));have e2:=hc'.p;omega)
   have HMO2:=qA (show mb∉(Value.slice av0 (mF (dQ s.L) u v sl 1 v).length cv0).ownBlock.toList from fun hm=>by
     have e1:=hc'.b mb (HVM.out mb (by simpa using hm));have e2:=hc'.m;omega)
   have hPM:=qA (show ps∉mb::(Value.slice av0 (mF (dQ s.L) u v sl 1 v).length cv0).ownBlock.toList from fun hm=>by
     rcases qB.1 hm with e|e
     · have e1:=hc'.p;have e2:=hc'.m;rw[e]at e1;omega
     · exact HPO.out e)
   have HNN:=qA (aEN (f:=dQ s.L v) HMO.out Hv.out HFT.out.2 (by have:=(hI'.row v Hv.out).1;rwa[show mF (dQ s.L) u v sl 1 v=dQ s.L v from fW (fun e=>HUV.out e.symm)]at this) (((kN HB.out.ok.md Hu.out HFT.out.1).2.1 v).trans ⟨fun h=>(HB.out.ok.vert v).1 (h.resolve_right (fun e=>HUV.out e.symm)),fun h=>.inl ((HB.out.ok.vert v).2 h)⟩));clear hc' hT' hI' hF' h5' h6' hF8;generalize hfle:mF (dQ s.L) u v sl 1 v=fl at *;have HFL:=qA hfle;clear hfle;have hFa:Fr [] w8 (w8.alloc (.cells #[.int .i64 sl] 3)).drew:=((Fr.refl [] w8).alloc _).drew;have HFa:=qA hFa;clear hFa;have HBa:=qA (show Blk (w8.alloc (.cells #[.int .i64 sl] 3)).drew w8.heap.size 3 [.int .i64 sl] from(Blk.new w8 _ _).drew);have HK8:=qA (fun(w' :World) (S:List Nat) (hf:Fr S w8 w') (hs:ps∉S)=>hf.cell c6 hs);go_wp2_with fail
   go_region_held3 (fun w' => w'.cell? ⟨ps, 6, none⟩ = some (.map (some mb)))
     (first
       | with_reducible exact HK8.out _ _ hF10 hPM.out
       | with_reducible exact HK8.out _ _ hF9 HPO.out
       | go_keep)
     (first
       | (refine vA (by rfl) _ _ _ (by rfl) 3 (.int .i64 0) 1 8 Tryz.underlying158 Tryz.info3 rfl (by decide) (.slice av0 fl.length cv0) fl.length (oV fl) (by rfl) (HRow.out.fr0 HFa.out) w8.heap.size 3 [.int .i64 sl] (by rfl) HBa.out rfl (by simp [Value.oneCell']) (by omega) (by decide) ?_; intro g9 cap9 w9 hown9 hgrow9 hg9
          have hF9:Fr (Value.slice av0 fl.length cv0).ownBlock.toList w8 w9:=(HFa.out.mono (by simp)).grown hgrow9 (fun q e=>.inl (by simp[e]));have hM9:=HI.out.im.same (hF9.keep mb hmlt HMO2.out);obtain⟨w10,hrun10,hM10,hG10⟩:=hM9.put Tryz.underlying36 Tryz.underlying143 hmx (aBV Hv.out) (v:=.slice (some ⟨g9,0,none⟩) (fl.length+1) cap9) (by rfl);have hF10:Fr (mb::(Value.slice av0 fl.length cv0).ownBlock.toList) w8 w10:=(hF9.mono (fun b hb=>.inl (List.mem_cons_of_mem _ hb))).trans hG10 (fun b hb=>.inl (by simp at hb;simp[hb]))))
   all_goals
    go_wp2_with fail
    go_roundw
    case rel=>
     have hs9:=HFa.out.size;have h9:gR w9 (.slice (some ⟨g9,0,none⟩) (fl.length+1) cap9) (fl++[sl]):=by {
     unfold gR;rw[vN,zF];exact hown9};have:=HSet.out w9 w10 _ (fl++[sl]) _ h9 (by simp) (by rw[EV.out];exact hF9) (fun q hq=>by
       rw[EV.out];simp only[Value.ownBlock,qI]at hq;subst hq;exact hg9.imp (fun e=>e) (fun e=>by omega)) hM10 hG10
     rw[HNN.out]at this;refine⟨2,by omega,by go_num,qA ?_⟩;rw[<-HFL.out]at this;exact this
    case measure=>simp[intOf];try omega}}
   {
   obtain rfl:k=2:=by omega
   have hFr:=HS2.out.fr;have hxb:=hFr.blk HEnd.out.2.1 (HEnd.out.1 _ (by omega));have heb:=hFr.blk HEnd.out.2.2.1 (HEnd.out.1 _ (by omega));obtain⟨e0,e1,e2,e3,e4,e5,e6⟩:=heb.lvAt;simp only[Nat.zero_add]at e0 e1 e2 e3 e4 e5 e6;have z:=hxb.frozen;have t0:=hxb.cell 0;have t1:=hxb.cell 1;have t2:=hxb.cell 2;have t3:=hxb.cell 3;have t4:=hxb.cell 4;have t5:=hxb.cell 5;have t6:=hxb.cell 6;simp only[zJ,zK]at t0 t1 t2 t3 t4 t5 t6;have HXB:=qA (hxb.put7 ⟨sl,q1,u,v,wt,t,x⟩);clear hFr hxb heb hlt hk;rename World=>wo
   go_wp2_with fail
   have hrr:=HXB.out.lvAt;have hE:(⟨sl,q1,u,v,wt,t,x⟩:Lv)=s.edge u v wt t x:=by unfold Sm.edge;rw[HSL.out,HQ1.out]
   unfold aHV Go.Proofs.YtjdgpcjbgjnahaaGreatDoor.put7 at hrr;simp only[Nat.zero_add]at hrr;obtain⟨r0,r1,r2,r3,r4,r5,r6⟩:=hrr;refine bodyPost_ret (v:=.tuple #[lvA ⟨sl,q1,u,v,wt,t,x⟩,.int .i64 0]) (by simp[results,Tryz.results135,go_sem,r0,r1,r2,r3,r4,r5,r6]) rfl ⟨by rw[hE],?_⟩;have hx1:=HEnd.out.2.1.lt;have hsz2:=HX.out.2.2.2;have hw5:=HW5.out.2.2.2.2.2;have hw4:w2.heap.size<=w4.heap.size:=HX4.out.2.2.2.2.1.size;have hw45:=HW5.out.2.2.2.2.1.lt
   exact aJV HB.out HCK.out hu hv HLL.out HSL.out HQ1.out HS2.out HD7.out.1 HEnd.out.2.2.2.1 HEnd.out.2.2.2.2.1 HEnd.out.2.2.2.2.2 HCL.out
     (fun q hq=>(HX4.out.2.2.2.2.2 q hq).imp (fun e=>e) (fun e=>by omega)) (fun q hq=>(HS.out.2.2.2 q hq).imp (fun e=>e) (fun e=>by omega)) (by omega) hnn hgt hn'}}
end
section
variable {w7 wr:World} {ps pt mb n:Nat} {v7:Value} {la lT lb:List Nat} {M:Md} {f:Nat->List Nat}
end
section
variable {w w' :World} {ps:Nat} {s:Sm} {K:List Nat}
end
theorem aOC(V E last:Nat)(w:World)(hV:V<=4096)(hE:E<=16384)(hl:last<=9223372036854775807):
    Calls Tryz.prog 84 #[.int .i64 V,.int .i64 E,.int .u64 last] w fun e w' =>∃ps,e=.returned (.tuple #[.pointer (some ⟨ps,0,none⟩),.int .i64 0])/\∃K,bG w' ps (Sm.new V E last) K/\Fr [] w w' /\ ∀q∈K,w.heap.size<=q:=by
 have d1:decide ((V:Int)<0)=false:=qF (by omega);have d2:decide ((4096:Int)<V)=false:=qF (by omega);have d3:decide ((E:Int)<0)=false:=qF (by omega);have d4:decide ((16384:Int)<E)=false:=qF (by omega);have d5:decide ((9223372036854775807:Int)<last)=false:=qF (by omega);have d6:decide ((4096:Nat)<V)=false:=qF (by omega);have d7:decide ((16384:Nat)<E)=false:=qF (by omega);have d8:decide ((9223372036854775807:Nat)<last)=false:=qF (by omega);have hmk:∀W:World,(Instr.makeMap 143 none).run Tryz.prog W=.ok (.map (some W.heap.size)) (W.alloc (.map #[] 0)):=fun W=>by kernel_rfl
 have HA:=qA (uR E w (by omega));have HT:=qA (fun w' =>aMU V w' (by omega));go_enter Tryz.func84,Tryz.ntmps84
 go_wp2_with fail
 refine HA.out.mono ?_;rintro _ w1 ⟨rfl,hA,hF1⟩;go_wp2_with fail
 refine(HT.out w1).mono ?_;rintro _ w2 ⟨pt,rfl,l,hT,hF2,hl2⟩;have HH:=qA (zI hA (zI hF1 (zI hT (zI hF2 hl2))));clear hA hF1 hT hF2 hl2 HA HT;go_wp2_with fail
 go_ret2;obtain⟨hA,hF1,hT,hF2,hl2⟩:=HH.out;have hal:=hA.lt w.heap.size (by simp);have hsz:=hF2.size;have htl:=hT.lt;have hln:∀b∈l,w1.heap.size<=b:=fun b hb=>(hl2 b hb).resolve_left (by simp);have hF:Fr [] w2 ((w2.alloc (.map #[] 0)).alloc (.cells #[.int .i64 V,.int .i64 E,.int .u64 last,ptr w.heap.size,ptr pt,iL,.map (some w2.heap.size)] 145)):=((Fr.refl [] w2).alloc _).alloc _;have hB:=Blk.new (w2.alloc (.map #[] 0)) [.int .i64 V,.int .i64 E,.int .u64 last,ptr w.heap.size,ptr pt,iL,.map (some w2.heap.size)] 145;rw[World.size_alloc]at hB;refine⟨_,rfl,_,⟨w.heap.size,pt,w2.heap.size,0,iL,[w.heap.size],l,[],fun x=>if x<w.heap.size+1 then 2 else if x<w2.heap.size then 3 else if x=w2.heap.size then 1 else 0,⟨hB,?_,?_,bN.nil _,?_,?_,qS _,Sm.ok_new hV hE (by omega),?_⟩,rfl⟩,?_,?_⟩
 · exact hA.fr (hF2.trans' hF) (by simp)
 · exact hT.fr hF (by simp)
 · refine⟨fun _=>none,((fH.made w2 Tryz.prog 36 .u64 okS).same (Below.heap_alloc _ _ _ (by simp))),by simp,by simp,fun id hid=>⟨by simp[Sm.new,dQ],gR.nil _,fun q e=>(by cases e)⟩,fun id id' q _ _ e=>(by cases e)⟩
 · intro e he;cases he
 {
 refine⟨?_,?_,fun b hb=>?_,fun b hb=>?_,fun q e=>(by cases e),fun b hb=>(by cases hb)⟩
 · rw[qC (by omega),qC (by omega),qC (by omega)]
 · rw[qC (by omega),qC (by omega),qD rfl]
 · rw[qH]at hb;rw[qD (by omega)]
 {
 have h1:=hln b hb;have h2:=htl b hb;rw[qC (by omega),qD h2]}}
 · exact(hF1.trans' hF2).trans' hF
 {
 have hs1:=hF1.size;intro q hq;simp only[stK,qB,qE,Value.ownBlock,Option.toList_none,List.not_mem_nil,or_false]at hq;rcases hq with rfl|rfl|rfl|hq
 · omega
 · omega
 · omega
 · have:=hln q hq;omega}
section
variable {Z Y:List Nat} {w w' w'' :World}
end
section
variable {W wr w' :World} {ps:Nat} {s:Sm} {Z Y X:List Nat}
end
structure CS (w w' :World) (x:Value) (slots n m:Nat) (e:Nat->Nat×Int) (pl:Nat->Nat) (v:Value) (hc dr:Nat) (bs:Nat->Option Nat):Prop where
  fr:Fr [] w w'
  hd:Blk w' hc 242 [x,.int .i64 slots,v,.slice (some ⟨dr,0,none⟩) m m]
  it:w'.ownsRow 0 223 2 v n (lB n e)
  dir:Blk w' dr 244 ((List.range m).map fun k=>mH (bs k))
  a1:w.heap.size<=hc
  a2:w.heap.size<=dr
  a3:hc≠dr
  a4:∀q,v.ownBlock=some q->w.heap.size<=q/\q≠hc/\q≠dr
  bl:∀k b,k<m->bs k=some b->Blk w' b 246 (oD pl k)/\w.heap.size<=b/\b≠hc/\b≠dr/\v.ownBlock≠some b
  inj:∀k k' b,k<m->k' < m->bs k=some b->bs k' =some b->k=k'
def fP(w:World)(px slots:Nat)(Q:Nat->Option Int)(n:Nat)(l:List Nat):Prop:=∃ph lh,Blk w px 179 [.int .i64 slots,bQ ph]/\fO w ph slots Q n lh/\px∉lh/\l=px::lh
section
variable {w w' :World} {px slots n:Nat} {Q:Nat->Option Int} {l S:List Nat}
theorem fP.fr(h:fP w px slots Q n l)(hf:Fr S w w')(hs:∀b∈l,b∉S):fP w' px slots Q n l:=by
 obtain⟨ph,lh,h1,h2,h3,rfl⟩:=h;exact⟨ph,lh,hf.blk h1 (hs _ (by simp)),h2.fr hf (fun b hb=>hs b (by simp[hb])),h3,rfl⟩
theorem fP.fr0(h:fP w px slots Q n l)(hf:Fr [] w w'):fP w' px slots Q n l:=h.fr hf (by simp)
theorem fP.lt(h:fP w px slots Q n l):∀b∈l,b<w.heap.size:=by
 obtain⟨ph,lh,h1,h2,h3,rfl⟩:=h;intro b hb;rcases qB.1 hb with rfl|hb
 · exact h1.lt
 · exact h2.lt b hb
theorem aRC(slots:Nat)(w:World)(hs:slots<=65536):
    Calls Tryz.prog 85 #[.int .i64 slots] w fun e w' =>∃px,e=.returned (.tuple #[bQ px,.int .i64 0])/\∃l,fP w' px slots (fun _=>none) 0 l/\Fr [] w w' /\ ∀b∈l,w.heap.size<=b:=by
 have HN:=qA (aJM slots w hs);go_enter Tryz.func85,Tryz.ntmps85
 go_wp2_with fail
 refine HN.out.mono ?_;rintro _ w1 ⟨ph,rfl,lh,h1,h2,h3⟩;have H1:=qA (zI h1 (zI h2 h3));clear h1 h2 h3;go_wp2
 go_ret2;have hs1:=H1.out.2.1.size;have hb:=Blk.new w1 [.int .i64 slots,bQ ph] 179;have hF:Fr [] w1 (w1.alloc (.cells #[.int .i64 slots,bQ ph] 179)):=(Fr.refl [] w1).alloc _;refine⟨w1.heap.size,rfl,_,⟨ph,lh,hb,H1.out.1.fr hF (by simp),fun hm=>by have:=H1.out.1.lt _ hm;omega,rfl⟩,H1.out.2.1.trans' hF,fun b hb=>?_⟩;rcases qB.1 hb with rfl|hb
 · exact hs1
 · exact H1.out.2.2 b hb
theorem aJW(h:fP w px slots Q n l):Calls Tryz.prog 120 #[bQ px] w fun e w' =>e=.returned (.bool true)/\w' =w:=by
 obtain⟨ph,lh,h1,h2,h3,rfl⟩:=h;have c1:=h1.cell 1;simp only[zJ,zK]at c1;clear h1 h2 h3;go_enter Tryz.func120,Tryz.ntmps120
 go_wp2
 go_ret;exact⟨rfl,rfl⟩
end
abbrev jS(p:Nat):Value:=.pointer (some ⟨p,0,none⟩)
def gJ(a b:Int):Int:=if a+b<=9223372036854775807 then 0 else 7
def gK(a b:Int):Int:=if a+b<=9223372036854775807 then a+b else 0
theorem aTN(a b:Int)(ha:-9223372036854775808<=a)(ha2:a<=9223372036854775807)(hb:0<=b)(hb2:b<=9223372036854775807)(w:World):
    Calls Tryz.prog 170 #[.int .i64 a,.int .i64 b] w fun e w' =>e=.returned (.tuple #[.int .i64 (gK a b),.int .i64 (gJ a b)])/\w' =w:=by
 have d2:decide (b<0)=false:=qF (by omega);by_cases hs:a+b<=9223372036854775807
 {
 have hw:IntKind.i64.wrap (a+b)=a+b:=zG _ (by omega);have e1:gK a b=a+b:=qD hs;have e2:gJ a b=0:=qD hs;rw[e1,e2];by_cases h0:a<0
 {
 have d1:decide (a<0)=true:=qG h0;clear hs e1 e2;go_enter Tryz.func170,Tryz.ntmps170
 go_wp2
 go_ret2;exact⟨rfl,rfl⟩}
 {
 have d1:decide (a<0)=false:=qF h0;have d3:decide (a+b<0)=false:=qF (by omega);clear hs e1 e2;go_enter Tryz.func170,Tryz.ntmps170
 go_wp2
 go_ret2;exact⟨rfl,rfl⟩}}
 {
 have h0:¬a<0:=by omega
 have hw:IntKind.i64.wrap (a+b)=a+b-18446744073709551616:=by simp[IntKind.wrap,IntKind.bits,IntKind.signed];omega
 have d1:decide (a<0)=false:=qF h0;have d3:decide (a+b-18446744073709551616<0)=true:=qG (by omega);have e1:gK a b=0:=qC hs;have e2:gJ a b=7:=qC hs;rw[e1,e2];clear hs e1 e2;go_enter Tryz.func170,Tryz.ntmps170
 go_wp2
 go_ret2;exact⟨rfl,rfl⟩}
structure Clk (w:World) (pc:Nat) (m now:Int):Prop where
  hd:Blk w pc 157 [.int .i64 m,.int .i64 now]
  m1:1<=m
  m2:m<=9223372036854775807
  n0:0<=now
  n1:now+m<=9223372036854775807
section
variable {w w' :World} {pc:Nat} {m now:Int}
theorem Clk.fr{S:List Nat}(h:Clk w pc m now)(hf:Fr S w w')(hs:pc∉S):Clk w' pc m now:=⟨hf.blk h.hd hs,h.m1,h.m2,h.n0,h.n1⟩
theorem Clk.fr0(h:Clk w pc m now)(hf:Fr [] w w'):Clk w' pc m now:=h.fr hf (by simp)
theorem aRD(m:Int)(h1:1<=m)(h2:m<=9223372036854775807)(w:World):Calls Tryz.prog 83 #[.int .i64 m] w fun e w' =>∃pc,e=.returned (.tuple #[jS pc,.int .i64 0])/\Clk w' pc m 0/\Fr [] w w' /\ pc=w.heap.size:=by
 have d1:decide (m<1)=false:=qF (by omega);go_enter Tryz.func83,Tryz.ntmps83
 go_wp2
 go_ret2;exact⟨w.heap.size,rfl,⟨Blk.new w [.int .i64 m,.int .i64 0] _,h1,h2,Int.le_refl _,by omega⟩,(Fr.refl [] w).alloc _,rfl⟩
theorem oG(h:Clk w pc m now):Calls Tryz.prog 102 #[jS pc] w fun e w' =>e=.returned (.bool true)/\w' =w:=by
 have c0:=h.hd.cell 0;simp only[zJ]at c0;have d1:decide (m≥1)=true:=qG h.m1;clear h;go_enter Tryz.func102,Tryz.ntmps102
 go_wp2
 go_ret;exact⟨rfl,rfl⟩
theorem aRE(h:Clk w pc m now):Calls Tryz.prog 64 #[jS pc] w fun e w' =>e=.returned (.int .i64 now)/\w' =w:=by
 have HV:=qA (oG h);have c1:=h.hd.cell 1;simp only[zJ,zK]at c1;clear h;go_enter Tryz.func64,Tryz.ntmps64
 go_wp2_with fail
 refine HV.out.mono ?_;rintro _ w ⟨rfl,rfl⟩;go_wp2
 go_ret;exact⟨rfl,rfl⟩
theorem xT(h1:1<=m)(h2:m<=9223372036854775807)(t:Int)(ht:-9223372036854775808<=t)(ht2:t<=9223372036854775807)(w:World):Calls Tryz.prog 132 #[.int .i64 m,.int .i64 t] w fun e w' =>e=.returned (.tuple #[.int .i64 (gK t m),.int .i64 (gJ t m)])/\w' =w:=by
 have HA:=qA (aTN t m ht ht2 (by omega) h2 w);clear h1 h2 ht ht2;go_enter Tryz.func132,Tryz.ntmps132
 go_wp2_with fail
 refine HA.out.mono ?_;rintro _ w ⟨rfl,rfl⟩;go_wp2
 go_ret2;exact⟨rfl,rfl⟩
def mI(m now t:Int):Int:=if t<now then 10 else gJ t m
theorem aAD(h:Clk w pc m now)(t:Int)(ht:-9223372036854775808<=t)(ht2:t<=9223372036854775807):Calls Tryz.prog 111 #[jS pc,.int .i64 t] w fun e w' =>e=.returned (.int .i64 (mI m now t))/\w' =w:=by
 have HV:=qA (oG h);have HA:=qA (xT h.m1 h.m2 t ht ht2 w);have c0:=h.hd.cell 0;have c1:=h.hd.cell 1;simp only[zJ,zK]at c0 c1;clear h;unfold mI;by_cases hlt:t<now
 {
 have d1:decide (t<now)=true:=qG hlt;rw[qD hlt];clear hlt;go_enter Tryz.func111,Tryz.ntmps111
 go_wp2_with fail
 refine HV.out.mono ?_;rintro _ w ⟨rfl,rfl⟩;go_wp2
 go_ret;exact⟨rfl,rfl⟩}
 {
 have d1:decide (t<now)=false:=qF hlt;rw[qC hlt];clear hlt;generalize gJ t m=cc at *;generalize gK t m=vv at *;go_enter Tryz.func111,Tryz.ntmps111
 go_wp2_with fail
 refine HV.out.mono ?_;rintro _ w ⟨rfl,rfl⟩;go_wp2_with fail
 refine HA.out.mono ?_;rintro _ w ⟨rfl,rfl⟩;go_wp2
 go_ret;exact⟨rfl,rfl⟩}
theorem aOD(h:Clk w pc m now)(t:Int)(ht:-9223372036854775808<=t)(ht2:t<=9223372036854775807)(hc:mI m now t≠0):Calls Tryz.prog 88 #[jS pc,.int .i64 t] w fun e w' =>e=.returned (.int .i64 (mI m now t))/\w' =w:=by
 have HC:=qA (aAD h t ht ht2);clear h;generalize mI m now t=cc at *;have d1:(cc == 0)=false:=by simp[hc]
 clear hc;go_enter Tryz.func88,Tryz.ntmps88
 go_wp2_with fail
 refine HC.out.mono ?_;rintro _ w ⟨rfl,rfl⟩;go_wp2
 go_ret;exact⟨rfl,rfl⟩
theorem aEO{m now t:Int}(hc:mI m now t=0):now<=t/\t+m<=9223372036854775807:=by
 unfold mI gJ at hc;split at hc
 · cases hc
 {
 split at hc
 · omega
 · cases hc}
theorem aJX(h:Clk w pc m now)(t:Int)(ht:-9223372036854775808<=t)(ht2:t<=9223372036854775807)(hc:mI m now t=0):Calls Tryz.prog 88 #[jS pc,.int .i64 t] w fun e w' =>e=.returned (.int .i64 0)/\Clk w' pc m t/\Fr [pc] w w' :=by
 have hC:=aAD h t ht ht2;have hk:=aEO hc;rw[hc]at hC;have HC:=qA hC;clear hC;have c1:=h.hd.cell 1;have f1:=h.hd.frozen 1;simp only[zJ,zK]at c1;have HR:=qA (show Clk (w.setCell ⟨pc,1,none⟩ (.int .i64 t)) pc m t from⟨h.hd.set 1 _,h.m1,h.m2,by have:=h.n0;omega,hk.2⟩);clear h hc hk;go_enter Tryz.func88,Tryz.ntmps88
 go_wp2_with fail
 refine HC.out.mono ?_;rintro _ w ⟨rfl,rfl⟩;go_wp2
 go_ret;exact⟨rfl,HR.out,(Fr.refl _ _).setCell _ _ (.inl (by simp))⟩
theorem aRF(h:Clk w pc m now)(t:Int)(ht:-9223372036854775808<=t)(ht2:t<=9223372036854775807):Calls Tryz.prog 134 #[jS pc,.int .i64 t] w fun e w' =>e=.returned (.tuple #[.int .i64 (gK t m),.int .i64 (gJ t m)])/\w' =w:=by
 have HV:=qA (oG h);have HA:=qA (xT h.m1 h.m2 t ht ht2 w);have c0:=h.hd.cell 0;simp only[zJ]at c0;clear h;generalize gJ t m=cc at *;generalize gK t m=vv at *;go_enter Tryz.func134,Tryz.ntmps134
 go_wp2_with fail
 refine HV.out.mono ?_;rintro _ w ⟨rfl,rfl⟩;go_wp2_with fail
 refine HA.out.mono ?_;rintro _ w ⟨rfl,rfl⟩;go_wp2
 go_ret2;exact⟨rfl,rfl⟩
end
structure Wp where
  m:Int
  E:Nat
  V:Nat
  D:Int
  now:Int
  s:Sm
  Q:Nat->Option Int
  nq:Nat
  G:Nat->Option (Nat×Nat×Int)
  added:Nat
  gone:Nat
def eE(pw pc:Nat)(Ks lx Lf:List Nat):List Nat:=pw::pc::(Ks++(lx++Lf))
structure eP (w:World) (pw pc ps px pf:Nat) (P:Wp) (Ks lx Lf:List Nat) (cl:Nat->Nat):Prop where
  hd:Blk w pw 38 [.int .i64 P.m,.int .i64 P.E,.int .i64 P.V,.int .i64 P.D,jS pc,iM ps,bQ px,eN pf,.int .u64 P.added,.int .u64 P.gone]
  clk:Clk w pc P.m P.now
  st:bG w ps P.s Ks
  sch:fP w px P.E P.Q P.nq lx
  fo:FAt w pf P.E P.V P.G Lf
  kw:cl pw=0
  kc:cl pc=1
  ks:∀q∈Ks,cl q=2
  kx:∀q∈lx,cl q=3
  kf:∀q∈Lf,cl q=4
section
variable {w w' :World} {pw pc ps px pf:Nat} {P:Wp} {Ks Ks' lx lx' Lf Lf' S:List Nat} {cl:Nat->Nat}
theorem eP.fr(h:eP w pw pc ps px pf P Ks lx Lf cl)(hf:Fr S w w')(hs:∀q∈eE pw pc Ks lx Lf,q∉S):eP w' pw pc ps px pf P Ks lx Lf cl:=
  ⟨hf.blk h.hd (hs _ (by simp[eE])),h.clk.fr hf (hs _ (by simp[eE])),h.st.fr hf (fun q hq=>hs q (by simp[eE,hq])),h.sch.fr hf (fun q hq=>hs q (by simp[eE,hq])),h.fo.fr hf (fun q hq=>hs q (by simp[eE,hq])),h.kw,h.kc,h.ks,h.kx,h.kf⟩
theorem eP.fr0(h:eP w pw pc ps px pf P Ks lx Lf cl)(hf:Fr [] w w'):eP w' pw pc ps px pf P Ks lx Lf cl:=h.fr hf (by simp)
theorem eP.lt(h:eP w pw pc ps px pf P Ks lx Lf cl):∀q∈eE pw pc Ks lx Lf,q<w.heap.size:=by
 intro q hq;simp only[eE,qB,qE]at hq;rcases hq with rfl|rfl|hq|hq|hq
 · exact h.hd.lt
 · exact h.clk.hd.lt
 · exact h.st.lt q hq
 · exact h.sch.lt q hq
 · exact h.fo.lt q hq
theorem gB{k n:Nat}{cl:Nat->Nat}{q j:Nat}(h1:q<n)(h2:cl q=j):(if q<n then cl q else k)=j:=by rw[qD h1];exact h2
theorem xU{A A' :List Nat}{n k:Nat}{cl:Nat->Nat}(h:∀q∈A,cl q=k)(hl:∀q∈A,q<n)(hq:∀q∈A', q∈A∨n<=q):∀q∈A', (if q<n then cl q else k)=k:=by
 intro q hm;rcases hq q hm with e|e
 · exact gB (hl q e) (h q e)
 · rw[qC (by omega)]
theorem eP.setSt(h:eP w pw pc ps px pf P Ks lx Lf cl){s' :Sm}(hs:bG w' ps s' Ks')(hF:Fr Ks w w')(hq:∀q∈Ks', q∈Ks∨w.heap.size<=q):∃cl', eP w' pw pc ps px pf { P with s:=s' } Ks' lx Lf cl' :=by
 refine⟨fun q=>if q<w.heap.size then cl q else 2,hF.blk h.hd (fun hm=>by have:=h.ks _ hm;have:=h.kw;omega),h.clk.fr hF (fun hm=>by have:=h.ks _ hm;have:=h.kc;omega),hs,h.sch.fr hF (fun q hq hm=>by have:=h.ks _ hm;have:=h.kx q hq;omega),h.fo.fr hF (fun q hq hm=>by have:=h.ks _ hm;have:=h.kf q hq;omega),
   gB h.hd.lt h.kw,gB h.clk.hd.lt h.kc,xU h.ks (fun q hq=>h.st.lt q hq) hq,fun q hq=>gB (h.sch.lt q hq) (h.kx q hq),fun q hq=>gB (h.fo.lt q hq) (h.kf q hq)⟩
theorem eP.setSch(h:eP w pw pc ps px pf P Ks lx Lf cl){Q' :Nat->Option Int}{nq' :Nat}(hs:fP w' px P.E Q' nq' lx')(hF:Fr lx w w')(hq:∀q∈lx', q∈lx∨w.heap.size<=q):∃cl', eP w' pw pc ps px pf { P with Q:=Q', nq:=nq' } Ks lx' Lf cl' :=by
 refine⟨fun q=>if q<w.heap.size then cl q else 3,hF.blk h.hd (fun hm=>by have:=h.kx _ hm;have:=h.kw;omega),h.clk.fr hF (fun hm=>by have:=h.kx _ hm;have:=h.kc;omega),h.st.fr hF (fun q hq hm=>by have:=h.kx _ hm;have:=h.ks q hq;omega),hs,h.fo.fr hF (fun q hq hm=>by have:=h.kx _ hm;have:=h.kf q hq;omega),
   gB h.hd.lt h.kw,gB h.clk.hd.lt h.kc,fun q hq=>gB (h.st.lt q hq) (h.ks q hq),xU h.kx (fun q hq=>h.sch.lt q hq) hq,fun q hq=>gB (h.fo.lt q hq) (h.kf q hq)⟩
theorem eP.setFo(h:eP w pw pc ps px pf P Ks lx Lf cl){G' :Nat->Option (Nat×Nat×Int)}(hs:FAt w' pf P.E P.V G' Lf')(hF:Fr Lf w w')(hq:∀q∈Lf', q∈Lf∨w.heap.size<=q):∃cl', eP w' pw pc ps px pf { P with G:=G' } Ks lx Lf' cl' :=by
 refine⟨fun q=>if q<w.heap.size then cl q else 4,hF.blk h.hd (fun hm=>by have:=h.kf _ hm;have:=h.kw;omega),h.clk.fr hF (fun hm=>by have:=h.kf _ hm;have:=h.kc;omega),h.st.fr hF (fun q hq hm=>by have:=h.kf _ hm;have:=h.ks q hq;omega),h.sch.fr hF (fun q hq hm=>by have:=h.kf _ hm;have:=h.kx q hq;omega),hs,
   gB h.hd.lt h.kw,gB h.clk.hd.lt h.kc,fun q hq=>gB (h.st.lt q hq) (h.ks q hq),fun q hq=>gB (h.sch.lt q hq) (h.kx q hq),xU h.kf (fun q hq=>h.fo.lt q hq) hq⟩
theorem eP.setClk(h:eP w pw pc ps px pf P Ks lx Lf cl){now' :Int}(hs:Clk w' pc P.m now')(hF:Fr [pc] w w'):eP w' pw pc ps px pf { P with now:=now' } Ks lx Lf cl:=by
 have hp:∀q,q∈[pc]->q=pc:=fun q hq=>by simpa using hq
 exact⟨hF.blk h.hd (fun hm=>by have:=hp _ hm;have:=h.kw;have:=h.kc;subst_vars;omega),hs,h.st.fr hF (fun q hq hm=>by have e:=hp _ hm;have:=h.ks q hq;have:=h.kc;rw[e]at *;omega),h.sch.fr hF (fun q hq hm=>by have e:=hp _ hm;have:=h.kx q hq;have:=h.kc;rw[e]at *;omega),h.fo.fr hF (fun q hq hm=>by have e:=hp _ hm;have:=h.kf q hq;have:=h.kc;rw[e]at *;omega),h.kw,h.kc,h.ks,h.kx,h.kf⟩
theorem eP.setN(h:eP w pw pc ps px pf P Ks lx Lf cl)(hF:Fr [pw] w w'){a g:Nat}(hb:Blk w' pw 38 [.int .i64 P.m,.int .i64 P.E,.int .i64 P.V,.int .i64 P.D,jS pc,iM ps,bQ px,eN pf,.int .u64 a,.int .u64 g]):eP w' pw pc ps px pf { P with added:=a,gone:=g } Ks lx Lf cl:=by
 have hp:∀q,q∈[pw]->q=pw:=fun q hq=>by simpa using hq
 exact⟨hb,h.clk.fr hF (fun hm=>by have e:=hp _ hm;have:=h.kc;have:=h.kw;rw[e]at *;omega),h.st.fr hF (fun q hq hm=>by have e:=hp _ hm;have:=h.ks q hq;have:=h.kw;rw[e]at *;omega),h.sch.fr hF (fun q hq hm=>by have e:=hp _ hm;have:=h.kx q hq;have:=h.kw;rw[e]at *;omega),h.fo.fr hF (fun q hq hm=>by have e:=hp _ hm;have:=h.kf q hq;have:=h.kw;rw[e]at *;omega),h.kw,h.kc,h.ks,h.kx,h.kf⟩
end
def Wm.wp(W:Wm)(nq:Nat):Wp:={ m:=W.m,E:=W.E,V:=W.V,D:=W.D,now:=W.now,s:=W.s,Q:=W.Q,nq:=nq,G:=W.G,added:=W.s.last,gone:=W.gone }
def kD(w:World)(pw:Nat)(W:Wm)(K:List Nat):Prop:=W.Ok/\∃pc ps px pf nq Ks lx Lf cl,eP w pw pc ps px pf (W.wp nq) Ks lx Lf cl/\K=eE pw pc Ks lx Lf
section
variable {w w' :World} {pw:Nat} {W:Wm} {K S:List Nat}
theorem kD.fr(h:kD w pw W K)(hf:Fr S w w')(hs:∀q∈K,q∉S):kD w' pw W K:=by
 obtain⟨h0,pc,ps,px,pf,nq,Ks,lx,Lf,cl,h,rfl⟩:=h;exact⟨h0,pc,ps,px,pf,nq,Ks,lx,Lf,cl,h.fr hf hs,rfl⟩
theorem kD.lt(h:kD w pw W K):∀q∈K,q<w.heap.size:=by
 obtain⟨h0,pc,ps,px,pf,nq,Ks,lx,Lf,cl,h,rfl⟩:=h;exact h.lt
end
end Go.Proofs.YtjdgpcjbgjnahaaGreatDoor
namespace Go.Proofs.YtjdgpcjbgjnahaaGreatDoor
open Go.RowKit Go.Lib Go.Sort
instance:Inhabited Lv:=⟨Lv.z⟩
def Tryz.laysSortL_ren:Go.Shelf.Ren:=⟨fun|6=>104|15=>147|14=>146|28=>193|29=>194|20=>185|21=>186|22=>187|23=>188|24=>189|25=>190|26=>191|27=>192|46=>215|47=>216|48=>217|49=>218|50=>219|57=>233|n=>n,fun|22=>59|24=>74|25=>162|3=>3|39=>27|0=>0|53=>23|55=>36|4=>4|46=>275|45=>274|50=>164|5=>5|9=>9|66=>292|70=>295|76=>302|77=>303|n=>n,fun|n=>n⟩
theorem Tryz.laysSortL:Go.Proofs.SlLaysF0.n6 Tryz.prog Tryz.laysSortL_ren:={
  mixed:=by kernel_rfl
  f6:=⟨Tryz.f104.name,by decide,Tryz.func104.trans (congrArg some (by kernel_rfl))⟩
  f14:=⟨Tryz.f146.name,by decide,Tryz.func146.trans (congrArg some (by kernel_rfl))⟩
  f15:=Tryz.func147.trans (congrArg some (by kernel_rfl))
  f20:=⟨Tryz.f185.name,by decide,Tryz.func185.trans (congrArg some (by kernel_rfl))⟩
  f21:=⟨Tryz.f186.name,by decide,Tryz.func186.trans (congrArg some (by kernel_rfl))⟩
  f22:=⟨Tryz.f187.name,by decide,Tryz.func187.trans (congrArg some (by kernel_rfl))⟩
  f23:=⟨Tryz.f188.name,by decide,Tryz.func188.trans (congrArg some (by kernel_rfl))⟩
  f24:=⟨Tryz.f189.name,by decide,Tryz.func189.trans (congrArg some (by kernel_rfl))⟩
  f25:=⟨Tryz.f190.name,by decide,Tryz.func190.trans (congrArg some (by kernel_rfl))⟩
  f26:=⟨Tryz.f191.name,by decide,Tryz.func191.trans (congrArg some (by kernel_rfl))⟩
  f27:=⟨Tryz.f192.name,by decide,Tryz.func192.trans (congrArg some (by kernel_rfl))⟩
  f28:=Tryz.func193.trans (congrArg some (by kernel_rfl))
  f29:=Tryz.func194.trans (congrArg some (by kernel_rfl))
  f46:=⟨Tryz.f215.name,by decide,Tryz.func215.trans (congrArg some (by kernel_rfl))⟩
  f47:=Tryz.func216.trans (congrArg some (by kernel_rfl))
  f48:=Tryz.func217.trans (congrArg some (by kernel_rfl))
  f49:=⟨Tryz.f218.name,by decide,Tryz.func218.trans (congrArg some (by kernel_rfl))⟩
  f50:=⟨Tryz.f219.name,by decide,Tryz.func219.trans (congrArg some (by kernel_rfl))⟩
  f57:=⟨Tryz.f233.name,by decide,Tryz.func233.trans (congrArg some (by kernel_rfl))⟩
  t0:=Tryz.underlying0
  a0:=Tryz.isAgg0
  z0:=Tryz.sizeOf0
  v0:=Tryz.zeroValue0
  t3:=Tryz.underlying3
  a3:=Tryz.isAgg3
  z3:=Tryz.sizeOf3
  v3:=Tryz.zeroValue3
  t4:=Tryz.underlying4
  a4:=Tryz.isAgg4
  z4:=Tryz.sizeOf4
  v4:=Tryz.zeroValue4
  t5:=Tryz.underlying5
  a5:=Tryz.isAgg5
  z5:=Tryz.sizeOf5
  v5:=Tryz.zeroValue5
  t9:=Tryz.underlying9
  a9:=Tryz.isAgg9
  z9:=Tryz.sizeOf9
  v9:=Tryz.zeroValue9
  t22:=Tryz.underlying59
  a22:=Tryz.isAgg59
  z22:=Tryz.sizeOf59
  v22:=Tryz.zeroValue59
  t25:=Tryz.underlying162
  a25:=Tryz.isAgg162
  z25:=Tryz.sizeOf162
  v25:=Tryz.zeroValue162
  t39:=Tryz.underlying27
  a39:=Tryz.isAgg27
  z39:=Tryz.sizeOf27
  v39:=Tryz.zeroValue27
  t45:=Tryz.underlying274
  a45:=Tryz.isAgg274
  z45:=Tryz.sizeOf274
  v45:=Tryz.zeroValue274
  t46:=Tryz.underlying275
  a46:=Tryz.isAgg275
  z46:=Tryz.sizeOf275
  v46:=Tryz.zeroValue275
  t50:=Tryz.underlying164
  a50:=Tryz.isAgg164
  z50:=Tryz.sizeOf164
  v50:=Tryz.zeroValue164
  t53:=Tryz.underlying23
  a53:=Tryz.isAgg23
  z53:=Tryz.sizeOf23
  v53:=Tryz.zeroValue23
  t55:=Tryz.underlying36
  a55:=Tryz.isAgg36
  z55:=Tryz.sizeOf36
  v55:=Tryz.zeroValue36
  t66:=Tryz.underlying292
  a66:=Tryz.isAgg292
  z66:=Tryz.sizeOf292
  v66:=Tryz.zeroValue292
  t70:=Tryz.underlying295
  a70:=Tryz.isAgg295
  z70:=Tryz.sizeOf295
  v70:=Tryz.zeroValue295
  t76:=Tryz.underlying302
  a76:=Tryz.isAgg302
  z76:=Tryz.sizeOf302
  v76:=Tryz.zeroValue302
  t77:=Tryz.underlying303
  a77:=Tryz.isAgg303
  z77:=Tryz.sizeOf303
  v77:=Tryz.zeroValue303 }
def pY(a b:Lv):Int:=if a.seq<b.seq then -1 else if b.seq<a.seq then 1 else 0
theorem xV(a b:Lv):ltOf pY a b=decide (a.seq<b.seq):=by
 unfold ltOf pY;by_cases h1:a.seq<b.seq
 · simp[h1]
 · by_cases h2:b.seq<a.seq<;>simp[h1,h2]
theorem aOE:SWO (ltOf pY) where
  irrefl x:=by rw[xV];simp
  trans x y z h1 h2:=by rw[xV]at *;simp at *;omega
  ntrans x y z h1 h2:=by rw[xV]at *;simp at *;omega
theorem aAE(l:List Lv):(flatK lvC 7 l.toArray).toList=rowV l:=by
 refine List.ext_getElem? fun t=>?_;by_cases ht:t<l.length*7
 {
 have h7:t/7<l.length:=by omega
 have hm:t%7<7:=Nat.mod_lt _ (by omega);have h1:=wY h7 (t%7) hm;rw[show t/7*7+t%7=t by omega]at h1;rw[h1,Array.getElem?_toList];have hc:t%7<(lvC l[t/7]).length:=by simp[lvC];omega
 rw[qL hc];simp only[flatK,List.size_toArray,Array.getElem?_map];rw[Array.getElem?_eq_getElem (by simpa using ht)];simp only[Array.getElem_range,Option.map_some];rw[getElem!_pos l.toArray (t/7) (by simpa using h7)];simp only[List.getElem_toArray];rw[getElem!_pos (lvC (l[t/7])) (t%7) hc]}
 · rw[zB (by simp;omega),zB (by rw[sK];omega)]
theorem lF:∀{L l:List Lv},l.Perm L->L.Pairwise (fun a b=>a.seq<b.seq)->l.Pairwise (fun a b=>a.seq<=b.seq)->l=L
  | [],l,hp,_,_=>List.Perm.eq_nil hp
  | a::r,[],hp,_,_=>by have:=hp.length_eq;simp at this
  | a::r,b::t,hp,hL,hl=>by
    rw[List.pairwise_cons]at hL hl;have hb:b∈a::r:=hp.subset (List.mem_cons_self ..);have ha:a∈b::t:=hp.symm.subset (List.mem_cons_self ..);have e:b=a:=by
      rcases qB.1 hb with e|hb
      · exact e
      · rcases qB.1 ha with e | ha
        · exact e.symm
        · have h1 := hL.1 b hb
          have h2:=hl.1 a ha;omega
    subst e;rw[lF (List.Perm.cons_inv hp) hL.2 hl.2]
theorem xW(x:Int)(w:World):Calls Tryz.prog 148 #[.int .u64 x] w fun e w' =>e=.returned (.bool false)/\w' =w:=by
 go_enter Tryz.func148,Tryz.ntmps148
 go_wp2
 go_ret;exact⟨by simp,rfl⟩
theorem aGK(x y:Nat)(w:World):Calls Tryz.prog 106 #[.int .u64 x,.int .u64 y] w fun e w' =>e=.returned (.int .i64 (if x<y then -1 else if y<x then 1 else 0))/\w' =w:=by
 go_enter Tryz.func106,Tryz.ntmps106
 by_cases h1:x<y
 {
 have d1:decide ((x:Int)<(y:Int))=true:=qG (by omega);go_wp2_with (go_at_call 148;refine(xW _ _).mono ?_;rintro e w' ⟨rfl,rfl⟩)
 go_ret;exact⟨by simp[h1],rfl⟩}
 {
 have d1:decide ((x:Int)<(y:Int))=false:=qF (by omega);by_cases h2:y<x
 {
 have d2:decide ((y:Int)<(x:Int))=true:=qG (by omega);go_wp2_with (go_at_call 148;refine(xW _ _).mono ?_;rintro e w' ⟨rfl,rfl⟩)
 go_ret;exact⟨by simp[h1],rfl⟩}
 {
 have d2:decide ((y:Int)<(x:Int))=false:=qF (by omega);go_wp2_with (go_at_call 148;refine(xW _ _).mono ?_;rintro e w' ⟨rfl,rfl⟩)
 go_ret;exact⟨by simp[h1],rfl⟩}}
theorem aAF(a b:Lv)(w:World):Calls Tryz.prog 105 #[lvA a,lvA b] w fun e w' =>e=.returned (.int .i64 (pY a b))/\∃q os', w' =grow (w.drewN q) os' :=by
 have hcon:=fun W=>aGK a.seq b.seq W;have hr:pY a b=if a.seq<b.seq then -1 else if b.seq<a.seq then 1 else 0:=rfl;rw[<-hr]at hcon;generalize pY a b=r at *;have HC:=qA hcon;clear hr hcon;go_enter Tryz.func105,Tryz.ntmps105
 go_wp2_with (go_at_call 106;refine(HC.out _).mono ?_;rintro e w' ⟨rfl,rfl⟩)
 go_ret;exact⟨rfl,0,_,by rw[alloc_eq_grow,alloc_eq_grow,grow_grow];rfl⟩
theorem aJY(blk off size:Nat)(w:World):CmpLays Tryz.prog 105 #[] lvC 7 pY blk off size w:=
  fun _ _ _ _ x y=>aAF x y _
theorem aJZ(fv:Value)(w:World):Calls Tryz.prog 185 #[.slice none 0 0,.int .i64 0,.int .i64 0,fv] w fun e w' =>e=.returned (.tuple #[])/\w' =w:=by
 go_enter Tryz.func185,Tryz.ntmps185
 go_wp2
 refine wp_loop_rounds 1 ?_;rw[rounds_succ];go_wp2
 go_end0
 exact⟨rfl,rfl⟩
theorem aKA(k:Int)(fv:Value)(w:World):Calls Tryz.prog 146 #[.slice none 0 0,.int .i64 0,.int .i64 0,.int .i64 k,fv] w fun e w' =>e=.returned (.tuple #[])/\w' =w:=by
 go_enter Tryz.func146,Tryz.ntmps146
 go_wp2
 refine wp_loop_rounds 1 ?_;rw[rounds_succ];go_wp2_with (first|(go_at_call 185;refine(aJZ _ _).mono ?_;rintro e w' ⟨rfl,rfl⟩))
 refine bodyPost_ret (v:=.tuple #[]) (results_none rfl _ _ _) rfl ?_;exact⟨rfl,rfl⟩
theorem aGL(fv:Value)(w:World):Calls Tryz.prog 104 #[.slice none 0 0,fv] w fun e w' =>e=.returned (.tuple #[])/\w' =w:=by
 have h:=Any.bits_Len Tryz.laysLen 0 w (by omega) (by omega);have HL:=qA h;clear h;go_enter Tryz.func104,Tryz.ntmps104
 go_wp2_with fail
 refine HL.out.mono ?_;rintro _ _ ⟨rfl,rfl⟩;go_wp2_with fail
 refine(aKA _ _ _).mono ?_;rintro _ w1 ⟨rfl,rfl⟩;go_wp2
 go_end0
 exact⟨rfl,rfl⟩
theorem aGM{w:World}{v:Value}{l L:List Lv}(h:bN w v l)(hn:l.length<=16384)(hp:l.Perm L)(hs:L.Pairwise fun a b=>a.seq<b.seq):
    Calls Tryz.prog 104 #[v,.func (.func 105) #[] #[]] w fun e w' =>e=.returned (.tuple #[])/\bN w' v L/\Fr v.ownBlock.toList w w' :=by
 have hl:=h.1;rcases h.2 with⟨rfl,h0⟩|⟨g,cap,cur,rfl,hg,hcur,hnc,hcm,hcs,htk⟩
 {
 have:l=[]:=List.length_eq_zero_iff.1 (by simpa using h0);subst this;have hL:L=[]:=List.Perm.eq_nil hp.symm;subst hL;refine(aGL _ w).mono ?_;rintro _ w' ⟨rfl,rfl⟩;exact⟨rfl,h,Fr.refl _ _⟩}
 {
 have eg:∀args w,(callFunc 105 args).run Tryz.prog w=.ok (.enter 105 args) w:=enters_of Tryz.func105 (by kernel_rfl) rfl;have hH:HoldsK lvC 7 w g 0 l.toArray:=by {
 intro j hj;have hj' :j<l.length*7:=by simpa using hj
 refine⟨?_,by simp[World.frozen?,hcur]⟩;have h1:(cur.toList.take (l.length*7))[j]? =(rowV l)[j]? :=by rw[htk]
 rw[List.getElem?_take_of_lt hj']at h1;simp only[World.cell?,hcur,Nat.zero_add];simp only[Option.isSome_none,Bool.false_eq_true,if_false];rw[<-Array.getElem?_toList,h1,<-aAE,Array.getElem?_toList,getElem!_pos _ j hj,Array.getElem?_eq_getElem hj];rfl};have hcon:=AnyQ.slices_SortFunc Tryz.laysSortL 7 Tryz.isAgg74 Tryz.sizeOf74 lvC (fun _=>rfl) (fun x u hu=>by simp[lvC]at hu;rcases hu with rfl|rfl|rfl|rfl|rfl|rfl|rfl<;>rfl) pY aOE 105 #[] g 0 cap l.toArray w eg (aJY g 0 l.toArray.size w) hH (qM.1 hcur).1 (by simp;omega);rw[List.size_toArray]at hcon;refine hcon.mono ?_;rintro _ w' ⟨rfl,d', m,os,hperm,hsort,rfl⟩;obtain⟨hsz,_,hpp⟩:=hperm;simp only[List.size_toArray]at hsz;have e1:d'.extract 0 l.length=d' :=by rw[<-hsz];simp
 have e2:l.toArray.extract 0 l.length=l.toArray:=by simp
 rw[e1,e2]at hpp;have hd:d'.toList=L:=by {
 refine lF (hpp.trans hp) hs ?_;rw[List.pairwise_iff_getElem];intro i j hi hj hij;have hi' :i<d'.size:=by simpa using hi
 have hj' :j<d'.size:=by simpa using hj
 have:=hsort i j (qS _) hij (by omega);rw[xV,getElem!_pos d' i hi', getElem!_pos d' j hj']at this;simp only[decide_eq_false_iff_not]at this;simp only[Array.getElem_toList];omega};have hda:d' =L.toArray:=by rw[<-hd]
 subst hda;have hLl:L.length=l.length:=by simpa using hsz
 have hb:(sortWorldK lvC 7 w g 0 m L.toArray os).heap[g]? =some (.cells (putCells id 0 (flatK lvC 7 L.toArray) cur) 74 (0,0)):=by {
 unfold sortWorldK putRowK;rw[heap_grow_old _ _ (by simpa using (qM.1 hcur).1)];simp[putRow,mapBlock,Sort.ahead,Array.getElem?_modify,hcur,onCells]};refine⟨rfl,⟨by rw[sK],.inr ⟨g,cap,_,by rw[hLl],qS _,hb,by omega,hcm,by simp[putCells,hcs],?_⟩⟩,?_⟩
 {
 rw[<-aAE];refine List.ext_getElem? fun j=>?_;by_cases hj:j<L.length*7
 {
 rw[List.getElem?_take_of_lt hj,Array.getElem?_toList,Array.getElem?_toList];have hjc:j<cur.size:=by rw[hcs];omega
 have hjf:j<(flatK lvC 7 L.toArray).size:=by simpa using hj
 simp only[putCells,Array.getElem?_mapIdx,Array.getElem?_eq_getElem hjc,Option.map_some,qS,true_and,Nat.zero_add,qD hjf,Nat.sub_zero];rw[getElem!_pos _ j hjf,Array.getElem?_eq_getElem hjf];rfl}
 · rw[List.getElem?_take_eq_none (by omega),zB (by simp;omega)]}
 {
 refine(Fr.refl _ _).grown (row:=some g) ⟨rfl,rfl,rfl,by simp[sortWorldK,putRowK],fun k hk hne=>?_⟩ (fun k e=>.inl (by simp at e;simp[e,Value.ownBlock]));unfold sortWorldK putRowK;rw[heap_grow_old _ _ (by simpa using hk)];have:g≠k:=fun e=>hne (by rw[e]);simp[putRow,mapBlock,Sort.ahead,Array.getElem?_modify,this]}}
end Go.Proofs.YtjdgpcjbgjnahaaGreatDoor
namespace Go.Proofs.YtjdgpcjbgjnahaaGreatDoor
open Go.RowKit
theorem aGN{s:Sm}(h:s.Ok):((kM s.A).map (bM s.L)).Perm s.L:=by
 have h1:(kM s.A).Perm (s.L.map (·.slot)):=(List.perm_ext_iff_of_nodup (pU s.A) h.one).2 fun i=>by rw[oW,h.used];simp
 have h2:=h1.map (bM s.L);rw[List.map_map]at h2;have h3:s.L.map (bM s.L ∘ fun e=>e.slot)=s.L:=by {
 (conv=>rhs;rw[<-List.map_id s.L])
 exact List.map_congr_left fun e he=>sC h.one he};rw[h3]at h2;exact h2
section
variable {w w' :World} {ps:Nat} {s:Sm} {K:List Nat}
theorem aOF(h:bG w ps s K):Calls Tryz.prog 65 #[iM ps] w fun e w' =>∃v,e=.returned v/\bN w' v s.L/\(∀q,v.ownBlock=some q->w.heap.size<=q)/\Fr [] w w' :=by
 have HV:=qA (kR h);obtain⟨pa,pt,mb,n,vl,la,lT,lb,c,hB,rfl,c0,c1,c2,c3,c4,c5,c6⟩:=h.open;have HL:=qA (aBP hB.ar);have HB:=qA hB;have HLT:=qA hB.lt;clear h hB c0 c1 c2 c4 c6;go_enter Tryz.func65,Tryz.ntmps65
 go_wp2_with fail
 refine HV.out.mono ?_;rintro _ w ⟨rfl,rfl⟩;go_wp2_with fail
 refine HL.out.mono ?_;rintro _ w1 ⟨v,rfl,hown,hnew,hF1⟩;have hrow:gR w1 v (kM s.A):=hown;obtain⟨av,cv,rfl⟩:=hrow.slice;obtain⟨U,hU⟩:∃U,U=kM s.A:=⟨_,rfl⟩;have hUu:∀i∈U,bM s.L i∈s.L/\(bM s.L i).slot=i:=fun i hi=>by
   rw[hU,oW]at hi;exact Sm.live_used HB.out.ok hi
 have hperm:=aGN HB.out.ok;have hUl:U.length<=16384:=by {
 rw[hU,uW HB.out.ok.ar];have h2:=HB.out.ok.ar.hb;have h3:=HB.out.ok.sl;have h4:=HB.out.ok.leE;unfold Ar.used;omega};rw[<-hU]at hown hrow hperm hnew ⊢;clear hU hown HL HV;have HU:=qA (zI hUu (zI hperm hUl));clear hUu hperm;have HR:=qA (zI hrow (zI hnew hF1));clear hrow hnew hF1;go_wp2_with fail
 go_loopw [3,15] (fun x y wr=>∃(k:Nat) (v' :Value),k<=U.length/\y=.int .i64 k/\x=v' /\ Hid (bN wr v' ((U.take k).map (bM s.L))/\(∀q,v'.ownBlock=some q->w1.heap.size<=q)/\Fr [] w1 wr)) (fun _ y _=>U.length-(intOf y).toNat)
 case atStart=>exact⟨0,_,qS _,rfl,rfl,qA ⟨bN.nil _,fun q e=>(by cases e),Fr.refl _ _⟩⟩
 case round=>
  obtain⟨k,v', hk,rfl,rfl,HS⟩:=hrel;rename World=>wr
  by_cases hlt:k<U.length
  {
  have hki:(k:Int)<U.length:=by omega
  obtain⟨bI,cI,eI,hbI,hcI⟩:=(HR.out.1.fr0 HS.out.2.2).at hlt;simp only[qP,true_and]at eI;obtain⟨rfl,rfl⟩:=eI;obtain⟨x,hx⟩:∃x,x=U[k]:=⟨_,rfl⟩;obtain⟨hm,hs⟩:=HU.out.1 x (by rw[hx];exact List.getElem_mem hlt);have hxn:x<n:=by have:=HB.out.sn _ hm;omega
  have hxi:(x:Int)<n:=by omega
  have hF:Fr [] w wr:=HR.out.2.2.trans' HS.out.2.2;obtain⟨b,cap,ev,_,hb,hz,hat⟩:=(HB.out.lv.fr0 hF).at (i:=x) (by simp;omega);simp only[List.length_map,List.length_range]at ev;have k5:=hF.cell c5 (by simp);rw[ev]at k5;simp only[List.getElem_map,List.getElem_range]at hat;rw[<-hx]at hcI;obtain⟨e,he⟩:∃e,e=bM s.L x:=⟨_,rfl⟩;rw[<-he]at hat;have HE:=qA (zI he hx);clear he hx hm hs hz;obtain⟨e0,e1,e2,e3,e4,e5,e6⟩:=hat;obtain⟨ar,cr,er⟩:=HS.out.1.slice;have hlk:((U.take k).map (bM s.L)).length=k:=by simp;omega
  rw[hlk]at er;subst er;have hrow:(wr.alloc (.cells (lvC e).toArray 74)).ownsRow 0 74 7 (.slice ar k cr) k (rowV ((U.take k).map (bM s.L))):=by {
  have:=HS.out.1.fr0 ((Fr.refl [] wr).alloc (.cells (lvC e).toArray 74));unfold bN at this;rw[hlk]at this;exact this};have HRW:=qA hrow;clear hrow;have HZ:=qA (Blk.new wr (lvC e) 74);have H7:=qA (show ∀u∈lvC e,u.oneCell' =true from fun u hu=>by simp[lvC]at hu;rcases hu with rfl|rfl|rfl|rfl|rfl|rfl|rfl<;>rfl);have hUl2:=HU.out.2.2;go_wp2_with (first|(at_builtin;refine iH rfl _ _ 59 rfl 74 sJ 7 56 Tryz.underlying59 Tryz.info74 rfl (by decide) (.slice ar k cr) k _ rfl HRW.out wr.heap.size 74 (lvC e) rfl HZ.out rfl H7.out (by omega) (by decide) ?_;intro g' cap' w6 hown6 hgrow6 hg6;have hF6:Fr (Value.slice ar k cr).ownBlock.toList (wr.alloc (.cells (lvC e).toArray 74)) w6:=(Fr.refl _ _).grown hgrow6 (fun q e=>.inl (by simp[e])))|fail)
  go_roundw
  case rel=>
   have hs6:=hF6.size;have hown7:bN w6 (.slice (some ⟨g', 0,none⟩) (k+1) cap') ((U.take (k+1)).map (bM s.L)):=by {
   rw[List.take_add_one,qL hlt,Option.toList_some,List.map_append,List.map_cons,List.map_nil,<-HE.out.2,<-HE.out.1];unfold bN;rw[vB,zF,hlk];exact hown6};refine⟨k+1,_,by omega,by go_num,rfl,qA ⟨hown7,?_,?_⟩⟩
   {
   intro q hq;simp only[Value.ownBlock,qI]at hq;subst hq;rcases hg6 with h6|h6
   · exact HS.out.2.1 _ h6
   {
   have:=HS.out.2.2.size;simp only[World.size_alloc]at h6;omega}}
   · exact(HS.out.2.2.alloc _).trans hF6 (fun q hq=>.inr (HS.out.2.1 q (by simpa using hq)))
  case measure=>simp[intOf];omega}
  {
  obtain rfl:k=U.length:=by omega
  have hrow:=HS.out.1;rw[List.take_length]at hrow;have HSO:=qA (aGM hrow (by rw[List.length_map];exact HU.out.2.2) HU.out.2.1 HB.out.ok.seq);clear hrow;go_wp2_with fail
  refine HSO.out.mono ?_;rintro _ w9 ⟨rfl,hr9,hF9⟩;have HR9:=qA (zI hr9 hF9);clear hr9 hF9;go_wp2
  go_ret;have hs1:=HR.out.2.2.size;refine⟨_,rfl,HR9.out.1,fun q hq=>zH hs1 (HS.out.2.1 q hq),?_⟩;exact(HR.out.2.2.trans' HS.out.2.2).trans HR9.out.2 (fun q hq=>.inr (zH hs1 (HS.out.2.1 q (by simpa using hq))))}
end
abbrev eA(p:Nat):Value:=.pointer (some ⟨p,0,none⟩)
section
variable {w w' :World} {pw pc ps px pf:Nat} {P:Wp} {Ks lx Lf:List Nat} {cl:Nat->Nat}
theorem lG(h:eP w pw pc ps px pf P Ks lx Lf cl):Calls Tryz.prog 57 #[eA pw] w fun e w' =>e=.returned (.bool true)/\w' =w:=by
 have c4:=h.hd.cell 4;simp only[zJ,zK]at c4;clear h;go_enter Tryz.func57,Tryz.ntmps57
 go_wp2
 go_ret;exact⟨rfl,rfl⟩
theorem aRG(h:eP w pw pc ps px pf P Ks lx Lf cl):Calls Tryz.prog 29 #[eA pw] w fun e w' =>e=.returned (.int .i64 P.now)/\w' =w:=by
 have HV:=qA (lG h);have HN:=qA (aRE h.clk);have c4:=h.hd.cell 4;simp only[zJ,zK]at c4;clear h;go_enter Tryz.func29,Tryz.ntmps29
 go_wp2_with fail
 refine HV.out.mono ?_;rintro _ w ⟨rfl,rfl⟩;go_wp2_with fail
 refine HN.out.mono ?_;rintro _ w ⟨rfl,rfl⟩;go_wp2
 go_ret;exact⟨rfl,rfl⟩
theorem aOG(h:eP w pw pc ps px pf P Ks lx Lf cl):Calls Tryz.prog 34 #[eA pw] w fun e w' =>∃v,e=.returned v/\bN w' v P.s.L/\(∀q,v.ownBlock=some q->w.heap.size<=q)/\Fr [] w w' :=by
 have HV:=qA (lG h);have HL:=qA (aOF h.st);have c5:=h.hd.cell 5;simp only[zJ,zK]at c5;clear h;go_enter Tryz.func34,Tryz.ntmps34
 go_wp2_with fail
 refine HV.out.mono ?_;rintro _ w ⟨rfl,rfl⟩;go_wp2_with fail
 refine HL.out.mono ?_;rintro _ w1 ⟨v,rfl,h1⟩;have H1:=qA h1;clear h1;go_wp2
 go_ret;exact⟨v,rfl,H1.out⟩
end
section
variable {w w' :World} {pf S V:Nat} {G:cF} {L:List Nat}
theorem FAt.fo(h:FAt w pf S V G L):FO { w with heap:=#[] } w pf S V G L:=
  ⟨h,⟨rfl,rfl,rfl,qS _,fun b hb=>absurd hb (Nat.not_lt_zero _)⟩,fun q _=>qS _⟩
def FMv(w w' :World)(pf S V:Nat)(G:cF)(L:List Nat):Prop:=∃L', FAt w' pf S V G L' /\ Fr L w w' /\ ∀q∈L', q∈L∨w.heap.size<=q
theorem FM.mv{w0:World}{G' :cF}(h:FM w0 w w' pf S V G' L):FMv w w' pf S V G' L:=by
 obtain⟨L', h1,h2,h3⟩:=h;exact⟨L', h1.f,h2,h3⟩
theorem aRH(h:FAt w pf S V G L)(s a b x:Int)(hx:-9223372036854775808<=x/\x<=9223372036854775807):
    Calls Tryz.prog 138 #[eN pf,.int .i64 s,.int .i64 a,.int .i64 b,.int .i64 x] w fun e w' =>e=.returned (.int .i64 (eJ S V G s a b))/\FMv w w' pf S V (rK S V G s a b x) L:=
  (aRB h.fo s a b x hx).mono fun _ _ h=>⟨h.1,h.2.mv⟩
theorem aKB(h:FAt w pf S V G L):Calls Tryz.prog 61 #[eN pf] w fun e w' =>e=.returned (.int .i64 (kC V G))/\Fr [] w w' :=
  (aJU h.fo).mono fun _ _ h=>⟨h.1,h.2.2⟩
end
section
variable {w w' :World} {pw pc ps px pf:Nat} {P:Wp} {Ks lx Lf:List Nat} {cl:Nat->Nat}
end
section
variable {w w' :World} {ph px slots n:Nat} {Q:Nat->Option Int} {l S:List Nat}
theorem aKC(h:fO w ph slots Q n l){i:Nat}(hi:i<slots)(hQ:Q i=none):
    Calls Tryz.prog 209 #[bQ ph,.int .i64 i] w fun e w' =>e=.returned (.tuple #[.int .i64 0,.int .i64 5])/\w' =w:=by
 obtain⟨e,pl,v,gp,cp,bs,hm,hk,hp,hq,rfl⟩:=h;have hpl:pl i=0:=by {
 apply qQ;intro h0;obtain⟨p,hpn,hpe⟩:=hk.inv i h0;have:=(hq i (e p).2).2 ⟨p,hpn,by rw[<-hpe]⟩;rw[hQ]at this;cases this};have HV:=qA (zX hm);have HH:=qA (aJH hm hi);have hP:=aEH hm hi;rw[hpl]at hP;have HP:=qA hP;have t1:(((0:Nat):Int)-1 == -1)=true:=by decide
 have t2:((0:Int)-1 == -1)=true:=by decide
 clear hm hk hp hq hQ hpl hP;go_enter Tryz.func209,Tryz.ntmps209
 go_wp2_with fail
 refine HV.out.mono ?_;rintro _ w ⟨rfl,rfl⟩;go_wp2_with fail
 refine HH.out.mono ?_;rintro _ w ⟨rfl,rfl⟩;go_wp2_with fail
 refine HP.out.mono ?_;rintro _ w ⟨rfl,rfl⟩;go_wp2
 go_ret2;exact⟨rfl,rfl⟩
theorem aOH(h:fO w ph slots Q n l){i:Nat}(hi:i<slots)(hQ:Q i=none):
    Calls Tryz.prog 208 #[bQ ph,.int .i64 i] w fun e w' =>e=.returned (.tuple #[.int .i64 0,.bool false])/\w' =w:=by
 have HF:=qA (aKC h hi hQ);clear h hQ;go_enter Tryz.func208,Tryz.ntmps208
 go_wp2_with fail
 refine HF.out.mono ?_;rintro _ w ⟨rfl,rfl⟩;go_wp2
 go_ret2;exact⟨rfl,rfl⟩
theorem aOI{bs bi bt:Nat}(h:fP w px slots Q n l){i:Nat}(hi:i<slots)(hQ:Q i=none)(x:Int)(cs:w.cell? ⟨bs,0,none⟩=some (bQ px))(ci:w.cell? ⟨bi,0,none⟩=some (.int .i64 i))(ct:w.cell? ⟨bt,0,none⟩=some (.int .i64 x)):
    Calls Tryz.prog 175 #[.bool false,.pointer (some ⟨bs,0,none⟩),.pointer (some ⟨bi,0,none⟩),.pointer (some ⟨bt,0,none⟩)] w fun e w' =>e=.returned (.int .i64 0)/\∃l', fP w' px slots (uJ Q i (some x)) (n+1) l' /\ Fr l w w' /\ ∀b∈l', b∈l∨w.heap.size<=b:=by
 obtain⟨ph,lh,h1,h2,h3,rfl⟩:=h;have c1:=h1.cell 1;simp only[zJ,zK]at c1;have HP:=qA (fun(nq:Nat)=>aEL (h2.fr ((Fr.refl [] w).drewN nq) (by simp)) hi hQ x);have HX:=qA (zI h1 (zI h2 h3));clear h1 h2 h3 hQ;go_enter Tryz.func175,Tryz.ntmps175
 go_wp2_with fail
 refine bS 6 (fun w' =>∃lh', fO w' ph slots (uJ Q i (some x)) (n+1) lh' /\ Fr lh w w' /\ ∀b∈lh', b∈lh∨w.heap.size<=b) (by kernel_rfl) (by kernel_rfl) (by kernel_rfl) ?_;iterate 6 (refine cK (by decide) (fun K hK=>?_);go_simp;refine hK _ ?_;clear hK K)
 refine bL rfl (.int .i64 0) (fun w' hw' =>?_) ?_
 {
 obtain⟨nq,rfl⟩:=hw';go_simp;refine(HP.out nq).mono ?_;rintro _ w1 ⟨rfl,lh', k1,k2,k3⟩;exact⟨rfl,lh', k1,((Fr.refl lh w).drewN nq).trans' k2,fun b hb=>(k3 b hb).imp id (fun e=>by simpa using e)⟩};iterate 1 (refine jL (by decide) (fun K hK=>?_);go_simp;refine hK _ ?_;clear hK K)
 refine cL ?_;rintro w1 ⟨lh', k1,k2,k3⟩;have HK:=qA (zI k1 (zI k2 k3));clear k1 k2 k3 cs ci ct c1;go_wp2
 go_ret;refine⟨rfl,px::lh', ⟨ph,lh', HK.out.2.1.blk HX.out.1 HX.out.2.2,HK.out.1,fun hm=>?_,rfl⟩,HK.out.2.1.mono (by simp +contextual),fun b hb=>?_⟩
 {
 rcases HK.out.2.2 _ hm with h|h
 · exact HX.out.2.2 h
 · have:=HX.out.1.lt;omega}
 {
 rcases qB.1 hb with rfl|hb
 · exact .inl (by simp)
 · exact(HK.out.2.2 b hb).imp (fun h=>by simp[h]) id}
theorem aOJ(h:fP w px slots Q n l){i:Nat}(hi:i<slots)(hQ:Q i=none){a b c:Value}{R:World->Prop}(hc:Calls Tryz.prog 175 #[.bool false,a,b,c] w fun e w' =>e=.returned (.int .i64 0)/\R w'):
    Calls Tryz.prog 174 #[bQ px,.int .i64 i,.func (.func 175) #[] #[a,b,c]] w fun e w' =>e=.returned (.int .i64 0)/\R w' :=by
 have HV:=qA (aJW h);obtain⟨ph,lh,h1,h2,h3,rfl⟩:=h;have HK:=qA (aOH h2 hi hQ);have HC:=qA hc;have k0:=h1.cell 0;have k1:=h1.cell 1;simp only[zJ,zK]at k0 k1;clear h1 h2 h3 hQ hc;have d1:decide ((i:Int)<0)=false:=qF (by omega);have d2:decide ((i:Int)≥slots)=false:=qF (by omega);go_enter Tryz.func174,Tryz.ntmps174
 go_wp2_with fail
 refine HV.out.mono ?_;rintro _ w ⟨rfl,rfl⟩;go_wp2_with fail
 refine HK.out.mono ?_;rintro _ w ⟨rfl,rfl⟩;go_wp2_with fail
 refine HC.out.mono ?_;rintro _ w1 ⟨rfl,hR⟩;have HR:=qA hR;clear hR k0 k1;go_wp2
 go_ret;exact⟨rfl,HR.out⟩
theorem aRI(h:fP w px slots Q n l){i:Nat}(hi:i<slots)(hQ:Q i=none)(x:Int):
    Calls Tryz.prog 137 #[bQ px,.int .i64 i,.int .i64 x] w fun e w' =>e=.returned (.int .i64 0)/\∃l', fP w' px slots (uJ Q i (some x)) (n+1) l' /\ Fr l w w' /\ ∀b∈l', b∈l∨w.heap.size<=b:=by
 have b1:=Blk.new w [bQ px] 34;have b2:=Blk.new (w.alloc (.cells #[bQ px] 34)) [.int .i64 i] 3;have b3:=Blk.new ((w.alloc (.cells #[bQ px] 34)).alloc (.cells #[.int .i64 i] 3)) [.int .i64 x] 2;have hF:Fr [] w (((w.alloc (.cells #[bQ px] 34)).alloc (.cells #[.int .i64 i] 3)).alloc (.cells #[.int .i64 x] 2)):=(((Fr.refl _ _).alloc _).alloc _).alloc _;have hs:(((w.alloc (.cells #[bQ px] 34)).alloc (.cells #[.int .i64 i] 3)).alloc (.cells #[.int .i64 x] 2)).heap.size=w.heap.size+3:=by simp
 have y1:=((b1.alloc (.cells #[.int .i64 i] 3)).alloc (.cells #[.int .i64 x] 2)).cell 0;have y2:=(b2.alloc (.cells #[.int .i64 x] 2)).cell 0;have y3:=b3.cell 0;simp only[zJ,World.size_alloc]at y1 y2 y3;have HW:=qA (aOJ (h.fr0 hF) hi hQ (aOI (h.fr0 hF) hi hQ x y1 y2 y3));have HF:=qA hF;clear b1 b2 b3 hF h hQ y2 y3;go_enter Tryz.func137,Tryz.ntmps137
 go_wp2_with fail
 refine HW.out.mono ?_;rintro _ w1 ⟨rfl,l', k1,k2,k3⟩;have HK:=qA (zI k1 (zI k2 k3));clear k1 k2 k3 y1;go_wp2
 go_ret;exact⟨rfl,l', HK.out.1,(HF.out.mono (by simp)).trans' HK.out.2.1,fun b hb=>(HK.out.2.2 b hb).imp id (fun e=>by omega)⟩
end
theorem oH{M:Md}(h:M.Ok){u v i:Nat}(hu:M.find u=some i)(hv:M.find v=some i):u=v:=by
 have h1:=Md.find_mem hu;have h2:=Md.find_mem hv;have h3:=Md.mem_idOf h.idx h1;have h4:=Md.mem_idOf h.idx h2;rw[h3]at h4;exact Option.some.inj h4
end Go.Proofs.YtjdgpcjbgjnahaaGreatDoor
