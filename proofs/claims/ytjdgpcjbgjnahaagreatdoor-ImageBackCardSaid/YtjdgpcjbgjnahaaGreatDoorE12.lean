/- lct: Copy. -/
import Derived.Ground.SlmcProg
import Derived.Shelf.SlMaps.Clone
import Derived.StillTailTactics
import Derived.Test.YtjdgpcjbgjnahaaGreatDoorE10
import Derived.Test.YtjdgpcjbgjnahaaGreatDoorE9
import Derived.Test.YtjdgpcjbgjnahaaGreatDoorE11
import Derived.Test.YtjdgpcjbgjnahaaGreatDoorE5
import Derived.Test.YtjdgpcjbgjnahaaGreatDoorE4
import Derived.Test.YtjdgpcjbgjnahaaGreatDoorE1
import Derived.Test.YtjdgpcjbgjnahaaGreatDoorE8
import Derived.Deep.RegionHeld3
import Derived.Shelf.SlGeneric
import Derived.Ground.SlgnProg
import Derived.Shelf.SlicesE.Clone
import Derived.Test.YtjdgpcjbgjnahaaGreatDoorE7
set_option maxRecDepth 10000
set_option maxHeartbeats 1600000
set_option linter.unusedSimpArgs false
set_option linter.unusedVariables false
/- store: Copy. -/
namespace Go.Proofs.YtjdgpcjbgjnahaaGreatDoor
open Go.RowKit
def Tryz.laysCloneMS_ren:Go.Shelf.Ren:=⟨fun|5=>118|7=>159|n=>n,fun|23=>143|25=>36|3=>158|4=>4|20=>20|n=>n,fun|n=>n⟩
theorem Tryz.laysCloneMS:Go.Proofs.SlLaysW.n5 Tryz.prog Tryz.laysCloneMS_ren:={
  mixed:=by kernel_rfl
  f5:=⟨Tryz.f118.name,by decide,Tryz.func118.trans (congrArg some (by kernel_rfl))⟩
  f7:=Tryz.func159.trans (congrArg some (by kernel_rfl))
  t4:=Tryz.underlying4
  a4:=Tryz.isAgg4
  z4:=Tryz.sizeOf4
  v4:=Tryz.zeroValue4
  t20:=Tryz.underlying20
  a20:=Tryz.isAgg20
  z20:=Tryz.sizeOf20
  v20:=Tryz.zeroValue20
  t23:=Tryz.underlying143
  a23:=Tryz.isAgg143
  z23:=Tryz.sizeOf143
  v23:=Tryz.zeroValue143 }
def Tryz.laysCloneL_ren:Go.Shelf.Ren:=⟨fun|41=>117|n=>n,fun|22=>59|23=>74|4=>4|n=>n,fun|n=>n⟩
theorem Tryz.laysCloneL:Go.Proofs.SlLaysE0.n41 Tryz.prog Tryz.laysCloneL_ren:={
  mixed:=by kernel_rfl
  f41:=⟨Tryz.f117.name,by decide,Tryz.func117.trans (congrArg some (by kernel_rfl))⟩
  t4:=Tryz.underlying4
  a4:=Tryz.isAgg4
  z4:=Tryz.sizeOf4
  v4:=Tryz.zeroValue4
  t22:=Tryz.underlying59
  a22:=Tryz.isAgg59
  z22:=Tryz.sizeOf59
  v22:=Tryz.zeroValue59 }
theorem aFI{w:World}{v:Value}{l:List Lv}(h:dF w v l)(hp:l.length<=16384):
    Calls Tryz.prog 117 #[v] w fun e w' =>∃v', e=.returned v' /\ dF w' v' l/\(∀q,v'.ownBlock=some q->w.heap.size<=q)/\Fr [] w w' :=by
 obtain⟨i0,hi,hz0,hz1,hz2⟩:=info_parts Tryz.info74;rcases h.2 with⟨rfl,h0⟩|⟨g,cap,cur,e,hg,hcur,hnc,hcm,hcs,htk⟩
 {
 have hn:l=[]:=List.length_eq_zero_iff.1 (by simpa using h0);subst hn;refine(AnyE.slices_Clone_nil Tryz.laysCloneL 0 0 w).mono ?_;rintro _ _ ⟨rfl,rfl⟩;exact⟨_,rfl,h,fun q e=>(by cases e),Fr.refl _ _⟩}
 {
 subst e;refine(AnyE.slices_Clone Tryz.laysCloneL i0 yY 7 56 hi hz0 hz1 hz2 rfl (by decide) Tryz.sizeOf74 g 0 l.length cap (rowV l) w (by rw[oU]) (by unfold maxLen;omega) (by omega) (fun j u hj=>?_) (aLL l)).mono ?_
 {
 have hjl:j<l.length*7:=by have:=(qT.1 hj).1;rwa[oU]at this
 rw[<-htk,List.getElem?_take,qD hjl]at hj;simp[World.cell?,hcur]at hj ⊢;exact hj}
 {
 rintro _ w' ⟨v', rfl,h1,_,hB⟩;exact⟨v', rfl,lD h1,lE h1,Fr.of_below hB⟩}}
theorem aFJ{w:World}{mb n:Nat}{m:Int->Option Value}(h:dA Tryz.prog 36 .u64 okS w mb m n):
    Calls Tryz.prog 118 #[.map (some mb)] w fun e w' =>e=.returned (.map (some w.heap.size))/\dA Tryz.prog 36 .u64 okS w' w.heap.size m n/\Fr [] w w' :=by
 obtain⟨D,h1,h2,h3,h4⟩:=h;refine(AnyW.maps_Clone_owns Tryz.laysCloneMS 36 (sS okS) mb n D w h1).mono ?_;rintro _ w' ⟨rfl,k1,_,hB⟩;exact⟨rfl,⟨D,k1,h2,h3,h4⟩,Fr.of_below hB⟩
structure CI (w:World) (B mc:Nat) (iv iv' :Int->Option Value) (f:Nat->List Nat) (n:Nat) (dn:List Int) (lc:List Nat):Prop where
  im:dA Tryz.prog 36 .u64 okS w mc iv' n
  ge:∀q∈lc,B<=q
  lt:∀q∈lc,q<w.heap.size
  nm:mc∉lc
  row:∀id:Nat,id<U64->(id:Int)∈dn->((iv' id).isSome=true/\(iv id).isSome=true)/\dO w ((iv' id).getD gG) (f id)/\∀q,((iv' id).getD gG).ownBlock=some q->q∈lc
  old:∀id:Nat,id<U64->(id:Int)∉dn->iv' id=iv id
  inj:∀(id id' q:Nat),id<U64->id' < U64->(id:Int)∈dn->(id' :Int)∈dn->((iv' id).getD gG).ownBlock=some q->((iv' id').getD gG).ownBlock=some q->id=id'
section
variable {w w' w1 w2:World} {B mc n:Nat} {iv iv' :Int->Option Value} {f:Nat->List Nat} {dn:List Int} {lc S:List Nat}
theorem CI.fr(h:CI w B mc iv iv' f n dn lc)(hf:Fr S w w')(h1:mc∉S)(h2:∀q∈lc,q∉S):CI w' B mc iv iv' f n dn lc:=
  ⟨h.im.same (hf.keep mc h.im.lt h1),h.ge,fun q hq=>Nat.lt_of_lt_of_le (h.lt q hq) hf.size,h.nm,fun id hid hd=>⟨(h.row id hid hd).1,(h.row id hid hd).2.1.fr hf (fun q hq=>h2 q ((h.row id hid hd).2.2 q hq)),(h.row id hid hd).2.2⟩,h.old,h.inj⟩
theorem CI.start(h:dA Tryz.prog 36 .u64 okS w mc iv n):CI w B mc iv iv f n [] []:=
  ⟨h,by simp,by simp,by simp,fun _ _ h=>by simp at h,fun _ _ _=>rfl,fun _ _ _ _ _ h=>by simp at h⟩
theorem CI.put(h:CI w B mc iv iv' f n dn lc){id:Nat}(hid:id<U64)(hs:(iv id).isSome=true)(hd:(id:Int)∉dn){v1:Value}(hr:dO w1 v1 (f id))(hq:∀q,v1.ownBlock=some q->w.heap.size<=q)(hB:B<=w.heap.size)
    (hF:Fr [] w w1) (hI:dA Tryz.prog 36 .u64 okS w2 mc (jY iv' id (some v1)) (if (iv' id).isSome=true then n else n+1)) (hF2:Fr [mc] w1 w2):CI w2 B mc iv (jY iv' id (some v1)) f n (dn++[(id:Int)]) (lc++v1.ownBlock.toList):=by
 have hml:=h.im.lt;have hs1:=hF.size;have hs2:=hF2.size;rw[h.old id hid hd,qD hs]at hI;have hm1:∀q,v1.ownBlock=some q->q≠mc:=fun q hqq e=>by have:=hq q hqq;omega
 refine⟨hI,fun q hqm=>?_,fun q hqm=>?_,fun hm=>?_,fun x hx hxd=>?_,fun x hx hxd=>?_,fun x y q hx hy hxd hyd hxq hyq=>?_⟩
 {
 rcases qE.1 hqm with e|e
 · exact h.ge q e
 · have:=hq q (by simpa using e);omega}
 {
 rcases qE.1 hqm with e|e
 · have:=h.lt q e;omega
 · have:=hr.lt (q:=q) (by simpa using e);omega}
 {
 rcases qE.1 hm with e|e
 · exact h.nm e
 · exact hm1 mc (by simpa using e) rfl}
 {
 by_cases e:x=id
 {
 subst e;rw[cO];exact⟨⟨rfl,hs⟩,hr.fr hF2 (fun q hqq hm=>hm1 q hqq (by simpa using hm)),fun q hqq=>qE.2 (.inr (by simpa using hqq))⟩}
 {
 rw[bK (by omega)];have hxd' :(x:Int)∈dn:=by {
 rcases qE.1 hxd with e1|e1
 · exact e1
 · simp at e1;omega};obtain⟨a1,a2,a3⟩:=h.row x hx hxd';exact⟨a1,(a2.fr hF (by simp)).fr hF2 (fun q hqq hm=>h.nm (by have:=a3 q hqq;rw[qH]at hm;rwa[hm]at this)),fun q hqq=>qE.2 (.inl (a3 q hqq))⟩}}
 {
 have e:x≠id:=fun e=>hxd (by simp[e]);rw[bK (by omega)];exact h.old x hx (fun hm=>hxd (by simp[hm]))}
 {
 have hin:∀y:Nat,y≠id->(y:Int)∈dn++[(id:Int)]->(y:Int)∈dn:=fun y hy hm=>by
   rcases qE.1 hm with e1|e1
   · exact e1
   · simp at e1;omega
 by_cases ex:x=id
 {
 by_cases ey:y=id
 · rw[ex,ey]
 {
 subst ex;rw[cO]at hxq;rw[bK (by omega)]at hyq;have h1:=hq q hxq;have h2:=h.lt q ((h.row y hy (hin y ey hyd)).2.2 q hyq);omega}}
 {
 rw[bK (by omega)]at hxq;by_cases ey:y=id
 {
 subst ey;rw[cO]at hyq;have h1:=hq q hyq;have h2:=h.lt q ((h.row x hx (hin x ex hxd)).2.2 q hxq);omega}
 {
 rw[bK (by omega)]at hyq;exact h.inj x y q hx hy (hin x ex hxd) (hin y ey hyd) hxq hyq}}}
theorem CI.all(h:CI w B mc iv iv' f n dn lc){w0:World}{mb:Nat}{lb:List Nat}(h0:oC w0 mb iv f n lb)(hall:∀x,(Lit.int .u64 x).wf=true->(iv x).isSome=true->x∈dn):oC w mc iv' f n lc:=by
 have hno:∀id:Nat,id<U64->(id:Int)∉dn->iv' id=none/\f id=[]:=fun id hid hd=>by
   have h1:(iv id).isSome=false:=by
     cases hs:(iv id).isSome with
     | false=>rfl
     | true=>exact absurd (hall id (kB hid) hs) hd
   have h2:=h.old id hid hd;refine⟨by rw[h2];simpa using h1,?_⟩;by_cases e:f id=[]
   · exact e
   · have := (h0.row id hid).1.2 e
     rw[h1]at this;cases this
 refine⟨h.im,h.nm,h.lt,fun id hid=>?_,fun id id' q hid hid' h1 h2=>?_⟩
 {
 by_cases hd:(id:Int)∈dn
 {
 obtain⟨a1,a2,a3⟩:=h.row id hid hd;exact⟨⟨fun _=>(h0.row id hid).1.1 a1.2,fun _=>a1.1⟩,a2,a3⟩}
 {
 obtain⟨a1,a2⟩:=hno id hid hd;rw[a1,a2];exact⟨by simp,dO.nil _,fun q e=>by cases e⟩}}
 {
 by_cases hd:(id:Int)∈dn
 {
 by_cases hd' :(id' :Int)∈dn
 · exact h.inj id id' q hid hid' hd hd' h1 h2
 · rw[(hno id' hid' hd').1]at h2;cases h2}
 · rw[(hno id hid hd).1]at h1;cases h1}
end
theorem Blk.frc{S:List Nat}{w w' :World}{b:Nat}{t:TypeId}{l:List Value}(h:Blk w b t l)(hf:Fr S w w')(hn:b∉S):Blk w' b t l:=hf.blk h hn
theorem Blk.fr0c{w w' :World}{b:Nat}{t:TypeId}{l:List Value}(h:Blk w b t l)(hf:Fr [] w w'):Blk w' b t l:=hf.blk h (by simp)
section
variable {w w' :World} {ps:Nat} {s:Sm} {K:List Nat}
theorem aHR(h:bA w ps s K):Calls Tryz.prog 76 #[fF ps] w fun e w' =>∃pc,e=.returned (fF pc)/\∃K', bA w' pc s K' /\ Fr [] w w' /\ ∀q∈K', w.heap.size<=q:=by
 have HV:=qA (gS h);obtain⟨pa,pt,mb,n,vl,la,lT,lb,c,hB,rfl,c0,c1,c2,c3,c4,c5,c6⟩:=h.open;have HB:=qA hB;have HLT:=qA hB.lt;have hnE:=hB.nE;have hE:=hB.ok.leE;obtain⟨iv,hI⟩:=hB.inc;have HI:=qA hI;have HC1:=qA (fun(w' :World) (hf:Fr [] w w')=>uB (hB.ar.fr hf (by simp)));have HC2:=qA (fun(w' :World) (hf:Fr [] w w')=>aLQ (hB.tb.fr hf (by simp)));have HC3:=qA (fun(w' :World) (hf:Fr [] w w')=>aFI (hB.lv.fr0 hf) (by simp;omega));have HC4:=qA (fun(w' :World) (hf:Fr [] w w')=>aFJ (hI.fr hf (by simp) (by simp)).im);have hps:=hB.hd.lt;obtain⟨av,cv,rfl⟩:∃a cap,vl=.slice a n cap:=by simpa using hB.lv.slice
 clear h hB hI;go_enter Tryz.func76,Tryz.ntmps76
 go_wp2_with fail
 refine HV.out.mono ?_;rintro _ w ⟨rfl,rfl⟩;have hne:ps≠w.heap.size:=by omega
 have hFa:Fr [] w (w.alloc (.cells #[.int .i64 s.V,.int .i64 s.E,.int .u64 s.last,ptr pa,ptr pt,.slice av n cv,.map (some mb)] 145)):=(Fr.refl [] w).alloc _;have hB0:Blk (w.alloc (.cells #[.int .i64 s.V,.int .i64 s.E,.int .u64 s.last,ptr pa,ptr pt,.slice av n cv,.map (some mb)] 145)) w.heap.size 145 [.int .i64 s.V,.int .i64 s.E,.int .u64 s.last,ptr pa,ptr pt,.slice av n cv,.map (some mb)]:=Blk.new w _ _;have hs0:(w.alloc (.cells #[.int .i64 s.V,.int .i64 s.E,.int .u64 s.last,ptr pa,ptr pt,.slice av n cv,.map (some mb)] 145)).heap.size=w.heap.size+1:=by simp
 go_wp2_with fail
 refine(HC1.out _ hFa).mono ?_;rintro _ w2 ⟨pa', rfl,la', hA2,hF2,hl2⟩;have hb2:=hF2.blk hB0 (by simp);have d2:=hb2.cell 3;have z2:=hb2.frozen 3;simp only[zJ,zK]at d2;have e4:=(hFa.trans' hF2).cell c4 (by simp);have hs2:=hF2.size;have hl2' :∀q∈la', w.heap.size+1<=q:=fun q hq=>by have:=hl2 q hq;omega
 have HF2:=qA (zI (hFa.trans' hF2) (zI hb2 (zI hA2 hl2')));clear hFa hB0 hF2 hb2 hA2 hl2 hl2' HC1 c0 c1 c2 c3;go_wp2_with fail
 have hF3:Fr [] w (w2.setCell ⟨w.heap.size,3,none⟩ (ptr pa')):=HF2.out.1.setCell _ _ (.inr (qK _));have hb3:=HF2.out.2.1.set 3 (ptr pa');have hA3:=HF2.out.2.2.1.fr ((Fr.refl [w.heap.size] w2).setCell ⟨w.heap.size,3,none⟩ (ptr pa') (.inl (by simp))) (fun q hq hm=>by have:=HF2.out.2.2.2 q hq;rw[qH]at hm;omega);have hs3:(w2.setCell ⟨w.heap.size,3,none⟩ (ptr pa')).heap.size=w2.heap.size:=by simp
 simp only[qY,qU]at hb3;have hl2:=HF2.out.2.2.2;clear d2 z2 e4 HF2;generalize w2.setCell ⟨w.heap.size,3,none⟩ (ptr pa')=w3 at *;have HF3:=qA (zI hF3 (zI hb3 (zI hA3 hl2)));have HLA:=qA hA3.lt;clear hb3 hA3 hl2;refine(HC2.out _ hF3).mono ?_;rintro _ w4 ⟨pt', rfl,lT', hT4,hF4,hl4⟩;have hb4:=hF4.blk HF3.out.2.1 (by simp);have hA4:=HF3.out.2.2.1.fr hF4 (by simp);have d2:=hb4.cell 4;have z2:=hb4.frozen 4;simp only[zJ,zK]at d2;have e5:=(hF3.trans' hF4).cell c5 (by simp);have hs4:=hF4.size;have HF4:=qA (zI (hF3.trans' hF4) (zI hb4 (zI hA4 (zI HF3.out.2.2.2 (zI hT4 (show ∀q∈lT', w3.heap.size<=q from hl4))))));clear hF3 hF4 hb4 hA4 hT4 hl4 HC2 c4 HF3;go_wp2_with fail
 have hF5:Fr [] w (w4.setCell ⟨w.heap.size,4,none⟩ (ptr pt')):=HF4.out.1.setCell _ _ (.inr (qK _));have hset:Fr [w.heap.size] w4 (w4.setCell ⟨w.heap.size,4,none⟩ (ptr pt')):=(Fr.refl [w.heap.size] w4).setCell ⟨w.heap.size,4,none⟩ (ptr pt') (.inl (by simp));have hb5:=HF4.out.2.1.set 4 (ptr pt');have hla3:=HF4.out.2.2.2.1;have hA5:=HF4.out.2.2.1.fr hset (fun q hq hm=>by have:=hla3 q hq;rw[qH]at hm;omega);have hT5:=HF4.out.2.2.2.2.1.fr hset (fun q hq hm=>by have:=HF4.out.2.2.2.2.2 q hq;rw[qH]at hm;omega);have hs5:(w4.setCell ⟨w.heap.size,4,none⟩ (ptr pt')).heap.size=w4.heap.size:=by simp
 have hl5:=HF4.out.2.2.2.2.2;have hla4:=HF4.out.2.2.1.lt;simp only[qY,qU]at hb5;clear d2 z2 e5 HF4 hset;generalize w4.setCell ⟨w.heap.size,4,none⟩ (ptr pt')=w5 at *;have HF5:=qA (zI hF5 (zI hb5 (zI hA5 (zI hla3 (zI hT5 hl5)))));have HLAT:=qA (zI HLA.out hT5.lt);clear hb5 hA5 hla3 hT5 hl5 HLA;refine(HC3.out _ hF5).mono ?_;rintro _ w6 ⟨vl', rfl,hV6,hn6,hF6⟩;obtain⟨av', cv', rfl⟩:∃a cap,vl' =.slice a n cap:=by simpa using hV6.slice
 have hb6:=hF6.blk HF5.out.2.1 (by simp);have d2:=hb6.cell 5;have z2:=hb6.frozen 5;simp only[zJ,zK]at d2;have e6:=(hF5.trans' hF6).cell c6 (by simp);have hs6:=hF6.size;have HF6:=qA (zI (hF5.trans' hF6) (zI hb6 (zI (HF5.out.2.2.1.fr hF6 (by simp)) (zI HF5.out.2.2.2.1 (zI (HF5.out.2.2.2.2.1.fr hF6 (by simp)) (zI HF5.out.2.2.2.2.2 (zI hV6 hn6)))))));clear hF5 hF6 hb6 hV6 hn6 HC3 c5 HF5;go_wp2_with fail
 have hF7:Fr [] w (w6.setCell ⟨w.heap.size,5,none⟩ (.slice av' n cv')):=HF6.out.1.setCell _ _ (.inr (qK _));have hset:Fr [w.heap.size] w6 (w6.setCell ⟨w.heap.size,5,none⟩ (.slice av' n cv')):=(Fr.refl [w.heap.size] w6).setCell ⟨w.heap.size,5,none⟩ _ (.inl (by simp));have hb7:=HF6.out.2.1.set 5 (.slice av' n cv');have hA7:=HF6.out.2.2.1.fr hset (fun q hq hm=>by have:=HF6.out.2.2.2.1 q hq;rw[qH]at hm;omega);have hT7:=HF6.out.2.2.2.2.1.fr hset (fun q hq hm=>by have:=HF6.out.2.2.2.2.2.1 q hq;rw[qH]at hm;omega);have hV7:=HF6.out.2.2.2.2.2.2.1.fr hset (fun q hq hm=>by have:=HF6.out.2.2.2.2.2.2.2 q hq;rw[qH]at hm;omega);have hs7:(w6.setCell ⟨w.heap.size,5,none⟩ (.slice av' n cv')).heap.size=w6.heap.size:=by simp
 simp only[qY,qU]at hb7;have HL7:=qA (zI HF6.out.2.2.2.1 (zI HF6.out.2.2.2.2.2.1 HF6.out.2.2.2.2.2.2.2));have hlT6:=HF6.out.2.2.2.2.1.lt;clear d2 z2 e6 HF6 hset;generalize w6.setCell ⟨w.heap.size,5,none⟩ (.slice av' n cv')=w7 at *;have HF7:=qA (zI hF7 (zI hb7 (zI hA7 (zI hT7 hV7))));clear hb7 hA7 hT7 hV7;refine(HC4.out _ hF7).mono ?_;rintro _ w8 ⟨rfl,hM8,hF8⟩;rw[hs7]at hM8;have hb8:=hF8.blk HF7.out.2.1 (by simp);have d2:=hb8.cell 6;have z2:=hb8.frozen 6;simp only[zJ,zK]at d2;have e7:=(hF7.trans' hF8).cell c6 (by simp);have hs8:=hF8.size;have hml:=hM8.lt;have hvo:∀q,(Value.slice av' n cv').ownBlock=some q->w.heap.size+1<=q/\q<w6.heap.size:=fun q hq=>⟨by have:=HL7.out.2.2 q hq;omega,by have:=HF7.out.2.2.2.2.lt hq;omega⟩;have hlA:=HF7.out.2.2.1.lt;have hlT:=HF7.out.2.2.2.1.lt;have hset:Fr [w.heap.size] w8 (w8.setCell ⟨w.heap.size,6,none⟩ (.map (some w6.heap.size))):=(Fr.refl _ w8).setCell ⟨w.heap.size,6,none⟩ _ (.inl (by simp));have hF9:Fr [] w (w8.setCell ⟨w.heap.size,6,none⟩ (.map (some w6.heap.size))):=(hF7.trans' hF8).setCell _ _ (.inr (qK _));have hb9:=hb8.set 6 (.map (some w6.heap.size));simp only[qY,qU]at hb9;have hn9:∀q,w.heap.size+1<=q->q∉[w.heap.size]:=fun q hq hm=>by rw[qH]at hm;omega
 have hA9:=(HF7.out.2.2.1.fr hF8 (by simp)).fr hset (fun q hq=>hn9 q (HL7.out.1 q hq));have hT9:=(HF7.out.2.2.2.1.fr hF8 (by simp)).fr hset (fun q hq=>hn9 q (by have:=HL7.out.2.1 q hq;omega));have hV9:=(HF7.out.2.2.2.2.fr0 hF8).fr hset (fun q hq=>hn9 q (hvo q hq).1);have hM9:=hM8.same (hset.keep _ hml (hn9 _ (by omega)));have HIM:=qA (HI.out.fr hF9 (by simp) (by simp));have hc6:=hb9.cell 6;simp only[zJ,zK]at hc6;have hs9:(w8.setCell ⟨w.heap.size,6,none⟩ (.map (some w6.heap.size))).heap.size=w8.heap.size:=by simp
 have H9:=qA (zI hF9 (zI hb9 (zI hA9 (zI hT9 (zI hV9 hM9)))));have HVO:=qA (zI hvo (zI (fun q (hq:q∈la')=>zI (HL7.out.1 q hq) (show q<w6.heap.size by have:=hlA q hq;omega)) (fun q (hq:q∈lT')=>zI (show w.heap.size+1<=q by have:=HL7.out.2.1 q hq;omega) (zI (show w3.heap.size<=q from HL7.out.2.1 q hq) (show q<w6.heap.size by have:=hlT q hq;omega)))));clear hF7 hF8 hb8 hM8 HC4 HF7 hset hF9 hb9 hn9 hA9 hT9 hV9 hM9 hvo hlA hlT hml c6;go_wp2_with (first|(at_range;refine wO rfl _ rfl HIM.out.im Tryz.underlying36 Tryz.underlying143 rfl ?_;intro w10 cnt0 hI0 hc0 hF0 hs0)|fail)
 go_frame
 generalize w8.setCell ⟨w.heap.size,6,none⟩ (.map (some w6.heap.size))=w9 at *;clear hs9;have hm6:=H9.out.2.2.2.2.2.lt;have HI0:=qA (zI hI0 (zI hF0 hs0));have hs90:=hF0.size;clear hI0 hF0 hs0;have hnmm:s.M.L.length<maxLen:=by have:=HB.out.ok.md.len;unfold maxLen;omega
 obtain⟨nm,hnm⟩:∃nm,nm=s.M.L.length:=⟨_,rfl⟩;rw[<-hnm]at H9 HI0 HIM hnmm HI;have HNM:=qA hnm;clear hnm hc0 d2 z2 e7 hc6;have hcl:∀id,(bU s.L id).length<=16384:=fun id=>by
   have h1:=lB s.L id;have h2:=Sm.len_used HB.out.ok;have h3:=HB.out.ok.ar.hb;have h4:=HB.out.ok.sl;unfold Ar.used at h2;omega
 have HCL:=qA (zI hcl hnmm);clear hcl hnmm;have hmbw:mb<w.heap.size:=HLT.out mb (by simp[stK]);have hs10:=HI0.out.2.2;have hrbm:w9.heap.size≠mb:=by have:=HIM.out.im.lt;omega
 go_loopw [] (fun wr=>∃(dn:List Int) (cnt:Nat) (iv' :Int->Option Value) (lc:List Nat),Hid (kM Tryz.prog 36 .u64 okS wr mb w9.heap.size iv nm dn cnt/\CI wr w10.heap.size w6.heap.size iv iv' (bU s.L) nm dn lc/\Fr [w6.heap.size,w9.heap.size] w10 wr)) (fun wr=>wr.rangeLeft mb w9.heap.size)
 case atStart=>exact⟨[],cnt0,iv,[],qA ⟨HI0.out.1,(CI.start (H9.out.2.2.2.2.2)).fr HI0.out.2.1 (by simp) (by simp),Fr.refl _ _⟩⟩
 case round=>
  obtain⟨dn,cnt,iv', lc,HR⟩:=hrel;rename World=>wr
  have hF10:Fr [] w wr:=(H9.out.1.trans' HI0.out.2.1).trans HR.out.2.2 (fun q hq=>.inr (by simp at hq;omega));have HFW:=qA hF10;have hsr:=HR.out.2.2.size;clear hF10;go_wp2_with (first|(at_next;refine aAE rfl _ rfl Tryz.underlying36 rfl HR.out.1 ?_ ?_)|fail)
  {
  intro hall;have HA:=qA hall;clear hall;go_wp2_with fail
  go_ret;have hII:=HR.out.2.1.all (HI.out) HA.out;have hF1:Fr [w6.heap.size,w9.heap.size] w9 wr:=(HI0.out.2.1.mono (by simp)).trans' HR.out.2.2;have hno:∀q,q<w6.heap.size->q∉[w6.heap.size,w9.heap.size]:=fun q hq hm=>by simp at hm;omega
  have hge:=HR.out.2.1.ge;refine⟨_,rfl,_,⟨pa', pt', w6.heap.size,n,.slice av' n cv', la', lT', lc,fun x=>if x=w.heap.size then 0 else if x=w6.heap.size then 1 else if w10.heap.size<=x then 5 else if x∈la' then 2 else if x∈lT' then 3 else 4,⟨hF1.blk H9.out.2.1 (hno _ (by omega)),H9.out.2.2.1.fr hF1 (fun q hq=>hno q (HVO.out.2.1 q hq).2),H9.out.2.2.2.1.fr hF1 (fun q hq=>hno q (HVO.out.2.2 q hq).2.2),H9.out.2.2.2.2.1.fr hF1 (fun q hq=>hno q (HVO.out.1 q hq).2),⟨iv', by rw[<-HNM.out];exact hII⟩,HB.out.sn,hnE,HB.out.ok,?_⟩,rfl⟩,HFW.out,?_⟩
  {
  have h1:=HVO.out.1;have h2:=HVO.out.2.1;have h3:=HVO.out.2.2;have hL:=HLAT.out;refine⟨qD rfl,?_,fun q hq=>?_,fun q hq=>?_,fun q hq=>?_,fun q hq=>?_⟩
  · rw[qC (by omega),qD rfl]
  {
  have:=h2 q hq;rw[qC (by omega),qC (by omega),qC (by omega),qD hq]}
  {
  have:=h3 q hq;have hn:q∉la' :=fun hm=>by have:=hL.1 q hm;omega
  rw[qC (by omega),qC (by omega),qC (by omega),qC hn,qD hq]}
  {
  have:=h1 q hq;have h5:=HL7.out.2.2 q hq;have hn:q∉la' :=fun hm=>by have:=hL.1 q hm;omega
  have hn2:q∉lT' :=fun hm=>by have:=hL.2 q hm;omega
  rw[qC (by omega),qC (by omega),qC (by omega),qC hn,qC hn2]}
  {
  have:=hge q hq;rw[qC (by omega),qC (by omega),qD this]}}
  {
  intro q hq;simp only[stK,qB,qE,Option.mem_toList]at hq;rcases hq with rfl|rfl|((hq|hq)|hq)|hq
  · exact qK _
  · omega
  · have:=(HVO.out.2.1 q hq).1;omega
  · have:=(HVO.out.2.2 q hq).1;omega
  · have:=(HVO.out.1 q hq).1;omega
  · have:=hge q hq;omega}}
  {
  intro x cv0 w1 cnt1 hwx hm hnd hI1 hlt1 hF1 hs1 hen;obtain⟨id,rfl,hid⟩:=aIU hwx;have hFw1:Fr [] w w1:=HFW.out.trans hF1 (fun q hq=>.inr (by rw[qH]at hq;omega));have hrow:=((HI.out.fr hFw1 (by simp) (by simp)).row id hid).2.1;rw[hm]at hrow;obtain⟨ac,cc,ec⟩:=hrow.slice;simp only[Option.getD_some]at ec hrow;subst ec;have hCL:=aEP (hrow.fr0 ((Fr.refl [] w1).drew)) (HCL.out.1 id);have hCI:=HR.out.2.1.fr hF1 (by simp;omega) (fun q hq hm=>by have:=HR.out.2.1.ge q hq;rw[qH]at hm;omega);have HPU:=qA (show ∀(w5:World) (v5:Value),Fr [] w1 w5->dO w5 v5 (bU s.L id)->∃w6', (Instr.mapUpdate 143 (.map (some w6.heap.size)) (.int .u64 id) v5).run Tryz.prog w5=.ok () w6' /\ dA Tryz.prog 36 .u64 okS w6' w6.heap.size (jY iv' id (some v5)) (if (iv' id).isSome=true then nm else nm+1)/\Fr [w6.heap.size] w5 w6' from fun w5 v5 hf hr=>by
    obtain⟨a5,c5,rfl⟩:=hr.slice;exact(hCI.im.same (hf.keep _ hCI.im.lt (by simp))).put Tryz.underlying36 Tryz.underlying143 HCL.out.2 (kB hid) rfl)
  have hb1:=(((H9.out.2.1.fr0c HI0.out.2.1).frc HR.out.2.2 (by simp;omega)).frc hF1 (by simp;omega)).cell 6;simp only[zJ,zK]at hb1;have HK:=qA (fun(w' :World) (S:List Nat) (hf:Fr S w1 w') (hs:w.heap.size∉S)=>hf.cell hb1 hs);have HNC:=qA (show w.heap.size∉[w6.heap.size] by simp;omega);have HCLn:=qA hCL;have HX:=qA (zI hCI (zI hI1 (zI hF1 (zI hnd hm))));clear hCL hCI hrow hI1 hF1 hnd hm hFw1 hwx;go_wp2_with fail
  go_region_held3 (fun w' => w'.cell? ⟨w.heap.size, 6, none⟩ = some (.map (some w6.heap.size)))
    (first
      | with_reducible exact HK.out _ _ hF16 HNC.out
      | with_reducible exact HK.out _ _ hF15 (by simp)
      | with_reducible exact HK.out _ _ ((Fr.refl [] w1).drew) (by simp))
    (first
      | (go_at_call 119; with_reducible refine Calls.mono HCLn.out ?_; rintro r w5' ⟨v5, rfl, hr5, hn5, hF5⟩
         have hF15:Fr [] w1 w5' :=((Fr.refl [] w1).drew).trans' hF5;obtain⟨w6', hrun6,hM6,hG6⟩:=HPU.out w5' v5 hF15 hr5;have hF16:Fr [w6.heap.size] w1 w6' :=(hF15.mono (by simp)).trans' hG6))
  all_goals
   go_wp2_with fail
   go_roundw
   case rel=>
    have hI6:=HX.out.2.1.fr hF16 (by simp;omega) (by simp;omega);refine⟨dn++[(id:Int)],cnt1,_,_,qA ⟨hI6,HX.out.1.put hid (by rw[HX.out.2.2.2.2];rfl) HX.out.2.2.2.1 hr5 hn5 (by omega) hF15 hM6 hG6,(HR.out.2.2.trans HX.out.2.2.1 (fun q hq=>.inl (by rw[qH]at hq;simp[hq]))).trans hF16 (fun q hq=>.inl (by rw[qH]at hq;simp[hq]))⟩⟩
   case measure=>rw[(HX.out.2.1.fr hF16 (by simp;omega) (by simp;omega)).left_eq,HR.out.1.left_eq];omega}
end
theorem fT.uniq{to:Int}{Q Q1:Nat->Option Int}{ds:List Nat}(h:fT to Q ds Q1):∀{es:List Nat} {Q2:Nat->Option Int},fT to Q es Q2->ds=es/\Q1=Q2:=by
 induction h with
 | done Q h=>{
 intro es Q2 k;cases k with
 | done _ _=>exact⟨rfl,rfl⟩
 | more _ i x ds _ hq hx _ _=>have:=h i x hq;omega}
 | more Q i x ds Q' hq hx hm h ih=>{
 intro es Q2 k;cases k with
 | done _ h2=>have:=h2 i x hq;omega
 | more _ j y ds2 _ hq2 hx2 hm2 k2=>{
 have h1:=hm j y hq2;have h2:=hm2 i x hq;have e:i=j:=by omega
 subst e;obtain⟨e1,e2⟩:=ih k2;exact⟨by rw[e1],e2⟩}}
def RI(w:World)(pr:Nat)(v:Value)(ds:List Nat)(to:Int)(SE:Sm)(k:Nat)(wr:World):Prop:=
  ∃s1 Q1 Q' G1 Kr,bA wr pr s1 Kr/\dO wr v ds/\(∀q,v.ownBlock=some q->q∉Kr)/\Fr [] w wr/\(∀q∈Kr,w.heap.size<=q)/\Lk s1 Q1 G1/\s1.Ok/\fT to Q1 (ds.drop k) Q' /\ s1.rems (ds.drop k)=SE
section
variable {w w' :World} {pw pc ps px pf:Nat} {P:Wp} {Ks lx Lf K:List Nat} {cl:Nat->Nat}
theorem aSA(h:cU w pw pc ps px pf P Ks lx Lf cl)(hl:Lk P.s P.Q P.G)(hok:P.s.Ok)(u v:Nat)(hu:u<18446744073709551616)(hv:v<18446744073709551616)(wt t:Int):
    Calls Tryz.prog 112 #[cJ pw,rJ u v wt t] w fun e w' =>∃c:Nat,e=.returned (.int .i64 c)/\Fr [] w w' /\ ((P.s.chk u v=0/\c=0)∨∃ds Q', P.s.chk u v≠0/\fT t P.Q ds Q' /\ c=(P.s.rems ds).chk u v):=by
 have hf0:Fr [] w (w.alloc (.cells #[.int .u64 u,.int .u64 v,.int .i64 wt,.int .i64 t] 72)):=(Fr.refl _ _).alloc _;have hbx:=Blk.new w [.int .u64 u,.int .u64 v,.int .i64 wt,.int .i64 t] 72;have hB:=h.fr0 hf0;obtain⟨w1,hw1⟩:∃w1,w1=w.alloc (.cells #[.int .u64 u,.int .u64 v,.int .i64 wt,.int .i64 t] 72):=⟨_,rfl⟩;rw[show w.alloc (.cells [.int .u64 u,.int .u64 v,.int .i64 wt,.int .i64 t].toArray 72)=w.alloc (.cells #[.int .u64 u,.int .u64 v,.int .i64 wt,.int .i64 t] 72) from rfl,<-hw1]at hbx;rw[<-hw1]at hf0 hB;have hsx:w.heap.size<w1.heap.size:=by rw[hw1];simp
 have HCk:=qA (fun(nq:Nat)=>oY (hB.st.fr0 ((Fr.refl [] w1).drewN nq)) u v hu hv wt t);have c5:=hB.hd.cell 5;have r0:=hbx.cell 0;have r1:=hbx.cell 1;have r2:=hbx.cell 2;have r3:=hbx.cell 3;simp only[zJ,zK]at c5 r0 r1 r2 r3;have HB:=qA (zI hB (zI hf0 hbx));have HL:=qA (zI hl hok);clear hB hf0 hbx hl hok h;go_enter Tryz.func112,Tryz.ntmps112
 obtain⟨xb,hxb⟩:∃xb,xb=w.heap.size:=⟨_,rfl⟩;have c5' :=c5;have r0' :=r0;have r1' :=r1;have r2' :=r2;have r3' :=r3;rw[hw1]at c5' r0' r1' r2' r3';go_wp2_with fail
 rw[<-hw1,<-hxb];rw[<-hxb]at HB r0 r1 r2 r3 hsx;clear c5' r0' r1' r2' r3' hw1;have HXB:=qA hxb;clear hxb;refine bF 5 (fun w' =>Fr [] w1 w') (by kernel_rfl) (by kernel_rfl) (by kernel_rfl) ?_;iterate 5 (refine bM (by decide) (fun K hK=>?_);go_simp;refine hK _ ?_;clear hK K)
 refine aU rfl (.int .i64 (P.s.chk u v)) (fun w' hw' =>?_) ?_
 {
 obtain⟨nq,rfl⟩:=hw';go_simp;refine(HCk.out nq).mono ?_;rintro _ w1 ⟨rfl,hf⟩;exact⟨rfl,((Fr.refl [] _).drewN nq).trans' hf⟩};iterate 1 (refine eF (by decide) (fun K hK=>?_);go_simp;refine hK _ ?_;clear hK K)
 refine bN ?_;rintro W2 hF2;have hB2:=HB.out.1.fr0 hF2;have hb2:=hF2.blk HB.out.2.2 (by simp);clear c5 r0 r1 r2 r3;have c5:=hB2.hd.cell 5;have c6:=hB2.hd.cell 6;have r0:=hb2.cell 0;have r1:=hb2.cell 1;have r2:=hb2.cell 2;have r3:=hb2.cell 3;simp only[zJ,zK]at c5 c6 r0 r1 r2 r3;have hF20:=HB.out.2.1.trans' hF2;have hsx2:xb<W2.heap.size:=by have:=hF2.size;omega
 have HN:=qA (aRP hB2.sch);have H2:=qA (zI hB2 (zI hb2 hF20));clear hB2 hb2 hF20 hF2 HB HCk;by_cases hc:P.s.chk u v=0
 {
 have HC:=qA hc;rw[hc];clear hc;go_wp2
 go_ret;exact⟨0,rfl,H2.out.2.2,.inl ⟨HC.out,rfl⟩⟩}
 {
 have HC:=qA hc;obtain⟨cc,hcc⟩:∃cc,cc=P.s.chk u v:=⟨_,rfl⟩;rw[<-hcc]at hc ⊢;have d1:((cc:Int) == 0)=false:=by simp;omega
 have HCC:=qA hcc;clear hcc hc;go_wp2_with fail
 refine HN.out.mono ?_;rintro r W3 ⟨hF3,hr⟩;have hB3:=H2.out.1.fr0 hF3;have hb3:=hF3.blk H2.out.2.1 (by simp);clear c5 c6 r0 r1 r2 r3;have c5:=hB3.hd.cell 5;have c6:=hB3.hd.cell 6;have r0:=hb3.cell 0;have r1:=hb3.cell 1;have r2:=hb3.cell 2;have r3:=hb3.cell 3;simp only[zJ,zK]at c5 c6 r0 r1 r2 r3;have hF30:=H2.out.2.2.trans' hF3;have hsx3:xb<W3.heap.size:=by have:=hF3.size;omega
 have H3:=qA (zI hB3 (zI hb3 hF30));clear hB3 hb3 hF30 hF3 H2 HN hsx2 hsx;have nodue:∀W,Fr [] w W->(∀j y,P.Q j=some y->t<y)->∃c:Nat,Ending.returned (.int .i64 (cc:Nat))=.returned (.int .i64 c)/\Fr [] w W/\((P.s.chk u v=0/\c=0)∨∃ds Q', P.s.chk u v≠0/\fT t P.Q ds Q' /\ c=(P.s.rems ds).chk u v):=fun W hf hq=>
   ⟨cc,rfl,hf,.inr ⟨[],P.Q,HC.out,.done _ hq,HCC.out⟩⟩
 have HND:=qA nodue;clear nodue;rcases hr with⟨hn,rfl⟩|⟨hn,i,k,hq,hm,rfl⟩
 {
 have Hn:=qA hn;clear hn;go_wp2
 go_ret;refine HND.out _ (H3.out.2.2.trans' ((Fr.refl _ _).alloc _)) (fun j y hy=>?_);obtain⟨ph', lh', _,⟨e,pl,v,gp,cp,bs,_,_,_,hQ,_⟩,_,_⟩:=H3.out.1.sch;obtain⟨p,hp,_⟩:=(hQ j y).1 hy;have:=Hn.out;omega}
 {
 have Hq:=qA (zI hn (zI hq hm));clear hn hq hm;by_cases hk:t<k
 {
 have d2:decide (k>t)=true:=qG hk;have Hk:=qA hk;clear hk;have hxe:xb≠W3.heap.size:=by omega
 have r3' :(W3.alloc (.cells #[.int .i64 (i:Nat),.int .i64 k] 223)).cell? ⟨xb,3,none⟩=some (.int .i64 t):=((Fr.refl [] W3).alloc _).cell r3 (by simp);go_wp2
 go_ret;refine HND.out _ (H3.out.2.2.trans' ((Fr.refl _ _).alloc _)) (fun j y hy=>?_);have h1:=Hq.out.2.2 j y hy;have h2:=Hk.out;unfold elt at h1;simp only at h1;omega}
 {
 have d2:decide (k>t)=false:=qF hk;clear hk HND Hq;have hF4:Fr [] W3 (W3.alloc (.cells #[.int .i64 (i:Nat),.int .i64 k] 223)):=(Fr.refl [] W3).alloc _;have hB4:=H3.out.1.fr0 hF4;have hb4:=hF4.blk H3.out.2.1 (by simp);have c5' :=hB4.hd.cell 5;have r3' :=hb4.cell 3;simp only[zJ,zK]at c5' r3';have hF40:=H3.out.2.2.trans' hF4;have hsx4:xb<(W3.alloc (.cells #[.int .i64 (i:Nat),.int .i64 k] 223)).heap.size:=by simp;omega
 have HCo:=qA (aHR hB4.st);have H4:=qA (zI hB4 (zI hb4 hF40));clear hB4 hb4 hF40 hF4;go_wp2_with fail
 clear c5 c6 r0 r1 r2 r3 c5' r3' H3;generalize (W3.alloc (.cells #[.int .i64 (i:Nat),.int .i64 k] 223))=W4 at *;refine HCo.out.mono ?_;rintro _ W5 ⟨pr,rfl,Kr,hS5,hF5,hN5⟩;have hB5:=H4.out.1.fr0 hF5;have hb5:=hF5.blk H4.out.2.1 (by simp);have HC5:=qA (show ∀w', Fr [] W5 w' -> w'.cell? ⟨pw,6,none⟩=some (aP px)/\w'.cell? ⟨xb,3,none⟩=some (.int .i64 t) from fun w' hf=>⟨(hf.blk hB5.hd (by simp)).cell 6,(hf.blk hb5 (by simp)).cell 3⟩);have HCp:=qA (fun(w' :World) (hf:Fr [] W5 w')=>aHN (hB5.sch.fr0 hf));have H5:=qA (zI hS5 (zI hF5 hN5));clear hB5 hb5 hS5 hF5 hN5 HCo;go_wp2_with fail
 go_region_held3 (fun w' => w'.cell? ⟨pw, 6, none⟩ = some (aP px) /\ w'.cell? ⟨xb, 3, none⟩ = some (.int .i64 t))
   (first
     | with_reducible exact HC5.out _ HF7.out
     | with_reducible exact HC5.out _ HF6.out
     | with_reducible exact HC5.out _ (Fr.refl [] W5).drew)
   (first
     | (go_at_call 77;with_reducible refine Calls.mono (HCp.out _ ((Fr.refl [] W5).drew)) ?_;rintro r w6 ⟨px2,rfl,l6,hS6,hF6,hN6⟩;have HF6:=qA (Fr.trans' (Fr.refl [] W5).drew hF6))
     | (go_at_call 107;with_reducible refine Calls.mono (aTI hS6 t) ?_;rintro r w7 ⟨v7,ds,Q', n', l7,rfl,hm,hS7,hR7,hF7,hN7,hV7⟩;obtain⟨av,cv,rfl⟩:=hR7.slice;have HF7:=qA (HF6.out.trans hF7 (fun b hb=>.inr (by simpa using hN6 b hb)))))
 rename_i hHH;clear hHH;have hT:RI W4 pr (.slice av ds.length cv) ds t (P.s.rems ds) 0 w7:=by {
 obtain⟨hS5,hF5,hN5⟩:=H5.out;have hs6:=HF6.out.size;refine⟨P.s,P.Q,Q', P.G,Kr,hS5.fr0 HF7.out,hR7,fun q hq hm=>?_,hF5.trans' HF7.out,hN5,HL.out.1,HL.out.2,by simpa using hm,by simp⟩;have:=(hV7 q hq).1;have:=hS5.lt q hm;omega};have hdn:(ds.length:Int)<=9223372036854775807:=by {
 obtain⟨_,_,_,k4⟩:=hm.law HL.out.1 HL.out.2;have h1:=Sm.len_used HL.out.2;have h2:=HL.out.2.leE;have h3:=HL.out.2.ar.hs;have h4:=HL.out.2.ar.hb;have h5:P.s.A.used<=P.s.A.begun:=Nat.sub_le _ _;omega};have HT:=qA hT;have Hm:=qA hm;clear hT hS7 hR7 hF7 hN7 hV7 hS6 hF6 hN6 HF6 HF7 HC5 HCp H5 hm;obtain⟨SE,hSE⟩:∃SE,SE=P.s.rems ds:=⟨_,rfl⟩;rw[<-hSE]at HT;have HSE:=qA hSE;clear hSE;go_wp2_with fail
 go_loopw [51] (fun x wr=>∃k:Nat,k<=ds.length/\x=.int .i64 k/\Hid (RI W4 pr (.slice av ds.length cv) ds t SE k wr)) (fun x _=>ds.length-(intOf x).toNat)
 case atStart=>exact⟨0,qS _,rfl,HT⟩
 case round=>
  obtain⟨k,hk,rfl,HI⟩:=hrel;clear HT;by_cases hkl:k<ds.length
  {
  have hki:(k:Int)<ds.length:=by omega
  obtain⟨s1,Q1,Q2,G1,Kr1,hst,hrow,hvq,hF,hnw,hlk,hsok,hmin,hSE⟩:=HI.out;obtain⟨i,hi⟩:∃i,i=ds[k]:=⟨_,rfl⟩;rw[aHQ hkl,<-hi]at hmin hSE;obtain⟨bv,cv', ev,_,hat⟩:=hrow.at hkl;rw[<-hi]at hat;simp only[qP,true_and]at ev;obtain⟨rfl,rfl⟩:=ev;cases hmin with
  | more _ _ x _ _ hq hx hmn hrest=>
  have HR:=qA (vI hst i (pA hlk hsok hq));have HX:=qA (zI hst (zI hrow (zI hvq (zI hF (zI hnw (zI hlk (zI hsok (zI hrest (zI hSE hq)))))))));clear hst hrow hvq hF hnw hlk hsok hrest hSE hq hmn hi;go_wp2_with fail
  refine HR.out.mono ?_;rintro _ w8 ⟨rfl,Kr2,hs8,hF8,hn8⟩;have H8:=qA (zI hs8 (zI hF8 hn8));clear hs8 hF8 hn8 HR;go_wp2_with fail
  go_roundw
  case rel=>
   refine⟨k+1,by omega,by go_num,qA ?_⟩;obtain⟨hst,hrow,hvq,hF,hnw,hlk,hsok,hrest,hSE,hq⟩:=HX.out;obtain⟨hs8,hF8,hn8⟩:=H8.out;have hsz:=hF.size;refine⟨s1.rem i,_,Q2,_,Kr2,hs8,hrow.fr hF8 (fun q hq hm=>hvq q hq hm),fun q hq hm=>?_,hF.trans hF8 (fun b hb=>.inr (hnw b hb)),fun q hm=>?_,hlk.drop hsok i,Sm.ok_rem hsok (pA hlk hsok hq),hrest,hSE⟩
   {
   rcases hn8 q hm with h|h
   · exact hvq q hq h
   · have:=hrow.lt hq;omega}
   {
   rcases hn8 q hm with h|h
   · exact hnw q h
   · omega}
  case measure=>simp[intOf];omega}
  {
  obtain rfl:k=ds.length:=by omega
  obtain⟨s1,Q1,Q2,G1,Kr1,hst,hrow,hvq,hF,hnw,hlk,hsok,hmin,hSE⟩:=HI.out;rw[List.drop_eq_nil_of_le (qK _)]at hSE;have e1:s1=SE:=hSE;rw[e1]at hst;have hb9:=hF.blk H4.out.2.1 (by simp);have r0:=hb9.cell 0;have r1:=hb9.cell 1;have r2:=hb9.cell 2;have r3:=hb9.cell 3;simp only[zJ,zK]at r0 r1 r2 r3;have HCk:=qA (oY hst u v hu hv wt t);have HF:=qA hF;clear hst hrow hvq hF hnw hlk hsok hmin hSE e1 hb9;go_wp2_with fail
  refine HCk.out.mono ?_;rintro _ w9 ⟨rfl,hF9⟩;have HF9:=qA (HF.out.trans' hF9);clear hF9 HF HCk r0 r1 r2 r3;go_wp2_with fail
  go_ret;exact⟨_,rfl,H4.out.2.2.trans' HF9.out,.inr ⟨ds,Q', HC.out,Hm.out,by rw[HSE.out]⟩⟩}}}}
end
section
variable {w w' :World} {pw:Nat} {W:Wm} {K:List Nat}
theorem aHS(W:Wm)(to:Int)(ds:List Nat)(Q' :Nat->Option Int)(n n' :Nat):({ (W.wp n) with now:=to,s:=(W.wp n).s.rems ds,Q:=Q', nq:=n', G:=fun j=>if j∈ds then none else(W.wp n).G j,gone:=(W.wp n).gone+ds.length }:Wp)=(W.tick to ds Q').wp n' :=by
 simp[Wm.wp,Wm.tick,(jI W.s ds).2.2]
theorem Wm.Ok.sum(h:W.Ok):W.gone+W.s.L.length<=9223372036854775807:=by have:=h.last;have:=h.max;omega
def aCW(w w' :World)(pw:Nat)(W' :Wm)(K:List Nat):Prop:=∃K', eK w' pw W' K' /\ Fr K w w' /\ ∀q∈K', q∈K∨w.heap.size<=q
theorem aOF(h:eK w pw W K)(to:Int)(h1:-9223372036854775808<=to)(h2:to<=9223372036854775807)(hc:dL W.m W.now to=0):
    Calls Tryz.prog 67 #[cJ pw,.int .i64 to] w fun e w' =>e=.returned (.int .i64 0)/\∃ds Q', fT to W.Q ds Q' /\ aCW w w' pw (W.tick to ds Q') K:=by
 obtain⟨hok,pc,ps,px,pf,nq,Ks,lx,Lf,cl,hB,rfl⟩:=h;refine(xV hB hok.lk hok.ok to h1 h2 hc hok.sum).mono ?_;rintro _ w' ⟨rfl,ds,Q', n', Ks', lx', Lf', cl', hm,hB', hF,hn⟩;obtain⟨k1,k2⟩:=mY hc;rw[aHS]at hB';exact⟨rfl,ds,Q', hm,_,⟨(Wm.tick_ok hok k1 k2 hm).1,pc,ps,px,pf,n', Ks', lx', Lf', cl', hB', rfl⟩,hF,hn⟩
theorem aCX(h:eK w pw W K)(to:Int)(h1:-9223372036854775808<=to)(h2:to<=9223372036854775807)(hc:dL W.m W.now to≠0):
    Calls Tryz.prog 67 #[cJ pw,.int .i64 to] w fun e w' =>e=.returned (.int .i64 (dL W.m W.now to))/\w' =w:=by
 obtain⟨hok,pc,ps,px,pf,nq,Ks,lx,Lf,cl,hB,rfl⟩:=h;exact aOE hB to h1 h2 hc
theorem aVK(W:Wm)(u v:Nat)(wt:Int)(a b n:Nat):({ (W.wp n) with s:=(W.wp n).s.ins u v wt W.now (W.now+(W.wp n).m),Q:=fun j=>if j=(W.wp n).s.slot then some (W.now+(W.wp n).m) else(W.wp n).Q j,nq:=(W.wp n).nq+1,G:=fun j=>if j=(W.wp n).s.slot then some (a,b,W.now+(W.wp n).m) else(W.wp n).G j,added:=(W.wp n).added+1 }:Wp)=(W.put u v wt a b).wp (n+1):=by
 simp[Wm.wp,Wm.put,Sm.ins];exact⟨rfl,rfl⟩
def aXQ(w w' :World)(pw:Nat)(W:Wm)(K:List Nat)(u v:Nat)(wt t:Int)(c:Nat):Prop:=
  ∃ds Q', fT t W.Q ds Q' /\ ((c≠0/\W.s.chk u v≠0/\c=(W.s.rems ds).chk u v/\Fr [] w w') ∨
    (c=0/\(W.s.rems ds).chk u v=0/\∃a b,((W.s.rems ds).ins u v wt t (t+W.m)).M.find u=some a/\((W.s.rems ds).ins u v wt t (t+W.m)).M.find v=some b/\aCW w w' pw ((W.tick t ds Q').put u v wt a b) K))
theorem aSB(h:eK w pw W K)(u v:Nat)(hu:u<18446744073709551616)(hv:v<18446744073709551616)(hne:u≠v)(wt t:Int)(ht1:-9223372036854775808<=t)(ht2:t<=9223372036854775807)(hc:dL W.m W.now t=0)(hl:W.s.last<9223372036854775807):
    Calls Tryz.prog 69 #[cJ pw,rJ u v wt t] w fun e w' =>∃c:Nat,e=.returned (.int .i64 c)/\aXQ w w' pw W K u v wt t c:=by
 obtain⟨hok,pc,ps,px,pf,nq,Ks,lx,Lf,cl,hB,rfl⟩:=h;obtain⟨hc1,hc2⟩:=mY hc;have hI:=(IS.start hB).box [.int .u64 u,.int .u64 v,.int .i64 wt,.int .i64 t] 72;obtain⟨w1,hw1⟩:∃w1,w1=w.alloc (.cells #[.int .u64 u,.int .u64 v,.int .i64 wt,.int .i64 t] 72):=⟨_,rfl⟩;rw[show w.alloc (.cells [.int .u64 u,.int .u64 v,.int .i64 wt,.int .i64 t].toArray 72)=w.alloc (.cells #[.int .u64 u,.int .u64 v,.int .i64 wt,.int .i64 t] 72) from rfl,<-hw1]at hI;have hsx:w.heap.size<w1.heap.size:=by rw[hw1];simp
 have HF01:=qA (show Fr [] w w1 by rw[hw1];exact(Fr.refl _ _).alloc _);obtain⟨cl1,hB1⟩:=hI.1;have hbx:Blk w1 w.heap.size 72 [.int .u64 u,.int .u64 v,.int .i64 wt,.int .i64 t]:=hI.blk (z:=(w.heap.size,72,[.int .u64 u,.int .u64 v,.int .i64 wt,.int .i64 t])) (by simp);have HV:=qA (dC hB1);have HCk:=qA (fun(nq:Nat)=>lZ (hB1.clk.fr0 ((Fr.refl [] w1).drewN nq)) t ht1 ht2);rw[show dL (W.wp nq).m (W.wp nq).now t=0 from hc]at HCk;have c4:=hB1.hd.cell 4;have r0:=hbx.cell 0;have r1:=hbx.cell 1;have r3:=hbx.cell 3;simp only[zJ,zK]at c4 r0 r1 r3;have hFs:=hI.2.1.size;have HI:=qA hI;have HH:=qA (zI hok (zI hc1 hc2));have d1:((u:Int) == v)=false:=by simp;omega
 have d2:decide ((W.s.last:Int)≥9223372036854775807)=false:=qF (by omega);have d3:decide (W.s.last≥9223372036854775807)=false:=qF (by omega);clear hB hI hB1 hbx hok hc;go_enter Tryz.func69,Tryz.ntmps69
 obtain⟨xb,hxb⟩:∃xb,xb=w.heap.size:=⟨_,rfl⟩;have HW1:=qA hw1;rw[hw1]at r0 r1 HV;clear hw1;go_wp2_with fail
 refine HV.out.mono ?_;rintro _ _ ⟨rfl,rfl⟩;go_wp2_with fail
 rw[<-HW1.out,<-hxb];rw[<-HW1.out]at r0 r1;rw[<-hxb]at HI r0 r1 r3 hsx;have HXB:=qA hxb;clear hxb HV HW1;refine bF 6 (fun w' =>∃nq,w' =w1.drewN nq) (by kernel_rfl) (by kernel_rfl) (by kernel_rfl) ?_;iterate 6 (refine bM (by decide) (fun K hK=>?_);go_simp;refine hK _ ?_;clear hK K)
 refine aU rfl (.int .i64 0) (fun w' hw' =>?_) ?_
 {
 obtain⟨nq,rfl⟩:=hw';go_simp;refine(HCk.out nq).mono ?_;rintro _ _ ⟨rfl,rfl⟩;exact⟨rfl,nq,rfl⟩};iterate 1 (refine eF (by decide) (fun K hK=>?_);go_simp;refine hK _ ?_;clear hK K)
 refine bN ?_;rintro _ ⟨nq2,rfl⟩;have hI2:=HI.out.fr0 ((Fr.refl [] w1).drewN nq2);have HF02:=qA (HF01.out.drewN nq2);clear c4 r0 r1 r3 HCk HI HF01;generalize w1.drewN nq2=W2 at *;obtain⟨cl2,hB2⟩:=hI2.1;have hbx:Blk W2 xb 72 [.int .u64 u,.int .u64 v,.int .i64 wt,.int .i64 t]:=hI2.blk (z:=(xb,72,[.int .u64 u,.int .u64 v,.int .i64 wt,.int .i64 t])) (by simp);have c8:=hB2.hd.cell 8;have r0:=hbx.cell 0;have r1:=hbx.cell 1;have r2:=hbx.cell 2;have r3:=hbx.cell 3;simp only[zJ,zK]at c8 r0 r1 r2 r3;rw[show(W.wp nq).added=W.s.last from rfl]at c8;have HR:=qA (aSA hB2 HH.out.1.lk HH.out.1.ok u v hu hv wt t);have HI2:=qA hI2;clear hI2 hB2 hbx;go_wp2_with fail
 refine HR.out.mono ?_;rintro _ W3 ⟨c,rfl,hF3,hres⟩;have hI3:=HI2.out.fr0 hF3;have HF03:=qA (HF02.out.trans' hF3);have HRes:=qA hres;clear hF3 hres HR HF02 HI2 c8 r0 r1 r2 r3;by_cases hc:c=0
 {
 subst hc;obtain⟨cl3,hB3⟩:=hI3.1;have hbx:Blk W3 xb 72 [.int .u64 u,.int .u64 v,.int .i64 wt,.int .i64 t]:=hI3.blk (z:=(xb,72,[.int .u64 u,.int .u64 v,.int .i64 wt,.int .i64 t])) (by simp);have r3:=hbx.cell 3;simp only[zJ,zK]at r3;have HT:=qA (xV hB3 HH.out.1.lk HH.out.1.ok t ht1 ht2 (by unfold dL;rw[qC (by have:=HH.out.2.1;show ¬t<W.now;omega)];unfold lX;exact qD HH.out.2.2) HH.out.1.sum);have HI3:=qA hI3;clear hI3 hB3 hbx;go_wp2_with fail
 refine HT.out.mono ?_;rintro _ W4 ⟨rfl,ds,Q', n', Ks4,lx4,Lf4,cl4,hm,hB4,hF4,hn4⟩;rw[aHS]at hB4;obtain⟨k1,k2,k3⟩:=Wm.tick_ok HH.out.1 HH.out.2.1 HH.out.2.2 hm;have hI4:=HI3.out.step ⟨cl4,hB4⟩ hF4 (fun q hq=>hq) hn4;have hck:(W.s.rems ds).chk u v=0:=by {
 rcases HRes.out with⟨h1,_⟩|⟨es,Q2,_,h2,h3⟩
 {
 refine aLV HH.out.1.ok k1.ok (jI W.s ds).1 (jI W.s ds).2.1 (fun e he=>aOC ds he) ?_ h1;have:=(hm.law HH.out.1.lk HH.out.1.ok).2.2.2;show(W.s.rems ds).L.length<=_
 omega}
 · rw[(hm.uniq h2).1];exact h3.symm};have hbx:Blk W4 xb 72 [.int .u64 u,.int .u64 v,.int .i64 wt,.int .i64 t]:=hI4.blk (z:=(xb,72,[.int .u64 u,.int .u64 v,.int .i64 wt,.int .i64 t])) (by simp);clear r3;have r0:=hbx.cell 0;have r1:=hbx.cell 1;have r2:=hbx.cell 2;have r3:=hbx.cell 3;simp only[zJ,zK]at r0 r1 r2 r3;have hls:(W.tick t ds Q').s.last=W.s.last:=k3;have h0:=HH.out.1.n0;have HN:=qA (rT hB4 k1.lk k1.ok k1.hV k1.hE u v hu hv wt t (by have:=HH.out.2.1;omega) HH.out.2.2 hck (by show(W.tick t ds Q').s.last+1<=_;omega) (by show(W.tick t ds Q').s.last+1<=_;omega));have H4:=qA (zI hm (zI k1 (zI hck (zI hI4 hls))));clear hm hB4 hF4 hn4 k1 k2 k3 hI4 hck hbx HT HI3 hls h0;go_wp2_with fail
 refine HN.out.mono ?_;rintro _ W5 ⟨rfl,a,b,Ks5,lx5,Lf5,ha,hb,hI5⟩;have HX:=qA (zI ha (zI hb hI5));clear ha hb hI5 HN r0 r1 r2 r3;go_wp2
 go_ret;obtain⟨hm,k1,hck,hI4,hls⟩:=H4.out;obtain⟨ha,hb,hI5⟩:=HX.out;obtain⟨⟨cl5,hB5⟩,hF5,hn5,_⟩:=hI5;have hP:=aVK (W.tick t ds Q') u v wt a b n';have hB6:cU W5 pw pc ps px pf (((W.tick t ds Q').put u v wt a b).wp (n' + 1)) Ks5 lx5 Lf5 cl5:=by rw[<-hP];exact hB5
 refine⟨0,rfl,ds,Q', hm,.inr ⟨rfl,hck,a,b,ha,hb,bZ pw pc Ks5 lx5 Lf5,⟨Wm.put_ok k1 hu hv wt hck (by omega) ha hb,pc,ps,px,pf,n' + 1,Ks5,lx5,Lf5,cl5,hB6,rfl⟩,?_,?_⟩⟩
 · exact hI4.2.1.trans hF5 hI4.2.2.1
 {
 intro q hq;rcases hn5 q hq with h|h
 · exact hI4.2.2.1 q h
 · exact .inr (zH hI4.2.1.size h)}}
 {
 have d4:((c:Int) != 0)=true:=by simp;omega
 clear hI3;have HC:=qA hc;clear hc;go_wp2
 go_ret;rcases HRes.out with⟨_,h1⟩|⟨ds,Q', h1,h2,h3⟩
 · exact absurd h1 HC.out
 · exact⟨c,rfl,ds,Q', h2,.inl ⟨HC.out,h1,h3,HF03.out⟩⟩}
end
theorem Tryz.infoe39:∃i,Tryz.prog.info? 39=some i:=qV.1 (by kernel_rfl)
@[go_sem] theorem aWN(w:World):(Op.equalIn 10000 125 (.agg #[.int .i64 0,.int .i64 0,.int .i64 0,.int .i64 0]) (.agg #[.int .i64 0,.int .i64 0,.int .i64 0,.int .i64 0])).run Tryz.prog w=.ok true w:=by
 obtain⟨i,hi⟩:=Tryz.infoe39;have u3:=Tryz.underlying39;have a3:=Tryz.isAgg39;have z3:=Tryz.sizeOf39;have hc:Tryz.prog.cellsOf 39=1:=by kernel_rfl
 rw[show(10000:Nat)=9999+1 from rfl,run_equalIn_array w 9999 _ _ Tryz.underlying125 hi,hc];have r2:List.range 4=[0,1,2,3]:=rfl;rw[r2];simp only[Op.eqItems];go_simp
@[go_sem] theorem aVL(x y:Operand)(xs ys:Array Value)(w:World):(eqGuard .neq 125 x y (.agg xs) (.agg ys)).run Tryz.prog w=.ok () w:=run_eqGuard_agg w .neq 125 x y xs ys (by kernel_rfl)
theorem aXR(m D:Int)(E V:Nat)(w:World)(h1:1<=m)(h2:1<=E)(h3:E<=16384)(h4:2<=V)(h5:V<=4096)(h6:0<=D)(h7:D<=16384):
    Calls Tryz.prog 82 #[.agg #[.int .i64 m,.int .i64 E,.int .i64 V,.int .i64 D]] w fun e w' =>e=.returned (.bool true)/\Fr [] w w' :=by
 have d1:decide (m≥1)=true:=qG h1;have d2:decide ((E:Int)≥1)=true:=qG (by omega);have d3:decide ((E:Int)<=16384)=true:=qG (by omega);have d4:decide ((V:Int)≥2)=true:=qG (by omega);have d5:decide ((V:Int)<=4096)=true:=qG (by omega);have d6:decide (D≥0)=true:=qG h6;have d7:decide (D<=16384)=true:=qG h7;go_enter Tryz.func82,Tryz.ntmps82
 go_wp2
 go_ret;exact⟨rfl,(Fr.refl _ _).alloc _⟩
structure NS (w0 w:World) (b be bc:Nat) (l:List Value) (m D:Int) (E V:Nat):Prop where
  hd:Blk w b 38 l
  er:Blk w be 125 [.int .i64 0,.int .i64 0,.int .i64 0,.int .i64 0]
  co:Blk w bc 31 [.int .i64 m,.int .i64 E,.int .i64 V,.int .i64 D]
  fr:Fr [] w0 w
  lb:w0.heap.size<=bc
  le:bc<be
  lw:be<b
theorem NS.go{w0 w w' :World}{b be bc:Nat}{l:List Value}{m D:Int}{E V:Nat}(h:NS w0 w b be bc l m D E V)(hf:Fr [] w w'):NS w0 w' b be bc l m D E V:=
  ⟨hf.blk h.hd (by simp),hf.blk h.er (by simp),hf.blk h.co (by simp),h.fr.trans' hf,h.lb,h.le,h.lw⟩
theorem NS.put{w0 w:World}{b be bc:Nat}{l:List Value}{m D:Int}{E V:Nat}(h:NS w0 w b be bc l m D E V)(i j:Nat)(v:Value)(hj:j<4):
    NS w0 ((w.setCell ⟨b,i,none⟩ v).setCell ⟨be,j,none⟩ (.int .i64 0)) b be bc (l.set i v) m D E V/\Fr [b,be] w ((w.setCell ⟨b,i,none⟩ v).setCell ⟨be,j,none⟩ (.int .i64 0)):=by
 have h1:=h.lb;have h2:=h.le;have h3:=h.lw;have f1:Fr [b] w (w.setCell ⟨b,i,none⟩ v):=(Fr.refl _ _).setCell _ _ (.inl (by simp));have f2:Fr [be] (w.setCell ⟨b,i,none⟩ v) ((w.setCell ⟨b,i,none⟩ v).setCell ⟨be,j,none⟩ (.int .i64 0)):=(Fr.refl _ _).setCell _ _ (.inl (by simp));have he:=(f1.blk h.er (by simp;omega)).set j (.int .i64 0);refine⟨⟨f2.blk (h.hd.set i v) (by simp;omega),?_,f2.blk (f1.blk h.co (by simp;omega)) (by simp;omega),(h.fr.setCell _ _ (.inr (by simp;omega))).setCell _ _ (.inr (by simp;omega)),h1,h2,h3⟩,((Fr.refl _ _).setCell _ _ (.inl (by simp))).setCell _ _ (.inl (by simp))⟩;match j,hj with
 | 0,_=>exact he
 | 1,_=>exact he
 | 2,_=>exact he
 | 3,_=>exact he
theorem NS.mid{w0 w:World}{b be bc:Nat}{l:List Value}{m D:Int}{E V:Nat}(h:NS w0 w b be bc l m D E V)(i:Nat)(v:Value):NS w0 (w.setCell ⟨b,i,none⟩ v) b be bc (l.set i v) m D E V:=by
 have h1:=h.lb;have h2:=h.le;have h3:=h.lw;have f1:Fr [b] w (w.setCell ⟨b,i,none⟩ v):=(Fr.refl _ _).setCell _ _ (.inl (by simp));exact⟨h.hd.set i v,f1.blk h.er (by simp;omega),f1.blk h.co (by simp;omega),h.fr.setCell _ _ (.inr (by simp;omega)),h1,h2,h3⟩
theorem aHT(m D:Int)(E V g:Nat)(w:World)(h1:1<=m)(h1' :m<=9223372036854775807)(h2:1<=E)(h3:E<=16384)(h4:2<=V)(h5:V<=4096)(h6:0<=D)(h7:D<=16384)(hg:g<=9223372036854775807):
    Calls Tryz.prog 46 #[.agg #[.int .i64 m,.int .i64 E,.int .i64 V,.int .i64 D],.int .u64 g] w fun e w' =>∃pw,e=.returned (.tuple #[cJ pw,.int .i64 0])/\∃K,eK w' pw (Wm.new m E V D g) K/\Fr [] w w' /\ ∀q∈K,w.heap.size<=q:=by
 have HC:=qA (aXR m D E V (w.alloc (.cells #[.int .i64 m,.int .i64 E,.int .i64 V,.int .i64 D] 31)) h1 h2 h3 h4 h5 h6 h7);have bc:=Blk.new w [.int .i64 m,.int .i64 E,.int .i64 V,.int .i64 D] 31;have HNC:=qA (fun w' =>aUZ m h1 h1' w');have HNS:=qA (fun w' =>aRO V E g w' h5 h3 hg);have HNX:=qA (fun w' =>aUY E w' (by omega));have HNF:=qA (fun w' =>aUU V E w' h5 h3);have HOK:=qA (Wm.new_ok (m:=m) (E:=E) (V:=V) (D:=D) (gone:=g) h1 h1' h3 h5 hg);go_enter Tryz.func46,Tryz.ntmps46
 go_wp2_with fail
 refine HC.out.mono ?_;rintro _ w1 ⟨rfl,hF1⟩;have hs1:=hF1.size;simp only[World.size_alloc]at hs1;obtain⟨W,hW⟩:∃W,W=(w1.alloc (.cells #[.int .i64 0,.int .i64 0,.int .i64 0,.int .i64 0] 125)).alloc (.cells #[.int .i64 m,.int .i64 E,.int .i64 V,.int .i64 D,.pointer none,.pointer none,.pointer none,.pointer none,.int .u64 g,.int .u64 g] 38):=⟨_,rfl⟩;have hN:NS w W (w1.heap.size+1) w1.heap.size w.heap.size [.int .i64 m,.int .i64 E,.int .i64 V,.int .i64 D,.pointer none,.pointer none,.pointer none,.pointer none,.int .u64 g,.int .u64 g] m D E V:=by {
 have k1:=(Blk.new w1 [.int .i64 0,.int .i64 0,.int .i64 0,.int .i64 0] 125).alloc (.cells #[.int .i64 m,.int .i64 E,.int .i64 V,.int .i64 D,.pointer none,.pointer none,.pointer none,.pointer none,.int .u64 g,.int .u64 g] 38);have k2:=Blk.new (w1.alloc (.cells #[.int .i64 0,.int .i64 0,.int .i64 0,.int .i64 0] 125)) [.int .i64 m,.int .i64 E,.int .i64 V,.int .i64 D,.pointer none,.pointer none,.pointer none,.pointer none,.int .u64 g,.int .u64 g] 38;rw[World.size_alloc]at k2;subst hW;exact⟨k2,k1,((hF1.blk bc (by simp)).alloc _).alloc _,((((Fr.refl _ _).alloc _).trans' hF1).alloc _).alloc _,qK _,by omega,by omega⟩};have x0:=((hF1.blk bc (by simp)).alloc (.cells #[.int .i64 0,.int .i64 0,.int .i64 0,.int .i64 0] 125)).cell 0;have x1:=((hF1.blk bc (by simp)).alloc (.cells #[.int .i64 0,.int .i64 0,.int .i64 0,.int .i64 0] 125)).cell 1;have x2:=((hF1.blk bc (by simp)).alloc (.cells #[.int .i64 0,.int .i64 0,.int .i64 0,.int .i64 0] 125)).cell 2;have x3:=((hF1.blk bc (by simp)).alloc (.cells #[.int .i64 0,.int .i64 0,.int .i64 0,.int .i64 0] 125)).cell 3;have y0:=hN.co.cell 0;rw[hW]at y0;simp only[zJ,zK]at x0 x1 x2 x3 y0;have HN:=qA hN;clear hN bc hF1 HC;go_wp2_with fail
 clear x0 x1 x2 x3 y0;rw[<-hW];clear hW;generalize hb:w1.heap.size+1=b at *;generalize hbe:w1.heap.size=be at *;generalize hbc:w.heap.size=bc at *;clear hb hbe;refine(HNC.out W).mono ?_;rintro _ W1 ⟨pc,rfl,hc,hF1,hpc⟩;have hN1:=HN.out.go hF1;have hp1:=hN1.put 4 0 (gL pc) (by decide);have b4:=hN1.hd.cell 4;have z4:=hN1.hd.frozen 4;have e0:=(hN1.mid 4 (gL pc)).er.cell 0;have f0:=(hN1.mid 4 (gL pc)).er.frozen 0;have c1:=hp1.1.co.cell 1;have c2:=hp1.1.co.cell 2;simp only[zJ,zK,qU,qY]at b4 e0 c1 c2 hp1;have H1:=qA (zI hc (zI hF1 (zI hpc hp1)));have HNb:=qA (zI HN.out.hd.lt HN.out.lw);clear hc hF1 hpc hN1 hp1 HNC HN;go_wp2_with fail
 clear b4 z4 e0 f0 c1 c2;generalize (W1.setCell ⟨b,4,none⟩ (gL pc)).setCell ⟨be,0,none⟩ (.int .i64 0)=V1 at *;refine(HNS.out V1).mono ?_;rintro _ W2 ⟨ps,rfl,Ks,hc,hF2,hk2⟩;have hN2:=H1.out.2.2.2.1.go hF2;have hp2:=hN2.put 5 1 (fF ps) (by decide);have b4:=hN2.hd.cell 5;have z4:=hN2.hd.frozen 5;have e0:=(hN2.mid 5 (fF ps)).er.cell 1;have f0:=(hN2.mid 5 (fF ps)).er.frozen 1;have c1:=hp2.1.co.cell 1;simp only[zJ,zK,qU,qY]at b4 e0 c1 hp2;have H2:=qA (zI hc (zI hF2 (zI hk2 hp2)));clear hc hF2 hk2 hN2 hp2 HNS;go_wp2_with fail
 clear b4 z4 e0 f0 c1;generalize (W2.setCell ⟨b,5,none⟩ (fF ps)).setCell ⟨be,1,none⟩ (.int .i64 0)=V2 at *;refine(HNX.out V2).mono ?_;rintro _ W3 ⟨px,rfl,lx,hc,hF3,hk3⟩;have hN3:=H2.out.2.2.2.1.go hF3;have hp3:=hN3.put 6 2 (aP px) (by decide);have b4:=hN3.hd.cell 6;have z4:=hN3.hd.frozen 6;have e0:=(hN3.mid 6 (aP px)).er.cell 2;have f0:=(hN3.mid 6 (aP px)).er.frozen 2;have c1:=hp3.1.co.cell 1;have c2:=hp3.1.co.cell 2;simp only[zJ,zK,qU,qY]at b4 e0 c1 c2 hp3;have H3:=qA (zI hc (zI hF3 (zI hk3 hp3)));clear hc hF3 hk3 hN3 hp3 HNX;go_wp2_with fail
 clear b4 z4 e0 f0 c1 c2;generalize (W3.setCell ⟨b,6,none⟩ (aP px)).setCell ⟨be,2,none⟩ (.int .i64 0)=V3 at *;refine(HNF.out V3).mono ?_;rintro _ W4 ⟨pf,rfl,Lf,hc,hF4,hk4⟩;have hN4:=H3.out.2.2.2.1.go hF4;have hp4:=hN4.put 7 3 (cH pf) (by decide);have b4:=hN4.hd.cell 7;have z4:=hN4.hd.frozen 7;have e0:=(hN4.mid 7 (cH pf)).er.cell 3;have f0:=(hN4.mid 7 (cH pf)).er.frozen 3;have g0:=hp4.1.er.cell 0;have g1:=hp4.1.er.cell 1;have g2:=hp4.1.er.cell 2;have g3:=hp4.1.er.cell 3;simp only[zJ,zK,qU,qY]at b4 e0 g0 g1 g2 g3 hp4;have H4:=qA (zI hc (zI hF4 (zI hk4 hp4)));clear hc hF4 hk4 hN4 hp4 HNF;go_wp2_with fail
 clear b4 z4 e0 f0 g0 g1 g2 g3;generalize (W4.setCell ⟨b,7,none⟩ (cH pf)).setCell ⟨be,3,none⟩ (.int .i64 0)=V4 at *;go_ret2;obtain⟨hc1,hF1,hpc,hn1,hG1⟩:=H1.out;obtain⟨hc2,hF2,hk2,hn2,hG2⟩:=H2.out;obtain⟨hc3,hF3,hk3,hn3,hG3⟩:=H3.out;obtain⟨hc4,hF4,hk4,hn4,hG4⟩:=H4.out;have hbW:=HNb.out.1;have hbb:=HNb.out.2;have s1:=hF1.size;have s2:=hF2.size;have s3:=hF3.size;have s4:=hF4.size;have t1:=hG1.size;have t2:=hG2.size;have t3:=hG3.size;have t4:=hG4.size;have e1:=hc1.hd.lt;have hlb:=hn4.lb;have hle:=hn4.le;have a1:∀q,W.heap.size<=q->q∉[b,be]:=fun q hq hm=>by
   simp only[qB,List.not_mem_nil,or_false]at hm;rcases hm with rfl|rfl<;>omega
 have k2:∀q∈Ks,W1.heap.size<=q:=fun q hq=>zH t1 (hk2 q hq);have k3:∀q∈lx,W2.heap.size<=q:=fun q hq=>zH t2 (hk3 q hq);have k4:∀q∈Lf,W3.heap.size<=q:=fun q hq=>zH t3 (hk4 q hq);refine⟨b,rfl,bZ b pc Ks lx Lf,⟨HOK.out,pc,ps,px,pf,0,Ks,lx,Lf,fun x=>if x=b then 0 else if x=pc then 1 else if x<W2.heap.size then 2 else if x<W3.heap.size then 3 else 4,⟨hn4.hd,?_,?_,?_,?_,by simp,?_,?_,?_,?_⟩,rfl⟩,hn4.fr,?_⟩
 · exact((((((hc1.fr hG1 (a1 _ (by omega))).fr0 hF2).fr hG2 (a1 _ (by omega))).fr0 hF3).fr hG3 (a1 _ (by omega))).fr0 hF4).fr hG4 (a1 _ (by omega))
 · exact((((hc2.fr hG2 (fun q hq=>a1 q (by have:=k2 q hq;omega))).fr0 hF3).fr hG3 (fun q hq=>a1 q (by have:=k2 q hq;omega))).fr0 hF4).fr hG4 (fun q hq=>a1 q (by have:=k2 q hq;omega))
 · exact((hc3.fr hG3 (fun q hq=>a1 q (by have:=k3 q hq;omega))).fr0 hF4).fr hG4 (fun q hq=>a1 q (by have:=k3 q hq;omega))
 · exact hc4.fr hG4 (fun q hq=>a1 q (by have:=k4 q hq;omega))
 · rw[qC (by omega),qD rfl]
 {
 intro q hq;have:=k2 q hq;have:=hc2.lt q hq;rw[qC (by omega),qC (by omega),qD (by omega)]}
 {
 intro q hq;have:=k3 q hq;have:=hc3.lt q hq;rw[qC (by omega),qC (by omega),qC (by omega),qD (by omega)]}
 {
 intro q hq;have:=k4 q hq;rw[qC (by omega),qC (by omega),qC (by omega),qC (by omega)]}
 {
 intro q hq;simp only[bZ,qB,qE]at hq;rcases hq with rfl|rfl|hq|hq|hq
 · omega
 · omega
 · have:=k2 q hq;omega
 · have:=k3 q hq;omega
 · have:=k4 q hq;omega}
theorem aVM(m D:Int)(E V:Nat)(w:World)(h1:1<=m)(h1' :m<=9223372036854775807)(h2:1<=E)(h3:E<=16384)(h4:2<=V)(h5:V<=4096)(h6:0<=D)(h7:D<=16384):
    Calls Tryz.prog 18 #[.agg #[.int .i64 m,.int .i64 E,.int .i64 V,.int .i64 D]] w fun e w' =>∃pw,e=.returned (.tuple #[cJ pw,.int .i64 0])/\∃K,eK w' pw (Wm.new m E V D 0) K/\Fr [] w w' /\ ∀q∈K,w.heap.size<=q:=by
 have HF:=qA (aHT m D E V 0 (w.alloc (.cells #[.int .i64 m,.int .i64 E,.int .i64 V,.int .i64 D] 31)) h1 h1' h2 h3 h4 h5 h6 h7 (by decide));have x0:=(Blk.new w [.int .i64 m,.int .i64 E,.int .i64 V,.int .i64 D] 31).cell 0;have x1:=(Blk.new w [.int .i64 m,.int .i64 E,.int .i64 V,.int .i64 D] 31).cell 1;have x2:=(Blk.new w [.int .i64 m,.int .i64 E,.int .i64 V,.int .i64 D] 31).cell 2;have x3:=(Blk.new w [.int .i64 m,.int .i64 E,.int .i64 V,.int .i64 D] 31).cell 3;simp only[zJ,zK]at x0 x1 x2 x3;go_enter Tryz.func18,Tryz.ntmps18
 go_wp2_with fail
 refine HF.out.mono ?_;rintro _ w1 ⟨pw,rfl,K,h1,h2,h3⟩;have HH:=qA (zI h1 (zI h2 h3));clear h1 h2 h3 x0 x1 x2 x3;go_wp2
 go_ret2;exact⟨pw,rfl,K,HH.out.1,((Fr.refl _ _).alloc _).trans' HH.out.2.1,fun q hq=>by have:=HH.out.2.2 q hq;simp at this;omega⟩
section
variable {w w' :World} {pw:Nat} {W:Wm} {K:List Nat}
theorem aVN{pc ps px pf nq:Nat}{Ks lx Lf:List Nat}(hok:W.Ok)(h:WMv w w' pw pc ps px pf (W.wp nq) Ks lx Lf):aCW w w' pw W (bZ pw pc Ks lx Lf):=by
 obtain⟨Lf', cl', hB,hF,hn⟩:=h;refine⟨_,⟨hok,pc,ps,px,pf,nq,Ks,lx,Lf', cl', hB,rfl⟩,hF.mono (fun b hb=>.inl (aHP hb)),fun q hm=>?_⟩;simp only[bZ,qB,qE]at hm ⊢;rcases hm with e|e|e|e|e
 · simp[e]
 · simp[e]
 · simp[e]
 · simp[e]
 · exact(hn q e).imp (fun e=>by simp[e]) id
theorem aSC(h:eK w pw W K):Calls Tryz.prog 29 #[cJ pw] w fun e w' =>e=.returned (.int .i64 W.now)/\w' =w:=by
 obtain⟨hok,pc,ps,px,pf,nq,Ks,lx,Lf,cl,hB,rfl⟩:=h;exact aVC hB
theorem aJZ(h:eK w pw W K)(u v:Nat)(hu:u<18446744073709551616)(hv:v<18446744073709551616):
    Calls Tryz.prog 81 #[cJ pw,.int .u64 u,.int .u64 v] w fun e w' =>e=.returned (.tuple #[.int .i64 (pR (W.wp 0) u v),.bool (iO (W.wp 0) u v),.int .i64 (dV W.s u v)])/\aCW w w' pw W K:=by
 obtain⟨hok,pc,ps,px,pf,nq,Ks,lx,Lf,cl,hB,rfl⟩:=h;exact(aOA hB u v hu hv).mono fun _ _ h=>⟨h.1,aVN hok h.2⟩
noncomputable def aAL(W:Wm):Int:=(kS W.V W.G:Int)-(W.V-W.s.M.L.length)
theorem aKA(h:eK w pw W K):Calls Tryz.prog 27 #[cJ pw] w fun e w' =>e=.returned (.tuple #[.int .i64 W.s.L.length,.int .i64 W.s.M.L.length,.int .i64 (aAL W)])/\Fr [] w w' :=by
 obtain⟨hok,pc,ps,px,pf,nq,Ks,lx,Lf,cl,hB,rfl⟩:=h;have hvl:W.s.M.L.length<=W.V/\W.V<=4096:=by {
 have h1:=hok.ok.md.cnt;have h2:=hok.ok.md.ar.hb;have h3:=hok.ok.ms;have h4:=hok.hV;have h5:=hok.ok.leV;have h6:W.s.M.ar.slots=W.s.M.slots:=rfl;have h7:W.s.M.ar.begun=W.s.M.given:=rfl;omega};have hcl:kS W.V W.G<=W.V:=by unfold kS cF;exact zH (List.length_filter_le _ _) (by simp)
 have HV:=qA (dC hB);have HSV:=qA (aLR hB.st);have HSL:=qA (fun(w' :World) (hf:Fr [] w w')=>aTY (hB.st.fr0 hf));have HFC:=qA (fun(w' :World) (hf:Fr [] w w')=>aNZ (hB.fo.fr hf (by simp)));have c2:=hB.hd.cell 2;have c5:=hB.hd.cell 5;have c7:=hB.hd.cell 7;simp only[zJ,zK]at c2 c5 c7;have HC:=qA (fun(w' :World) (hf:Fr [] w w')=>zI (hf.cell c5 (by simp)) (hf.cell c7 (by simp)));clear hB;unfold aAL;have e1:(W.wp nq).s=W.s:=rfl;have e2:(W.wp nq).V=W.V:=rfl;have e3:(W.wp nq).G=W.G:=rfl;rw[e1]at HSV HSL;rw[e2,e3]at HFC;rw[e2]at c2;clear e1 e2 e3;generalize kS W.V W.G=cg at *;generalize W.s.M.L.length=vl at *;generalize W.s.L.length=el at *;generalize W.V=V at *;have hwr:IntKind.i64.wrap ((cg:Int)-(V-vl))=(cg:Int)-(V-vl):=by simp[IntKind.wrap,IntKind.bits,IntKind.signed];omega
 go_enter Tryz.func27,Tryz.ntmps27
 go_wp2_with fail
 refine HV.out.mono ?_;rintro _ w ⟨rfl,rfl⟩;go_wp2_with fail
 refine HSV.out.mono ?_;rintro _ w ⟨rfl,rfl⟩;go_wp2_with fail
 go_region_held3 (fun w' => w'.cell? ⟨pw, 5, none⟩ = some (fF ps) /\ w'.cell? ⟨pw, 7, none⟩ = some (cH pf))
   (first
     | with_reducible exact HC.out _ HF2.out
     | with_reducible exact HC.out _ (Fr.refl [] w).drew)
   (first
     | (go_at_call 60;with_reducible refine Calls.mono (HSL.out _ ((Fr.refl [] w).drew)) ?_;rintro r w2 ⟨rfl,rfl⟩)
     | (go_at_call 60;with_reducible refine Calls.mono (HSL.out _ HF2.out) ?_;rintro r w3 ⟨rfl,rfl⟩)
     | (go_at_call 61;with_reducible refine Calls.mono (HFC.out _ ((Fr.refl [] w).drew)) ?_;rintro r w2 ⟨rfl,hF2⟩;have HF2:=qA (Fr.trans' (Fr.refl [] w).drew hF2)))
 all_goals
  go_wp2
  go_ret3;exact⟨rfl,HF2.out⟩
end
end Go.Proofs.YtjdgpcjbgjnahaaGreatDoor
namespace Go.Proofs.YtjdgpcjbgjnahaaGreatDoor
open Go.RowKit Classical
end Go.Proofs.YtjdgpcjbgjnahaaGreatDoor
namespace Go.Proofs.YtjdgpcjbgjnahaaGreatDoor
open Go.RowKit
section
variable {w0 wr w' :World} {pw:Nat} {W W' :Wm} {K:List Nat}
end
structure Bg (W:Wm) (k:Nat):Prop where
  m:W.m=20
  E:W.E=40
  V:W.V=12
  D:W.D=0
  now:W.now<=3*k
  id:∀e∈W.s.L,e.u<12/\e.v<12
  last:W.s.last<=k
structure Wm.Later (W1 W2:Wm):Prop where
  G:∀i a b x,W2.G i=some (a,b,x)↔W1.G i=some (a,b,x)/\W2.now<x
  find:∀u j,W2.s.M.find u=some j->W1.s.M.find u=some j
theorem vL(G:bX)(r:Int):kG G r=oK G (r-1):=by
 funext t
 exact propext ⟨fun⟨a,b,x,h1,h2⟩=>⟨a,b,x,h1,by omega⟩,fun⟨a,b,x,h1,h2⟩=>⟨a,b,x,h1,by omega⟩⟩
theorem Cx.first{G:bX}{U:Nat->Prop}{a b:Nat}(h:Cx G U a b)(hne:a≠b):(∃s c x,U s/\(G s=some (c,b,x)∨G s=some (b,c,x))):=by
 cases h with
 | refl=>exact absurd rfl hne
 | step s x h1 h2 h3=>exact⟨s,_,x,h2,h3⟩
end Go.Proofs.YtjdgpcjbgjnahaaGreatDoor
namespace Go.Proofs.YtjdgpcjbgjnahaaGreatDoor
open Go.RowKit Classical
section
variable {S V:Nat} {z:Nat->Int×Int×Int} {P P' :Nat->Prop} {i:Nat}
end
end Go.Proofs.YtjdgpcjbgjnahaaGreatDoor
namespace Go.Proofs.YtjdgpcjbgjnahaaGreatDoor
open Classical
section
variable (use:Nat->Bool) (A B:Nat->Nat)
variable {use A B} {len n:Nat} {f:Nat->Bool}
end
end Go.Proofs.YtjdgpcjbgjnahaaGreatDoor
namespace Go.Proofs.YtjdgpcjbgjnahaaGreatDoor
open Go.RowKit Classical
end Go.Proofs.YtjdgpcjbgjnahaaGreatDoor
namespace Go.Proofs.YtjdgpcjbgjnahaaGreatDoor
open Classical
section
variable {S V:Nat} {z:Nat->Int×Int×Int} {P:Nat->Prop} {D:Nat->Prop} {t m k:Nat}
end
end Go.Proofs.YtjdgpcjbgjnahaaGreatDoor
namespace Go.Proofs.YtjdgpcjbgjnahaaGreatDoor
open Go.RowKit Classical
section
variable {W wr w' :World} {pf S V tb m:Nat} {G G' :bX} {f:Nat->Bool} {L:List Nat}
end
section
variable {S V:Nat} {z:Nat->Int×Int×Int} {P:Nat->Prop} {a b:Nat} {T:Int}
end
theorem aOG{G:bX}{S V:Nat}(hG:GW S V G){a b:Nat}(hab:a≠b)(h:Cx G (fun _=>True) a b):∃T,dZ G a b T:=by
 have key:∀(k:Nat) (U:Nat->Prop),cF S U<=k->(∀t,U t->∃e,G t=some e)->Upw G U->Cx G U a b->∃T,dZ G a b T:=by {
 intro k;induction k with
 | zero=>{
 intro U hk hU _ hc;exfalso
 have h0:∀s,¬U s:=fun s hs=>by obtain⟨e,he⟩:=hU s hs;exact lS (by omega) s (hG.slot s e he) hs
 cases hc with
 | refl=>exact hab rfl
 | step s x _ h1 _=>exact h0 s h1}
 | succ k ih=>{
 intro U hk hU hup hc;by_cases hex:∃s,U s
 {
 obtain⟨s,c,d,x,hs,hgs,hall⟩:=aCC hG.slot (k+1) U hk hU hex;by_cases hb:Cx G (oK G x) a b
 {
 -- what is beyond x is fewer
 have hd:=iI (T:=U) (hG.slot s _ hgs) hs;have hsub:∀t,oK G x t/\U t->U t/\t≠s:=fun t ⟨⟨_,_,y,h1,h2⟩,h3⟩=>⟨h3,by rintro rfl;rw[hgs]at h1;simp at h1;omega⟩;refine ih (fun t=>oK G x t/\U t) (by have:=aJG S hsub;omega) (fun t ht=>hU t ht.2) ?_ ?_
 {
 rintro t c' d' y u ⟨⟨_,_,y', h1,h2⟩,h3⟩ h4 h5;refine⟨?_,hup t c' d' y u h3 h4 h5⟩;rw[h4]at h1;simp only[qI,zE]at h1;obtain⟨_,_,v,h6,h7⟩:=h5;exact⟨_,_,v,h6,by unfold bef at h7;omega⟩}
 {
 exact hb.mono fun t f ht hg=>⟨ht,by
   obtain⟨_,_,y,h1,h2⟩:=ht;by_cases e:t=s
   · rw[e];exact hs
   · exact hup s c d x t hs hgs ⟨_,_,y,h1,by unfold bef;omega⟩⟩}}
 {
 refine⟨x,hc.mono fun t f ht hg=>?_,hb⟩;by_cases e:t=s
 · subst e;exact⟨_,_,_,hgs,Int.le_refl _⟩
 {
 obtain⟨_,_,y,h1,h2⟩:=hall t ht e;exact⟨_,_,y,h1,by unfold bef at h2;omega⟩}}}
 {
 exfalso
 cases hc with
 | refl=>exact hab rfl
 | step s x _ h1 _=>exact hex ⟨s,h1⟩}}};refine key _ (fun t=>∃e,G t=some e) (qK _) (fun t h=>h) (fun _ _ _ _ _ _ _ ⟨_,_,_,h,_⟩=>⟨_,h⟩) (h.mono fun t f _ hg=>⟨f,hg⟩)
theorem aKB{G:bX}{S V:Nat}(hG:GW S V G){x y:Int}(h:dK V G x y=true):∃T,dZ G x.toNat y.toNat T:=by
 unfold dK nV at h;simp only[qX,decide_eq_true_eq]at h;obtain⟨h1,⟨h2,h3⟩,h4⟩:=h;obtain⟨a,rfl,_⟩:=dD h2;obtain⟨b,rfl,_⟩:=dD h3;exact aOG hG (by omega) h4
section
variable {W w wr:World} {pw:Nat} {X Y:Wm}
theorem aSD(s:Sm)(u v:Nat):dV s u v=0∨dV s u v=13:=by
 unfold dV;by_cases h:(s.M.find u).isSome=true/\(s.M.find v).isSome=true
 · exact .inl (qD h)
 · exact .inr (qC h)
theorem xW{s:Sm}{u v:Nat}(h:dV s u v=0):∃a b,s.M.find u=some a/\s.M.find v=some b/\dR s u v=a/\dR s v u=b:=by
 unfold dV at h;by_cases h1:(s.M.find u).isSome=true/\(s.M.find v).isSome=true
 {
 obtain⟨a,ha⟩:=qV.1 h1.1;obtain⟨b,hb⟩:=qV.1 h1.2;refine⟨a,b,ha,hb,?_,?_⟩
 · unfold dR;rw[qD h1,ha];rfl
 · unfold dR;rw[qD ⟨h1.2,h1.1⟩,hb];rfl}
 · rw[qC h1]at h;cases h
theorem tG{s:Sm}(h:s.Ok){V u a:Nat}(hV:s.V=V)(hu:s.M.find u=some a):inV V a=true:=by
 have:=Sm.idx_lt h hu;simp[inV];omega
theorem xX(hok:X.Ok){u v a b:Nat}(hu:X.s.M.find u=some a)(hv:X.s.M.find v=some b):dV X.s u v=0/\kO (X.wp 0) u v=decide (Cx X.G (fun _=>True) a b):=by
 have h0:dV X.s u v=0:=by unfold dV;rw[qD (by simp[hu,hv])]
 have hi:dR X.s u v=a:=by unfold dR;rw[qD (by simp[hu,hv]),hu];rfl
 have hj:dR X.s v u=b:=by unfold dR;rw[qD (by simp[hu,hv]),hv];rfl
 refine⟨h0,?_⟩;unfold kO;rw[show(X.wp 0).s=X.s from rfl,qD h0,hi,hj];show nV X.V X.G a b=_
 unfold nV;rw[tG hok.ok hok.hV hu,tG hok.ok hok.hV hv];simp
theorem aCY(hok:X.Ok)(hg:GW X.E X.V X.G)(u v:Nat):
    (iO (X.wp 0) u v=false/\pR (X.wp 0) u v=0/\((dV X.s u v=13/\kO (X.wp 0) u v=false)∨(dV X.s u v=0/\kO (X.wp 0) u v=false)∨(dV X.s u v=0/\kO (X.wp 0) u v=true/\u=v))) ∨
    (iO (X.wp 0) u v=true/\dV X.s u v=0/\kO (X.wp 0) u v=true/\u≠v/\∃a b,X.s.M.find u=some a/\X.s.M.find v=some b/\a≠b/\dZ X.G a b (pR (X.wp 0) u v)):=by
 rcases aSD X.s u v with h0|h0
 {
 obtain⟨a,b,hu,hv,hi,hj⟩:=xW h0;obtain⟨_,hc⟩:=xX hok hu hv;have hB:iO (X.wp 0) u v=(decide (a≠b)&&decide (Cx X.G (fun _=>True) a b)):=by {
 unfold iO;rw[show(X.wp 0).s=X.s from rfl,qD h0,hi,hj];show dK X.V X.G a b=_
 unfold dK nV;rw[tG hok.ok hok.hV hu,tG hok.ok hok.hV hv];simp[Int.natCast_inj]};have hV:pR (X.wp 0) u v=if iO (X.wp 0) u v=true then vF X.G a b else 0:=by {
 unfold pR iO;rw[show(X.wp 0).s=X.s from rfl,qD h0,qD h0,hi,hj];rfl};by_cases hcx:Cx X.G (fun _=>True) a b
 {
 rw[qG hcx]at hc hB;by_cases hab:a=b
 {
 have huv:u=v:=mC hok.ok.md hu (by rw[hab];exact hv);have hB' :iO (X.wp 0) u v=false:=by rw[hB];simp[hab]
 exact .inl ⟨hB', by rw[hV,hB'];rfl,.inr (.inr ⟨h0,hc,huv⟩)⟩}
 {
 have hB' :iO (X.wp 0) u v=true:=by rw[hB];simp[hab]
 refine .inr ⟨hB', h0,hc,fun e=>hab (Option.some.inj (hu.symm.trans (by rw[e];exact hv))),a,b,hu,hv,hab,?_⟩;rw[hV,qD hB'];have hB2:dK X.V X.G a b=true:=by {
 have h1:=hB';unfold iO at h1;rw[show(X.wp 0).s=X.s from rfl,qD h0,hi,hj]at h1;exact h1};obtain⟨r,hr⟩:=aKB hg hB2;rw[show vF X.G a b=r from xN hr];exact hr}}
 {
 rw[qF hcx]at hc hB;have hB' :iO (X.wp 0) u v=false:=by rw[hB];simp
 exact .inl ⟨hB', by rw[hV,hB'];rfl,.inr (.inl ⟨h0,hc⟩)⟩}}
 {
 refine .inl ⟨?_,?_,.inl ⟨h0,?_⟩⟩
 · unfold iO;rw[show(X.wp 0).s=X.s from rfl,qC (by omega)]
 · unfold pR;rw[show(X.wp 0).s=X.s from rfl,qC (by omega)]
 · unfold kO;rw[show(X.wp 0).s=X.s from rfl,qC (by omega)]}
end
inductive Rl (L:List Lv) (f:Int):Nat->Nat->Prop
  | refl (u:Nat):Rl L f u u
  | step {a b c:Nat} (e:Lv):Rl L f a b->e∈L->f<=e.x->(e.u=b/\e.v=c∨e.u=c/\e.v=b)->Rl L f a c
section
variable {L L' :List Lv} {f g:Int} {a b c:Nat}
theorem Rl.trans(h:Rl L f a b)(h' :Rl L f b c):Rl L f a c:=by
 induction h' with
 | refl=>exact h
 | step e _ h1 h2 h3 ih=>exact .step e ih h1 h2 h3
theorem Rl.edge{e:Lv}(he:e∈L)(hx:f<=e.x):Rl L f e.u e.v:=.step e (.refl _) he hx (.inl ⟨rfl,rfl⟩)
theorem Rl.edge' {e:Lv}(he:e∈L)(hx:f<=e.x):Rl L f e.v e.u:=.step e (.refl _) he hx (.inr ⟨rfl,rfl⟩)
theorem Rl.symm(h:Rl L f a b):Rl L f b a:=by
 induction h with
 | refl=>exact .refl _
 | step e _ h1 h2 h3 ih=>{
 rcases h3 with⟨rfl,rfl⟩|⟨rfl,rfl⟩
 · exact(Rl.edge' h1 h2).trans ih
 · exact(Rl.edge h1 h2).trans ih}
theorem Rl.mono(h:Rl L f a b)(hm:∀e∈L,f<=e.x->∃d∈L', d.u=e.u/\d.v=e.v/\g<=d.x):Rl L' g a b:=by
 induction h with
 | refl=>exact .refl _
 | step e _ h1 h2 h3 ih=>{
 obtain⟨d,hd,e1,e2,hx⟩:=hm e h1 h2;exact .step d ih hd hx (by rw[e1,e2];exact h3)}
theorem Rl.less(h:Rl L f a b)(hg:g<=f):Rl L g a b:=h.mono fun e he hx=>⟨e,he,rfl,rfl,by omega⟩
end
def inL(L:List Lv)(u:Nat):Prop:=∃e∈L,e.at u=true
def aCZ:Int:=-9223372036854775808
def cG(e:Lv):Lv:={ e with slot:=0 }
theorem mD{L:List Lv}{u:Nat}:inL (L.map cG) u↔inL L u:=by
 unfold inL;constructor
 {
 rintro⟨e,he,h⟩;obtain⟨d,hd,rfl⟩:=qW.1 he;exact⟨d,hd,h⟩}
 {
 rintro⟨e,he,h⟩;exact⟨cG e,qW.2 ⟨e,he,rfl⟩,h⟩}
theorem tH{L:List Lv}{f:Int}{a b:Nat}:Rl (L.map cG) f a b↔Rl L f a b:=by
 constructor
 {
 intro h;refine h.mono fun e he hx=>?_;obtain⟨d,hd,rfl⟩:=qW.1 he;exact⟨d,hd,rfl,rfl,hx⟩}
 {
 intro h;exact h.mono fun e he hx=>⟨cG e,qW.2 ⟨e,he,rfl⟩,rfl,rfl,hx⟩}
noncomputable def ncl(R:Nat->Nat->Prop):List Nat->Nat
  | []=>0
  | a::r=>ncl R r+if ∃b∈r,R a b then 0 else 1
section
variable {R R' :Nat->Nat->Prop} {l m:List Nat}
theorem vM(hs:∀a b,R a b->R b a)(ht:∀a b c,R a b->R b c->R a c)(h:l.Perm m):ncl R l=ncl R m:=by
 induction h with
 | nil=>rfl
 | cons a h ih=>{
 have e:(∃b∈_,R a b)↔∃b∈_,R a b:=⟨fun⟨b,hb,hr⟩=>⟨b,h.mem_iff.1 hb,hr⟩,fun⟨b,hb,hr⟩=>⟨b,h.mem_iff.2 hb,hr⟩⟩;simp only[ncl,ih,e]}
 | swap a b r=>{
 simp only[ncl,qB,exists_eq_or_imp];by_cases hab:R a b
 {
 have hba:=hs _ _ hab;have e:(∃c,c∈r/\R a c)↔∃c,c∈r/\R b c:=⟨fun⟨c,hc,h⟩=>⟨c,hc,ht _ _ _ hba h⟩,fun⟨c,hc,h⟩=>⟨c,hc,ht _ _ _ hab h⟩⟩;simp only[hab,hba,e,true_or,if_true]}
 {
 have hba:¬R b a:=fun h=>hab (hs _ _ h);simp only[hab,hba,false_or];omega}}
 | trans _ _ ih1 ih2=>rw[ih1,ih2]
theorem aSE(f:Nat->Nat)(l:List Nat):ncl R (l.map f)=ncl (fun a b=>R (f a) (f b)) l:=by
 induction l with
 | nil=>rfl
 | cons a r ih=>{
 have e:(∃b∈r.map f,R (f a) b)↔∃b∈r,R (f a) (f b):=by {
 constructor
 {
 rintro⟨b,hb,hr⟩;obtain⟨c,hc,rfl⟩:=qW.1 hb;exact⟨c,hc,hr⟩}
 · rintro⟨c,hc,hr⟩;exact⟨f c,qW.2 ⟨c,hc,rfl⟩,hr⟩};simp only[List.map_cons,ncl,ih,e]}
theorem xY(h:∀a∈l,∀b∈l,R a b↔R' a b):ncl R l=ncl R' l:=by
 induction l with
 | nil=>rfl
 | cons a r ih=>{
 have e:(∃b∈r,R a b)↔∃b∈r,R' a b:=⟨fun⟨b,hb,hr⟩=>⟨b,hb,(h a (by simp) b (by simp[hb])).1 hr⟩,fun⟨b,hb,hr⟩=>⟨b,hb,(h a (by simp) b (by simp[hb])).2 hr⟩⟩;simp only[ncl,ih fun a ha b hb=>h a (by simp[ha]) b (by simp[hb]),e]}
theorem aOH(hs:∀a b,R a b->R b a)(ht:∀a b c,R a b->R b c->R a c)(l:List Nat)(a:Nat):ncl R (l++[a])=ncl R l+if ∃b∈l,R a b then 0 else 1:=by
 rw[vM hs ht (List.perm_append_comm (l₁:=l) (l₂:=[a]))];rfl
theorem aKC(h:∀a∈l,∀b,R a b->a=b)(hn:(l++m).Nodup):ncl R (l++m)=l.length+ncl R m:=by
 induction l with
 | nil=>simp
 | cons a r ih=>{
 rw[zC]at hn ⊢;have hn' :=qO.1 hn;have e:¬∃b∈r++m,R a b:=fun⟨b,hb,hr⟩=>hn'.1 ((h a (by simp) b hr)▸hb);simp only[ncl,qC e,ih (fun b hb=>h b (by simp[hb])) hn'.2,qZ];omega}
end
section
variable {W:Wm} {f:Int} {a b u v:Nat}
theorem aXS(h:W.Ok)(hc:Cx W.G (kG W.G f) a b)(hu:W.s.M.find u=some a):∃v,W.s.M.find v=some b/\Rl W.s.L f u v:=by
 induction hc with
 | refl=>exact⟨u,hu,.refl _⟩
 | step s x _ h1 h2 ih=>{
 obtain⟨v,hv,hr⟩:=ih;obtain⟨p,q,y,hy,hfy⟩:=h1;rcases h2 with h2|h2
 {
 rw[h2]at hy;simp only[qI,zE]at hy;obtain⟨e,he,hs,e1,e2,ex⟩:=(h.lk.g _ _ _ _).1 h2;exact⟨e.v,e2,.step e hr he (by omega) (.inl ⟨mC h.ok.md e1 hv,rfl⟩)⟩}
 {
 rw[h2]at hy;simp only[qI,zE]at hy;obtain⟨e,he,hs,e1,e2,ex⟩:=(h.lk.g _ _ _ _).1 h2;exact⟨e.u,e1,.step e hr he (by omega) (.inr ⟨rfl,mC h.ok.md e2 hv⟩)⟩}}
theorem aXT(h:W.Ok)(hc:Rl W.s.L f u v)(hu:W.s.M.find u=some a):∃b,W.s.M.find v=some b/\Cx W.G (kG W.G f) a b:=by
 induction hc with
 | refl=>exact⟨a,hu,.refl _⟩
 | step e _ h1 h2 h3 ih=>{
 obtain⟨b,hb,hc⟩:=ih;obtain⟨p,hp⟩:=qV.1 (fS h.ok h1 (x:=e.u) (by simp[Lv.at]));obtain⟨q,hq⟩:=qV.1 (fS h.ok h1 (x:=e.v) (by simp[Lv.at]));have hg:W.G e.slot=some (p,q,e.x):=(h.lk.g _ _ _ _).2 ⟨e,h1,rfl,hp,hq,rfl⟩;rcases h3 with⟨e1,e2⟩|⟨e1,e2⟩
 {
 have:b=p:=by rw[<-e1,hp]at hb;exact(Option.some.inj hb).symm
 subst this;exact⟨q,by rw[<-e2];exact hq,.step e.slot e.x hc ⟨_,_,_,hg,h2⟩ (.inl hg)⟩}
 {
 have:b=q:=by rw[<-e2,hq]at hb;exact(Option.some.inj hb).symm
 subst this;exact⟨p,by rw[<-e1];exact hp,.step e.slot e.x hc ⟨_,_,_,hg,h2⟩ (.inr hg)⟩}}
theorem aFK(h:W.Ok)(hu:W.s.M.find u=some a)(hv:W.s.M.find v=some b):Cx W.G (kG W.G f) a b↔Rl W.s.L f u v:=by
 constructor
 {
 intro hc;obtain⟨v', hv', hr⟩:=aXS h hc hu;rw[mC h.ok.md hv hv'];exact hr}
 {
 intro hr;obtain⟨b', hb', hc⟩:=aXT h hr hu;rw[hv]at hb';rw[Option.some.inj hb'];exact hc}
theorem aVO(h:W.Ok)(a b:Nat):Cx W.G (fun _=>True) a b↔Cx W.G (kG W.G aCZ) a b:=by
 constructor
 {
 refine fun hc=>hc.mono fun t e _ he=>?_;obtain⟨p,q,x⟩:=e;refine⟨p,q,x,he,?_⟩;obtain⟨d,hd,_,_,_,hx⟩:=(h.lk.g _ _ _ _).1 he;have h1:=(h.x d hd).2.2.2;have h2:=h.n0;unfold aCZ;omega}
 · exact fun hc=>hc.mono fun _ _ _ _=>trivial
theorem aHU(h:W.Ok)(hu:W.s.M.find u=some a)(hv:W.s.M.find v=some b):Cx W.G (fun _=>True) a b↔Rl W.s.L aCZ u v:=by
 rw[aVO h,aFK h hu hv]
theorem aKD(h:W.Ok){r:Int}(hu:W.s.M.find u=some a)(hv:W.s.M.find v=some b):dZ W.G a b r↔(Rl W.s.L r u v/\¬Rl W.s.L (r+1) u v):=by
 have e:oK W.G r=kG W.G (r+1):=by rw[vL];congr 1;omega
 unfold dZ;rw[e,aFK h hu hv,aFK h hu hv]
theorem vN(h:W.Ok)(u:Nat):(W.s.M.find u).isSome=true↔inL W.s.L u:=by
 rw[h.ok.vert];constructor
 {
 intro hn;obtain⟨k,hk⟩:=List.exists_mem_of_ne_nil _ hn;obtain⟨e,he,hat,_⟩:=eY.1 hk;exact⟨e,he,hat⟩}
 {
 rintro⟨e,he,hat⟩;exact List.ne_nil_of_mem (eY.2 ⟨e,he,hat,rfl⟩)}
end
def oN(x:Nat):List Nat->List Nat
  | []=>[x]
  | a::r=>if x=a then a::r else if x<a then x::a::r else a::oN x r
theorem mF{x y:Nat}{l:List Nat}:y∈oN x l↔y=x∨y∈l:=by
 induction l with
 | nil=>simp[oN]
 | cons a r ih=>{
 unfold oN;by_cases h1:x=a
 {
 rw[qD h1,qB];constructor
 · exact fun h=>.inr h
 {
 rintro(rfl|h)
 · exact .inl h1
 · exact h}}
 {
 rw[qC h1];by_cases h2:x<a
 · rw[qD h2,qB]
 {
 rw[qC h2,qB,qB,ih];constructor
 {
 rintro(h|h|h)
 · exact .inr (.inl h)
 · exact .inl h
 · exact .inr (.inr h)}
 {
 rintro(h|h|h)
 · exact .inr (.inl h)
 · exact .inl h
 · exact .inr (.inr h)}}}}
theorem tI{x:Nat}{l:List Nat}(h:l.Pairwise (· < ·)):(oN x l).Pairwise (· < ·):=by
 induction l with
 | nil=>simp[oN]
 | cons a r ih=>{
 have h' :=List.pairwise_cons.1 h;unfold oN;by_cases h1:x=a
 · rw[qD h1];exact h
 {
 rw[qC h1];by_cases h2:x<a
 {
 rw[qD h2];refine List.pairwise_cons.2 ⟨fun y hy=>?_,h⟩;rcases qB.1 hy with rfl|hy
 · exact h2
 · have:=h'.1 y hy;omega}
 {
 rw[qC h2];refine List.pairwise_cons.2 ⟨fun y hy=>?_,ih h'.2⟩;rcases mF.1 hy with rfl|hy
 · omega
 · exact h'.1 y hy}}}
theorem aOI{l m:List Nat}(hl:l.Pairwise (· < ·))(hm:m.Pairwise (· < ·))(h:∀x,x∈l↔x∈m):l=m:=by
 refine List.Perm.eq_of_pairwise (le:=fun x y:Nat=>x<y) (fun a b _ _ h1 h2=>by omega) hl hm ?_;rw[List.perm_ext_iff_of_nodup (hl.imp fun h=>Nat.ne_of_lt h) (hm.imp fun h=>Nat.ne_of_lt h)];exact h
def eX(L:List Lv):List Nat:=L.foldl (fun o e=>oN e.v (oN e.u o)) []
theorem idsF(L:List Lv):∀o:List Nat,o.Pairwise (· < ·)->(L.foldl (fun o e=>oN e.v (oN e.u o)) o).Pairwise (· < ·)/\∀x,x∈L.foldl (fun o e=>oN e.v (oN e.u o)) o↔x∈o∨inL L x:=by
 induction L with
 | nil=>intro o ho;exact⟨ho,fun x=>by simp[inL]⟩
 | cons e r ih=>{
 intro o ho;obtain⟨h1,h2⟩:=ih _ (tI (x:=e.v) (tI (x:=e.u) ho));refine⟨h1,fun x=>?_⟩;rw[List.foldl_cons,h2,mF,mF];unfold inL;simp only[qB,exists_eq_or_imp,Lv.at,Bool.or_eq_true,beq_iff_eq];constructor
 {
 rintro((h|h|h)|h)
 · exact .inr (.inl (.inr h.symm))
 · exact .inr (.inl (.inl h.symm))
 · exact .inl h
 · exact .inr (.inr h)}
 {
 rintro(h|(h|h)|h)
 · exact .inl (.inr (.inr h))
 · exact .inl (.inr (.inl h.symm))
 · exact .inl (.inl h.symm)
 · exact .inr h}}
theorem pS(L:List Lv):(eX L).Pairwise (· < ·):=(idsF L [] .nil).1
theorem iP{L:List Lv}{x:Nat}:x∈eX L↔inL L x:=by
 have h:=(idsF L [] .nil).2 x;unfold eX;rw[h];simp
theorem aFL(L:List Lv):(eX L).Nodup:=(pS L).imp fun h=>Nat.ne_of_lt h
theorem mZ(L:List Lv):eX (L.map cG)=eX L:=
  aOI (pS _) (pS _) fun x=>by rw[iP,iP,mD]
section
variable {W:Wm}
theorem Wm.Ok.ids_eq(h:W.Ok):W.s.ids=eX W.s.L:=by
 refine aOI (aLM h.ok.md.ids) (pS _) fun x=>?_;rw[show W.s.ids=jG (W.s.M.L.map (·.1)) from rfl,aIV,fU h.ok.md,vN h,iP]
theorem Wm.Ok.ids_len(h:W.Ok):W.s.M.L.length=(eX W.s.L).length:=by rw[<-h.ids_eq,Sm.ids_len]
theorem Wm.Ok.ids_perm(h:W.Ok):(W.s.M.L.map (·.1)).Perm (eX W.s.L):=by
 rw[<-h.ids_eq];exact(iK _).symm
theorem Wm.Ok.idx(h:W.Ok){u a:Nat}(hu:W.s.M.find u=some a):a<W.V:=by
 have:=Sm.idx_lt h.ok hu;rw[h.hV]at this;exact this
theorem aXX(h:W.Ok){T P:Nat->Prop}(hT:∀i,T i↔∃u,W.s.M.find u=some i/\P u):cF W.V T=((eX W.s.L).filter fun u=>decide (P u)).length:=by
 have h1:((List.range W.V).filter fun i=>decide (T i)).Perm ((W.s.M.L.filter fun p=>decide (P p.1)).map (·.2)):=by {
 rw[List.perm_ext_iff_of_nodup (List.nodup_range.filter _) ((List.Sublist.map _ List.filter_sublist).nodup h.ok.md.idx)];intro i;simp only[zA,List.mem_range,decide_eq_true_eq,qW];constructor
 {
 rintro⟨_,ht⟩;obtain⟨u,hu,hp⟩:=(hT i).1 ht;exact⟨(u,i),⟨Md.find_mem hu,hp⟩,rfl⟩}
 {
 rintro⟨⟨u,j⟩,⟨hm,hp⟩,rfl⟩;have hu:=(Md.find_iff h.ok.md).2 hm;exact⟨h.idx hu,(hT _).2 ⟨u,hu,hp⟩⟩}};unfold cF;rw[h1.length_eq,List.length_map];have h2:=(h.ids_perm.filter fun u=>decide (P u)).length_eq;rw[<-h2,List.filter_map,List.length_map];rfl
theorem aOJ(G:bX)(T:Nat->Prop)(n:Nat):cF n (pK G T)=ncl (Cx G T) (List.range n):=by
 induction n with
 | zero=>rfl
 | succ n ih=>{
 rw[List.range_succ,aOH (fun _ _ h=>h.symm) (fun _ _ _ h1 h2=>h1.trans h2),<-ih];unfold cF;rw[List.range_succ,List.filter_append,zF];congr 1
 by_cases hl:pK G T n
 {
 have:¬∃b∈List.range n,Cx G T n b:=fun⟨b,hb,hc⟩=>hl b (List.mem_range.1 hb) hc;rw[qC this];simp[hl]}
 {
 have:∃b∈List.range n,Cx G T n b:=by {
 apply qQ;intro hn;exact hl fun b hb hc=>hn ⟨b,List.mem_range.2 hb,hc⟩};rw[qD this];simp[hl]}}
theorem aKE(h:W.Ok):kS W.V W.G+W.s.M.L.length=W.V+ncl (Rl W.s.L aCZ) (eX W.s.L):=by
 unfold kS;rw[aOJ];have hp:(List.range W.V).Perm (((List.range W.V).filter fun i=>decide (i∉W.s.M.L.map (·.2)))++W.s.M.L.map (·.2)):=by {
 rw[List.perm_ext_iff_of_nodup List.nodup_range]
 {
 intro i;simp only[qE,zA,List.mem_range,decide_eq_true_eq];constructor
 {
 intro hi;by_cases hm:i∈W.s.M.L.map (·.2)
 · exact .inr hm
 · exact .inl ⟨hi,hm⟩}
 {
 rintro(hi|hm)
 · exact hi.1
 {
 obtain⟨⟨u,j⟩,hm2,rfl⟩:=qW.1 hm;exact h.idx ((Md.find_iff h.ok.md).2 hm2)}}}
 {
 rw[qN];refine⟨List.nodup_range.filter _,h.ok.md.idx,fun a ha b hb e=>?_⟩;subst e;exact(of_decide_eq_true (zA.1 ha).2) hb}};have hlen:=hp.length_eq;rw[List.length_range,zF,List.length_map]at hlen;rw[vM (fun _ _ h=>h.symm) (fun _ _ _ h1 h2=>h1.trans h2) hp,aKC]
 {
 have e1:W.s.M.L.map (·.2)=(W.s.M.L.map (·.1)).map fun u=>(W.s.M.find u).getD 0:=by {
 rw[List.map_map];refine List.map_congr_left fun p hm=>?_;show p.2=(W.s.M.find p.1).getD 0
 rw[(Md.find_iff h.ok.md).2 (show(p.1,p.2)∈_ from hm)];rfl};have e2:ncl (Cx W.G fun _=>True) (W.s.M.L.map (·.2))=ncl (Rl W.s.L aCZ) (eX W.s.L):=by {
 rw[e1,aSE,<-vM (fun _ _ h=>h.symm) (fun _ _ _ h1 h2=>h1.trans h2) h.ids_perm];refine xY fun a ha b hb=>?_;obtain⟨i,hi⟩:=qV.1 ((fU h.ok.md).1 ha);obtain⟨j,hj⟩:=qV.1 ((fU h.ok.md).1 hb);rw[hi,hj];exact aHU h hi hj};rw[e2];omega}
 {
 intro a ha b hc;apply qQ;intro hne;have hn:a∉W.s.M.L.map (·.2):=of_decide_eq_true (zA.1 ha).2;obtain⟨s,c,x,_,hs⟩:=hc.symm.first (Ne.symm hne);rcases hs with hs|hs
 {
 obtain⟨e,he,_,e1,e2,_⟩:=(h.lk.g _ _ _ _).1 hs;exact hn (qW.2 ⟨_,Md.find_mem e2,rfl⟩)}
 {
 obtain⟨e,he,_,e1,e2,_⟩:=(h.lk.g _ _ _ _).1 hs;exact hn (qW.2 ⟨_,Md.find_mem e1,rfl⟩)}}
 · exact hp.nodup_iff.1 List.nodup_range
end
noncomputable def xZ(L:List Lv)(u v:Nat):Bool:=decide (inL L u/\inL L v/\Rl L aCZ u v)
noncomputable def kT(L:List Lv)(u v:Nat):Int:=if inL L u/\inL L v then 0 else 13
noncomputable def yA(L:List Lv):Nat:=ncl (Rl L aCZ) (eX L)
noncomputable def pT(L:List Lv)(u v:Nat):Bool:=decide (inL L u/\inL L v/\u≠v/\Rl L aCZ u v)
def sI(L:List Lv)(u v:Nat)(r:Int):Prop:=Rl L r u v/\¬Rl L (r+1) u v
theorem aKF{L:List Lv}{u v:Nat}{r r' :Int}(h:sI L u v r)(h' :sI L u v r'):r=r' :=by
 have key:∀{r r' :Int},sI L u v r->sI L u v r' -> ¬r<r' :=fun h h' hlt=>h.2 (h'.1.less (by omega));have:=key h h';have:=key h' h;omega
noncomputable def sY(L:List Lv)(u v:Nat):Int:=if h:pT L u v=true/\∃r,sI L u v r then Classical.choose h.2 else 0
theorem aSF{L:List Lv}{u v:Nat}{r:Int}(hb:pT L u v=true)(h:sI L u v r):sY L u v=r:=by
 have hx:pT L u v=true/\∃r,sI L u v r:=⟨hb,r,h⟩;unfold sY;rw[dif_pos hx];exact aKF (Classical.choose_spec hx.2) h
theorem aSG{L:List Lv}{u v:Nat}(hb:pT L u v=false):sY L u v=0:=by
 unfold sY;rw[dif_neg fun h=>by rw[hb]at h;cases h.1]
section
variable (L:List Lv) (u v:Nat)
theorem vO:xZ (L.map cG) u v=xZ L u v:=by unfold xZ;simp only[mD,tH]
theorem vP:kT (L.map cG) u v=kT L u v:=by unfold kT;simp only[mD]
theorem aFM:yA (L.map cG)=yA L:=by
 unfold yA;rw[mZ];exact xY fun a _ b _=>tH
theorem yB:pT (L.map cG) u v=pT L u v:=by unfold pT;simp only[mD,tH]
theorem aKG:sY (L.map cG) u v=sY L u v:=by unfold sY sI;simp only[yB,tH]
end
structure Ob where
  m:Int
  E:Nat
  V:Nat
  D:Int
  now:Int
  L:List Lv
  last:Nat
  gone:Nat
def Wm.ob(X:Wm):Ob:=⟨X.m,X.E,X.V,X.D,X.now,X.s.L.map cG,X.s.last,X.gone⟩
namespace Ob
def left(o:Ob)(to:Int):List Lv:=o.L.filter fun e=>decide (to<e.x)
def tick(o:Ob)(to:Int):Ob:={ o with now:=to,L:=o.left to,gone:=o.gone+(o.L.length-(o.left to).length) }
def put(o:Ob)(u v:Nat)(wt:Int):Ob:={ o with L:=o.L++[⟨0,o.last+1,u,v,wt,o.now,o.now+o.m⟩],last:=o.last+1 }
def idsUV(L:List Lv)(u v:Nat):List Nat:=oN v (oN u (eX L))
def addC(o:Ob)(u v:Nat)(t:Int):Nat:=
  if u=v then 9 else if t<o.now then 10 else if 9223372036854775807<t+o.m∨9223372036854775807<=o.last then 7 else if o.E<=(o.left t).length then 12 else if o.V<(idsUV (o.left t) u v).length then 11 else 0
def add(o:Ob)(u v:Nat)(wt t:Int):Ob:=if o.addC u v t=0 then(o.tick t).put u v wt else o
def tickS(o:Ob)(to:Int):Ob:=if dL o.m o.now to=0 then o.tick to else o
def new(m:Int)(E V:Nat)(D:Int)(g:Nat):Ob:=⟨m,E,V,D,0,[],g,g⟩
structure Ok (o:Ob):Prop where
  x:∀e∈o.L,e.x=e.t+o.m/\0<=e.t/\e.t<=o.now/\o.now<e.x
  mono:o.L.Pairwise fun a b=>a.t<=b.t
  num:∀i (h:i<o.L.length),(o.L[i]).seq=o.gone+i+1
  last:o.last=o.gone+o.L.length
  max:o.last<=9223372036854775807
  m1:1<=o.m
  m2:o.m<=9223372036854775807
  n0:0<=o.now
  n1:o.now+o.m<=9223372036854775807
  ne:∀e∈o.L,e.u≠e.v
  u64:∀e∈o.L,e.u<18446744073709551616/\e.v<18446744073709551616
  leE:o.L.length<=o.E
  leV:(eX o.L).length<=o.V
  mE:o.E<=16384
  mV:o.V<=4096
  sl:∀e∈o.L,e.slot=0
end Ob
section
variable {X:Wm}
theorem rU(X:Wm):X.ob.L.length=X.s.L.length:=List.length_map _
theorem Wm.Ok.lenE(h:X.Ok):X.s.L.length<=X.E:=by
 have h1:=Sm.len_used h.ok;have h2:=h.ok.ar.hb;have h3:=h.ok.sl;have h4:=h.hE;unfold Ar.used at h1;omega
theorem Wm.Ok.lenV(h:X.Ok):(eX X.s.L).length<=X.V:=by
 rw[<-h.ids_len];have h1:=h.ok.md.cnt;have h2:=h.ok.md.ar.hb;have h3:=h.ok.ms;have h4:=h.hV;have h6:X.s.M.ar.slots=X.s.M.slots:=rfl;have h7:X.s.M.ar.begun=X.s.M.given:=rfl;omega
theorem Wm.Ok.ob(h:X.Ok):X.ob.Ok:=by
 have hm:∀e∈X.ob.L,∃d∈X.s.L,cG d=e:=fun e he=>qW.1 he;refine⟨fun e he=>?_,?_,fun i hi=>?_,?_,h.max,h.m1,h.m2,h.n0,h.n1,fun e he=>?_,fun e he=>?_,?_,?_,?_,?_,fun e he=>?_⟩
 {
 obtain⟨d,hd,rfl⟩:=hm e he;exact h.x d hd}
 · exact List.pairwise_map.2 h.mono
 {
 have hi' :i<X.s.L.length:=by rw[<-rU];exact hi
 have e:X.ob.L[i]'hi=cG (X.s.L[i]'hi'):=List.getElem_map ..;rw[e];exact h.num i hi'}
 · rw[rU];exact h.last
 {
 obtain⟨d,hd,rfl⟩:=hm e he;exact h.ok.ne d hd}
 {
 obtain⟨d,hd,rfl⟩:=hm e he;exact h.ok.u64 d hd}
 · rw[rU];exact h.lenE
 · rw[show X.ob.L=X.s.L.map cG from rfl,mZ];exact h.lenV
 · show X.E<=_;rw[<-h.hE];exact h.ok.leE
 · show X.V<=_;rw[<-h.hV];exact h.ok.leV
 {
 obtain⟨d,hd,rfl⟩:=hm e he;rfl}
theorem aDA(L:List Lv)(to:Int):(L.map cG).filter (fun e=>decide (to<e.x))=(L.filter fun e=>decide (to<e.x)).map cG:=by
 rw[List.filter_map];rfl
theorem aVP(m:Int)(E V:Nat)(D:Int)(g:Nat):(Wm.new m E V D g).ob=Ob.new m E V D g:=rfl
theorem aAM(h:X.Ok){to:Int}{ds:List Nat}{Q' :Nat->Option Int}(hm:fT to X.Q ds Q'):(X.tick to ds Q').ob=X.ob.tick to:=by
 obtain⟨k1,k2,k3,k4⟩:=hm.law h.lk h.ok;have e1:((X.s.rems ds).L.map cG)=X.ob.left to:=by rw[k2];exact(aDA X.s.L to).symm
 have e2:(X.ob.left to).length=(X.s.rems ds).L.length:=by rw[<-e1,List.length_map]
 have e3:X.gone+ds.length=X.gone+(X.ob.L.length-(X.ob.left to).length):=by rw[e2,rU];omega
 have e4:(X.s.rems ds).last=X.s.last:=(jI X.s ds).2.2;show Ob.mk _ _ _ _ _ ((X.s.rems ds).L.map cG) (X.s.rems ds).last (X.gone+ds.length)=_
 rw[e1,e3,e4];rfl
theorem aVQ(u v:Nat)(wt:Int)(a b:Nat):(X.put u v wt a b).ob=X.ob.put u v wt:=by
 show Ob.mk _ _ _ _ _ ((X.s.L++[X.s.edge u v wt X.now (X.now+X.m)]).map cG) (X.s.last+1) _=_
 rw[List.map_append];rfl
theorem aKH(h:X.s.Ok)(u v:Nat)(hne:u≠v)(hi:∀x,(X.s.M.find x).isSome=true↔inL X.s.L x):X.s.M.L.length+X.s.more u v=(Ob.idsUV (X.s.L.map cG) u v).length:=by
 have h1:X.s.M.L.length+X.s.more u v=(kD X.s.M u v).length:=by rw[oD];rfl
 rw[h1];apply List.Perm.length_eq;unfold Ob.idsUV;rw[List.perm_ext_iff_of_nodup (pB h.md hne) ((tI (tI (pS _))).imp fun h=>Nat.ne_of_lt h)];intro x;rw[oE h.md,mF,mF,iP,mD,hi];constructor
 {
 rintro(h|h|h)
 · exact .inr (.inr h)
 · exact .inr (.inl h)
 · exact .inl h}
 {
 rintro(h|h|h)
 · exact .inr (.inr h)
 · exact .inr (.inl h)
 · exact .inl h}
theorem aOK(h:X.Ok)(u v:Nat)(hne:u≠v):X.s.chk u v=if X.E<=X.ob.L.length then 12 else if X.V<(Ob.idsUV X.ob.L u v).length then 11 else 0:=by
 unfold Sm.chk;rw[qC hne,Sm.len_used h.ok,h.hE,h.hV,aKH h.ok u v hne (vN h),rU];rfl
theorem aKI(h:X.Ok){u v:Nat}{t:Int}(hne:u≠v)(hc:dL X.m X.now t=0)(hl:X.s.last<9223372036854775807){ds:List Nat}{Q' :Nat->Option Int}(hm:fT t X.Q ds Q'):X.ob.addC u v t=(X.s.rems ds).chk u v:=by
 obtain⟨h1,h2⟩:=mY hc;have hk:=(Wm.tick_ok h h1 h2 hm).1;have e:=aOK hk u v hne;rw[aAM h hm]at e;show _=(X.tick t ds Q').s.chk u v
 rw[e];unfold Ob.addC;rw[qC hne,qC (show ¬t<X.ob.now from by show ¬t<X.now;omega),qC (show ¬(9223372036854775807<t+X.ob.m∨9223372036854775807<=X.ob.last) from by show ¬(9223372036854775807<t+X.m∨9223372036854775807<=X.s.last);omega)];rfl
end
end Go.Proofs.YtjdgpcjbgjnahaaGreatDoor
namespace Go.Proofs.YtjdgpcjbgjnahaaGreatDoor
open Go.RowKit
structure Th where
  P:World->List Nat->Prop
  lt:∀{w:World} {K:List Nat},P w K->∀q∈K,q<w.heap.size
  fr:∀{w w' :World} {K S:List Nat},P w K->Fr S w w' -> (∀q∈K,q∉S)->P w' K
def Hs(n:Nat)(w:World):List Th->List Nat->Prop
  | [],K=>K=[]
  | t::ts,K=>∃K1 K2,t.P w K1/\(∀q∈K1,n<=q)/\Hs n w ts K2/\(∀q∈K1,q∉K2)/\K=K1++K2
section
variable {n:Nat} {w w' :World} {ts:List Th} {K S:List Nat}
theorem Hs.lt:∀{ts:List Th} {K:List Nat},Hs n w ts K->∀q∈K,n<=q/\q<w.heap.size
  | [],K,h=>by rw[show K=[] from h];simp
  | t::ts,K,h=>by
    obtain⟨K1,K2,h1,h2,h3,_,rfl⟩:=h;intro q hq;rcases qE.1 hq with hq|hq
    · exact⟨h2 q hq,t.lt h1 q hq⟩
    · exact Hs.lt h3 q hq
theorem Hs.fr(hf:Fr S w w'):∀{ts:List Th} {K:List Nat},Hs n w ts K->(∀q∈K,q∉S)->Hs n w' ts K
  | [],_,h,_=>h
  | t::ts,K,h,hs=>by
    obtain⟨K1,K2,h1,h2,h3,h4,rfl⟩:=h;exact⟨K1,K2,t.fr h1 hf (fun q hq=>hs q (qE.2 (.inl hq))),h2,Hs.fr hf h3 (fun q hq=>hs q (qE.2 (.inr hq))),h4,rfl⟩
end
def Wd(W wr:World)(ts:List Th):Prop:=Fr [] W wr/\∃K,Hs W.heap.size wr ts K
def Stp(w w' :World)(K:List Nat)(t:Th):Prop:=∃K', t.P w' K' /\ Fr K w w' /\ ∀q∈K', q∈K∨w.heap.size<=q
section
variable {W wr w' :World} {t t' a b c:Th} {ts:List Th} {K:List Nat}
theorem Wd.begin(W:World):Wd W W []:=⟨Fr.refl _ _,[],rfl⟩
theorem Wd.frm(h:Wd W wr ts):Fr [] W wr:=h.1
theorem Wd.below(h:Wd W wr ts):Below W.heap.size W wr:=h.1.below (by simp)
theorem Wd.fr0(h:Wd W wr ts)(hf:Fr [] wr w'):Wd W w' ts:=by
 obtain⟨h1,K,h2⟩:=h;exact⟨h1.trans' hf,K,h2.fr hf (by simp)⟩
theorem Wd.drop(h:Wd W wr (t::ts)):Wd W wr ts:=by
 obtain⟨h1,K,K1,K2,_,_,h2,_⟩:=h;exact⟨h1,K2,h2⟩
theorem Wd.get(h:Wd W wr (t::ts)):∃K,t.P wr K:=by
 obtain⟨_,K,K1,K2,h,_⟩:=h;exact⟨K1,h⟩
theorem Wd.open(h:Wd W wr (t::ts)):∃K,t.P wr K/\∀{w' :World} {t' :Th},Stp wr w' K t' -> Wd W w' (t' :: ts):=by
 obtain⟨h1,K,K1,K2,h2,h3,h4,h5,rfl⟩:=h;refine⟨K1,h2,?_⟩;rintro w' t' ⟨K', k1,k2,k3⟩;have hs:=h1.size;have hs2:=k2.size;refine⟨h1.trans k2 (fun q hq=>.inr (h3 q hq)),K' ++ K2,K', K2,k1,fun q hq=>?_,h4.fr k2 (fun q hq hm=>h5 q hm hq),fun q hq hm=>?_,rfl⟩
 {
 rcases k3 q hq with e|e
 · exact h3 q e
 · omega}
 {
 rcases k3 q hq with e|e
 · exact h5 q e hm
 · have:=h4.lt q hm;omega}
theorem Wd.new(h:Wd W wr ts)(hf:Fr [] wr w')(hp:t.P w' K)(hk:∀q∈K,wr.heap.size<=q):Wd W w' (t::ts):=by
 obtain⟨h1,K2,h2⟩:=h;have hs:=h1.size;refine⟨h1.trans' hf,K++K2,K,K2,hp,fun q hq=>?_,h2.fr hf (by simp),fun q hq hm=>?_,rfl⟩
 · have:=hk q hq;omega
 {
 have:=hk q hq;have:=h2.lt q hm;omega}
theorem Wd.swap(h:Wd W wr (a::b::ts)):Wd W wr (b::a::ts):=by
 obtain⟨h1,K,K1,K2,h2,h3,⟨K3,K4,h4,h5,h6,h7,rfl⟩,h8,rfl⟩:=h;refine⟨h1,K3++(K1++K4),K3,K1++K4,h4,h5,⟨K1,K4,h2,h3,h6,fun q hq hm=>h8 q hq (qE.2 (.inr hm)),rfl⟩,fun q hq hm=>?_,rfl⟩;rcases qE.1 hm with e|e
 · exact h8 q e (qE.2 (.inl hq))
 · exact h7 q hq e
theorem Wd.under(h:Wd W wr (t::ts)){us:List Th}(hu:∀K,Hs W.heap.size wr ts K->∃K', Hs W.heap.size wr us K' /\ ∀q∈K', q∈K):Wd W wr (t::us):=by
 obtain⟨h1,K,K1,K2,h2,h3,h4,h5,rfl⟩:=h;obtain⟨K', k1,k2⟩:=hu K2 h4;exact⟨h1,K1++K', K1,K', h2,h3,k1,fun q hq hm=>h5 q hq (k2 q hm),rfl⟩
theorem Wd.drop2(h:Wd W wr (a::b::ts)):Wd W wr (a::ts):=h.swap.drop
theorem Hs.swap{n:Nat}(h:Hs n wr (a::b::ts) K):∃K', Hs n wr (b::a::ts) K' /\ ∀q∈K', q∈K:=by
 obtain⟨K1,K2,h2,h3,⟨K3,K4,h4,h5,h6,h7,rfl⟩,h8,rfl⟩:=h;refine⟨K3++(K1++K4),⟨K3,K1++K4,h4,h5,⟨K1,K4,h2,h3,h6,fun q hq hm=>h8 q hq (qE.2 (.inr hm)),rfl⟩,fun q hq hm=>?_,rfl⟩,fun q hq=>?_⟩
 {
 rcases qE.1 hm with e|e
 · exact h8 q e (qE.2 (.inl hq))
 · exact h7 q hq e}
 {
 simp only[qE]at hq ⊢;rcases hq with e|e|e
 · exact .inr (.inl e)
 · exact .inl e
 · exact .inr (.inr e)}
theorem Wd.third(h:Wd W wr (a::b::c::ts)):Wd W wr (c::a::b::ts):=(h.under fun _ hk=>Hs.swap hk).swap
theorem Wd.drop3(h:Wd W wr (a::b::c::ts)):Wd W wr (a::b::ts):=h.third.drop
end
section
variable {w w' :World} {pw pc ps px pf:Nat} {P:Wp} {Ks lx Lf:List Nat} {cl:Nat->Nat}
theorem aOL(h:cU w pw pc ps px pf P Ks lx Lf cl):Calls Tryz.prog 25 #[cJ pw] w fun e w' =>e=.returned (.tuple #[.int .u64 P.added,.int .u64 P.gone])/\Fr [] w w' :=by
 have HV:=qA (dC h);have c8:=h.hd.cell 8;have c9:=h.hd.cell 9;simp only[zJ,zK]at c8 c9;clear h;go_enter Tryz.func25,Tryz.ntmps25
 go_wp2_with fail
 refine HV.out.mono ?_;rintro _ w ⟨rfl,rfl⟩;go_wp2_with fail
 go_quiet (fail)
 go_wp2
 go_ret2;exact⟨rfl,(Fr.refl _ _).drewN _⟩
theorem aFN(h:cU w pw pc ps px pf P Ks lx Lf cl)(hs:P.added+P.gone<18446744073709551616):Calls Tryz.prog 79 #[cJ pw] w fun e w' =>e=.returned (.int .u64 (P.added+P.gone:Nat))/\Fr [] w w' :=by
 have HV:=qA (dC h);have c8:=h.hd.cell 8;have c9:=h.hd.cell 9;simp only[zJ,zK]at c8 c9;have hw:IntKind.u64.wrap ((P.added:Int)+P.gone)=(P.added:Int)+P.gone:=by simp[IntKind.wrap,IntKind.bits,IntKind.signed];omega
 clear h;go_enter Tryz.func79,Tryz.ntmps79
 go_wp2_with fail
 refine HV.out.mono ?_;rintro _ w ⟨rfl,rfl⟩;go_wp2_with fail
 go_quiet (fail)
 go_wp2
 go_ret;exact⟨by rw[Int.natCast_add];rfl,(Fr.refl _ _).drewN _⟩
end
end Go.Proofs.YtjdgpcjbgjnahaaGreatDoor
namespace Go.Proofs.YtjdgpcjbgjnahaaGreatDoor
open Go.RowKit Classical
def Tryz.laysClone_ren:Go.Shelf.Ren:=⟨fun|41=>163|n=>n,fun|22=>247|23=>251|4=>4|n=>n,fun|n=>n⟩
theorem Tryz.laysClone:Go.Proofs.SlLaysE0.n41 Tryz.prog Tryz.laysClone_ren:={
  mixed:=by kernel_rfl
  f41:=⟨Tryz.f163.name,by decide,Tryz.func163.trans (congrArg some (by kernel_rfl))⟩
  t4:=Tryz.underlying4
  a4:=Tryz.isAgg4
  z4:=Tryz.sizeOf4
  v4:=Tryz.zeroValue4
  t22:=Tryz.underlying247
  a22:=Tryz.isAgg247
  z22:=Tryz.sizeOf247
  v22:=Tryz.zeroValue247 }
theorem aVR(n:Nd)(f:Nat):(fv n f).oneCell' =true:=by
 match f with
 | 0|1|2|3|4|5|6|7=>rfl
 | _+8=>rfl
theorem aSH{w:World}{g N cap:Nat}{σ:Tbl}(h:bG w g N σ)(hN:N<=65537)(h0:0<N):
    Calls Tryz.prog 163 #[.slice (some ⟨g,0,none⟩) N cap] w fun e w' =>∃g' cap', e=.returned (.slice (some ⟨g', 0,none⟩) N cap')/\N<=cap' /\ bG w' g' N σ/\w.heap.size<=g' /\ Fr [] w w' :=by
 obtain⟨i0,hi,hz0,hz1,hz2⟩:=info_parts Tryz.info251;obtain⟨arr,ha,hs,hc⟩:=h;have hl:(arr.toList.take (N*9)).length=N*9:=by simp;omega
 have hat:∀j u,(arr.toList.take (N*9))[j]? =some u->j<N*9/\arr[j]? =some u:=by {
 intro j u hj;rw[List.getElem?_take]at hj;split at hj
 · exact⟨by assumption,by simpa using hj⟩
 · cases hj};refine(AnyE.slices_Clone Tryz.laysClone i0 ndv 9 72 hi hz0 hz1 hz2 (by rw[xL];rfl) (by decide) Tryz.sizeOf251 g 0 N cap (arr.toList.take (N*9)) w hl (by unfold maxLen;omega) (by omega) (fun j u hj=>by
     have:=(hat j u hj).2;simp[World.cell?,ha,this]) (fun u hu=>by
     obtain⟨j,hj⟩:=List.mem_iff_getElem?.1 hu;obtain⟨h1,h2⟩:=hat j u hj;have:=hc (j/9) (by omega) (j%9) (Nat.mod_lt _ (by decide));rw[show j/9*9+j%9=j by omega,h2]at this;cases this;exact aVR _ _)).mono ?_
 rintro _ w' ⟨v,rfl,⟨_,hv⟩,hn,hB⟩;rcases hv with⟨rfl,_⟩|⟨g', cap', cur,rfl,hg,hcur,hcap,_,hsz,htk⟩
 · exact absurd rfl hn
 {
 refine⟨g', cap', rfl,hcap,⟨cur,hcur,by omega,fun i hi f hf=>?_⟩,hg,Fr.of_below hB⟩;rw[<-hc i hi f hf];have h1:(cur.toList.take (N*9))[i*9+f]? =cur[i*9+f]? :=by rw[List.getElem?_take,qD (by omega)];simp
 have h2:(arr.toList.take (N*9))[i*9+f]? =arr[i*9+f]? :=by rw[List.getElem?_take,qD (by omega)];simp
 rw[<-h1,<-h2,htk]}
theorem aVS{w:World}{pf g n:Nat}{E:Nat->Nat->Prop}{key:Nat->Int}(h:LM w pf g n E key):
    Calls Tryz.prog 122 #[.pointer (some ⟨pf,0,none⟩)] w fun e w' =>∃pf' g', e=.returned (.pointer (some ⟨pf', 0,none⟩))/\LM w' pf' g' n E key/\Fr [] w w' /\ w.heap.size<=pf' /\ w.heap.size<=g' :=by
 have H:=qA h;obtain⟨cap,σ,F,par,d,rt,hL,hF,hE,hk⟩:=h;have hN:=hL.le;have HR:=qA (zI hF (zI hE hk));clear hF hE hk;have c1:=hL.hd.cell 1;have c2:=hL.hd.cell 2;simp only[zJ,zK]at c1 c2;have hpf:=hL.hd.lt;have HL:=qA hL;go_enter Tryz.func122,Tryz.ntmps122
 go_wp2_with fail
 refine(zT (hL.hd.cell 0)).mono ?_;rintro _ w1 ⟨rfl,rfl⟩;have HC:=qA (aSH (cap:=cap) (hL.nodes.eqv (Eqv.drew w1)) hN (by omega));generalize hed:(n:Int)-nc n E=ed at *;go_wp2
 go_region_held3 (fun w' => w'.cell? ⟨pf, 1, none⟩ = some (.slice (some ⟨g, 0, none⟩) (n + 1) cap) /\ w'.cell? ⟨pf, 2, none⟩ = some (.int .i64 ed))
   (first
     | go_keep
     | (exact⟨hF3.cell (by assumption) (by simp),hF3.cell (by assumption) (by simp)⟩))
   (first
     | (go_at_call 163;refine HC.out.mono ?_;rintro e w3 ⟨g', cap', rfl,hcap', hNd', hg', hF3⟩))
 go_wp2
 go_ret;have hlt:=hNd'.lt;have hsz:=hF3.size;have hsz2:w1.drew.heap.size=w1.heap.size:=rfl;refine⟨w3.heap.size,g', rfl,?_,((Fr.refl [] w1).drew.trans' hF3).alloc _,by omega,by omega⟩;show LG _ _ _ _ _ _ ((n:Int)-nc n E)
 rw[hed];exact⟨cap', σ,F,par,d,rt,⟨Blk.new w3 [_,_,_] 253,hNd'.same (by rw[heap_alloc_old w3 _ hlt]),by omega,hN,hcap'⟩,HR.out.1,HR.out.2.1,HR.out.2.2⟩
end Go.Proofs.YtjdgpcjbgjnahaaGreatDoor
