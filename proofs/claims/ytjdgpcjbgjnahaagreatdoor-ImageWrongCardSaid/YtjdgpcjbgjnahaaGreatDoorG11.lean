/- The schedule of expiries: a slot that is not scheduled is scheduled; a copy. -/
import Derived.Test.YtjdgpcjbgjnahaaGreatDoorG10
import Derived.Test.YtjdgpcjbgjnahaaGreatDoorG4
import Derived.Shelf.SlGeneric
import Derived.Shelf.SlicesE.Clone
import Derived.Ground.SlgnProg
import Derived.Deep.WholeRow
import Derived.Deep.RegionHeld3
import Derived.StillTailTactics
import Derived.Test.YtjdgpcjbgjnahaaGreatDoorG9
import Derived.Test.YtjdgpcjbgjnahaaGreatDoorG3
import Derived.Test.YtjdgpcjbgjnahaaGreatDoorG8
import Derived.Shelf.SlSortCmp.WholeK
import Derived.Shelf.Lay
import Derived.Ground.SlsfProg
set_option maxRecDepth 10000
set_option maxHeartbeats 1600000
set_option linter.unusedSimpArgs false
set_option linter.unusedVariables false
/- store: Remove. -/
namespace Go.Proofs.YtjdgpcjbgjnahaaGreatDoor
open Go.RowKit
theorem aJX{w w7 wo:World}{ps pa pt mb n k:Nat}{vl:Value}{s:Sm}{la lT lb:List Nat}{c:Nat->Nat}(HB:StB w ps pa pt mb n vl s la lT lb c)(hu:s.A.isUsed k)(e:Lv)
    (HS2:mN w7 ps pt mb vl la lT lb (gX s k 2) (vY s k 2) (gX s k 2).L.length wo)
    (HD7:Blk w7 ps 145 [.int .i64 s.V,.int .i64 s.E,.int .u64 s.last,ptr pa,ptr pt,vl,.map (some mb)])
    (hA7:aU w7 pa (s.A.put k) la) (hr7:dJ w7 vl ((List.range n).map (aG (s.L.filter fun e=>e.slot != k)))) (hF7:Fr (vl.ownBlock.toList++la) w w7) (hs7:w.heap.size+1<=w7.heap.size):
    ∃K', bH (Go.Proofs.YtjdgpcjbgjnahaaGreatDoor.put7 wo w.heap.size 0 e) ps (s.rem k) K' /\ Fr (stK ps mb vl la lT lb) w (Go.Proofs.YtjdgpcjbgjnahaaGreatDoor.put7 wo w.heap.size 0 e)/\∀q∈K', q∈stK ps mb vl la lT lb∨w.heap.size<=q:=by
 have HLT:=HB.lt;have hput:Fr [w.heap.size] wo (Go.Proofs.YtjdgpcjbgjnahaaGreatDoor.put7 wo w.heap.size 0 e):=(Fr.refl _ _).put7 _ _ _ (.inl (by simp));have hFr:=HS2.fr;obtain⟨lT', lb', c', hc', hT', hI', hF', h5', h6'⟩:=HS2;have HCL:=HB.cls;have hTw:∀q∈lT,q<w.heap.size:=fun q hq=>HLT q (by simp[stK,hq]);have hBw:∀q∈lb,q<w.heap.size:=fun q hq=>HLT q (by simp[stK,hq]);have hAn:∀q∈la,q∉mb::(lT++lb):=fun q hq hm=>by
   have a1:=HCL.a q hq;simp only[qB,qE]at hm;rcases hm with rfl|e|e
   · have:=HCL.m;omega
   · have:=HCL.t q e;omega
   · have:=HCL.b q e;omega
 have hVn:∀q,vl.ownBlock=some q->q∉mb::(lT++lb):=fun q hq hm=>by
   have a1:=HCL.l q hq;simp only[qB,qE]at hm;rcases hm with rfl|e|e
   · have:=HCL.m;omega
   · have:=HCL.t q e;omega
   · have:=HCL.b q e;omega
 have hPN:ps∉mb::(lT++lb):=fun hm=>by
   have a1:=HCL.p;simp only[qB,qE]at hm;rcases hm with e|e|e
   · have:=HCL.m;rw[<-e]at this;omega
   · have:=HCL.t ps e;omega
   · have:=HCL.b ps e;omega
 have hnx:∀q:Nat,(q<w.heap.size∨w.heap.size+1<=q)->q∉[w.heap.size]:=fun q hq hm=>by
   rw[qH]at hm;omega
 have hK:∀q∈stK ps mb vl la lT lb,q∉[w.heap.size]:=fun q hq=>hnx q (.inl (HLT q hq));rw[aGM HB.ok hu]at hI';refine⟨_,⟨pa,pt,mb,n,vl,la,lT', lb', c', ⟨?_,?_,?_,?_,?_,?_,HB.nE,Sm.ok_rem HB.ok hu,hc'⟩,rfl⟩,?_,?_⟩
 · exact hput.blk (hFr.blk HD7 hPN) (hK ps (by simp[stK]))
 · exact(hA7.fr hFr hAn).fr hput (fun q hq=>hK q (by simp[stK,hq]))
 · exact hT'.fr hput (fun q hq=>hnx q ((h5' q hq).imp (hTw q) (fun e=>by omega)))
 · exact(hr7.fr hFr hVn).fr hput (fun q hq=>hK q (by simp[stK,hq]))
 · exact hI'.fr hput (hK mb (by simp[stK])) (fun q hq=>hnx q ((h6' q hq).imp (hBw q) (fun e=>by omega)))
 · exact fun e he=>HB.sn e (qZ.1 he).1
 {
 refine((hF7.mono (S' :=stK ps mb vl la lT lb) (fun q hq=>.inl ?_)).trans hFr (fun q hq=>.inl ?_)).put7 _ _ _ (.inr (qJ _))
 {
 simp only[qE,Option.mem_toList]at hq;rcases hq with e|e<;>simp[stK,e]}
 {
 simp only[qB,qE]at hq;rcases hq with e|e|e<;>simp[stK,e]}}
 {
 intro q hq;simp only[stK,qB,qE,Option.mem_toList]at hq;rcases hq with e|e|((e|e)|e)|e
 · exact .inl (by simp[stK,e])
 · exact .inl (by simp[stK,e])
 · exact .inl (by simp[stK,e])
 · exact(h5' q e).imp (fun e=>by simp[stK,e]) (fun e=>by omega)
 · exact .inl (by simp[stK,e])
 · exact(h6' q e).imp (fun e=>by simp[stK,e]) (fun e=>by omega)}
section
variable {w w' :World} {ps:Nat} {s:Sm} {K:List Nat}
theorem tT(h:bH w ps s K)(k:Nat)(hu:s.A.isUsed k):
    Calls Tryz.prog 109 #[iO ps,.int .i64 k] w fun e w' =>e=.returned (.tuple #[lvA (aG s.L k),.int .i64 0])/\∃K', bH w' ps (s.rem k) K' /\ Fr K w w' /\ ∀q∈K', q∈K∨w.heap.size<=q:=by
 have hf0:Fr [] w (w.alloc (.cells #[.int .i64 0,.int .u64 0,.int .u64 0,.int .u64 0,.int .i64 0,.int .i64 0,.int .i64 0] 74)):=(Fr.refl [] w).alloc _;have hbx:Blk (w.alloc (.cells #[.int .i64 0,.int .u64 0,.int .u64 0,.int .u64 0,.int .i64 0,.int .i64 0,.int .i64 0] 74)) w.heap.size 74 [.int .i64 0,.int .u64 0,.int .u64 0,.int .u64 0,.int .i64 0,.int .i64 0,.int .i64 0]:=by {
 have:=Blk.new w [.int .i64 0,.int .u64 0,.int .u64 0,.int .u64 0,.int .i64 0,.int .i64 0,.int .i64 0] 74;simpa using this};have hs1:(w.alloc (.cells #[.int .i64 0,.int .u64 0,.int .u64 0,.int .u64 0,.int .i64 0,.int .i64 0,.int .i64 0] 74)).heap.size=w.heap.size+1:=by simp
 obtain⟨pa,pt,mb,n,vl,la,lT,lb,c,hB0,rfl⟩:=id h;have hB:=hB0.fr hf0 (by simp);have HV:=qA (kX (h.fr0 hf0));have HA:=qA (sD hB.ar hu);have HB0:=qA hB0;have HLT:=qA hB0.lt;have HLT1:=qA hB.lt;have HU:=qA hu;obtain⟨hm,hs⟩:=Sm.live_used hB.ok hu;have hkn:k<n:=by have:=hB.sn _ hm;omega
 clear h hB0;go_enter Tryz.func109,Tryz.ntmps109
 go_wp2_with fail
 have HF:=qA (zH hf0 hs1);clear hf0 hs1;generalize w.alloc (.cells #[.int .i64 0,.int .u64 0,.int .u64 0,.int .u64 0,.int .i64 0,.int .i64 0,.int .i64 0] 74)=w1 at *;refine HV.out.mono ?_;rintro _ w1 ⟨rfl,rfl⟩;have c3:=hB.hd.cell 3;simp only[zI,zJ]at c3;go_wp2_with fail
 refine HA.out.mono ?_;rintro _ w3 ⟨rfl,hA3,hF3⟩;clear HA HV c3;have hpl:ps∉la:=fun hm=>by have e1:=hB.cls.a ps hm;have e2:=hB.cls.p;omega
 have hd3:=hF3.blk hB.hd hpl;have hx3:=hF3.blk hbx (fun hm=>by have:=HLT.out _ (show w.heap.size∈stK ps mb vl la lT lb by simp[stK,hm]);omega);have hlv:=hB.lv.fr hF3 (fun q hq hm=>by have e1:=hB.cls.l q hq;have e2:=hB.cls.a q hm;omega);obtain⟨b,cap,ev,_,hb,hz,hat⟩:=hlv.at (i:=k) (by simp;omega);simp only[List.length_map,List.length_range]at ev;subst ev;simp only[List.getElem_map,List.getElem_range]at hat;have hs3:=hF3.size;have c5:=hd3.cell 5;simp only[zI,zJ]at c5;have HB:=qA hB;clear hB;have HX:=qA (zH hd3 (zH hx3 (zH hlv (zH hA3 (zH hF3 hpl)))));clear hd3 hx3 hlv hA3 hF3 hpl hbx;have HM:=qA (zH hm hs);clear hm hs;obtain⟨e,he⟩:∃e,e=aG s.L k:=⟨_,rfl⟩;rw[<-he]at hat;have HE:=qA he;clear he;have hat0:=hat;obtain⟨e0,e1,e2,e3,e4,e5,e6⟩:=hat0;have hki:(k:Int)<n:=by omega
 have z0:=hz (k*7);have z1:=hz (k*7+1);have z2:=hz (k*7+2);have z3:=hz (k*7+3);have z4:=hz (k*7+4);have z5:=hz (k*7+5);have z6:=hz (k*7+6);have HAT:=qA (zH hat hz);clear hat hz;have hfa:Fr [] w3 (w3.alloc (.cells #[.int .i64 e.slot,.int .u64 e.seq,.int .u64 e.u,.int .u64 e.v,.int .i64 e.wt,.int .i64 e.t,.int .i64 e.x] 74)):=(Fr.refl [] w3).alloc _;have a5:=hfa.cell c5 (by simp);obtain⟨b', cap', ev', _,hb', hzA,hatA⟩:=(HX.out.2.2.1.fr0 hfa).at (i:=k) (by simp;omega);simp only[List.length_map,List.length_range,qO,qI,Addr.mk.injEq,true_and,and_true]at ev';obtain⟨rfl,rfl⟩:=ev';simp only[List.getElem_map,List.getElem_range,<-HE.out]at hatA;obtain⟨f0,f1,f2,f3,f4,f5,f6⟩:=hatA;have y0:=hzA (k*7);have y1:=hzA (k*7+1);have y2:=hzA (k*7+2);have y3:=hzA (k*7+3);have y4:=hzA (k*7+4);have y5:=hzA (k*7+5);have y6:=hzA (k*7+6);have HFA:=qA hfa;clear hfa hzA hb';have hn3:ps≠b:=fun e=>by have e1:=HB.out.cls.l b rfl;have e2:=HB.out.cls.p;rw[e]at e2;omega
 go_wp2_with fail
 clear f0 f1 f2 f3 f4 f5 f6 y0 y1 y2 y3 y4 y5 y6 e0 e1 e2 e3 e4 e5 e6 z0 z1 z2 z3 z4 z5 z6 a5 c5;have hg7:Fr [b] w3 ((Go.Proofs.YtjdgpcjbgjnahaaGreatDoor.put7 w3 b (k*7) Lv.z).alloc (.cells (lvC e).toArray 74)):=((Fr.refl [b] w3).put7 _ _ _ (.inl (by simp))).alloc _;have he7:Blk ((Go.Proofs.YtjdgpcjbgjnahaaGreatDoor.put7 w3 b (k*7) Lv.z).alloc (.cells (lvC e).toArray 74)) w3.heap.size 74 (lvC e):=by {
 have:=Blk.new (Go.Proofs.YtjdgpcjbgjnahaaGreatDoor.put7 w3 b (k*7) Lv.z) (lvC e) 74;rwa[show(Go.Proofs.YtjdgpcjbgjnahaaGreatDoor.put7 w3 b (k*7) Lv.z).heap.size=w3.heap.size by unfold Go.Proofs.YtjdgpcjbgjnahaaGreatDoor.put7;simp]at this};have hr7:dJ ((Go.Proofs.YtjdgpcjbgjnahaaGreatDoor.put7 w3 b (k*7) Lv.z).alloc (.cells (lvC e).toArray 74)) (.slice (some ⟨b,0,none⟩) n cap) ((List.range n).map (aG (s.L.filter fun e=>e.slot != k))):=by {
 have h0:dJ w3 (.slice (some ⟨b,0,none⟩) ((List.range n).map (aG s.L)).length cap) ((List.range n).map (aG s.L)):=by simpa using HX.out.2.2.1
 have:=(h0.set (i:=k) (by simp;omega) Lv.z).fr0 ((Fr.refl [] _).alloc (.cells (lvC e).toArray 74));rw[aCR]at this;simpa using this};have hw7:(Go.Proofs.YtjdgpcjbgjnahaaGreatDoor.put7 w3 b (k*7) Lv.z).alloc (.cells (lvC e).toArray 74)=((((((((w3.setCell ⟨b,k*7,none⟩ (.int .i64 0)).setCell ⟨b,k*7+1,none⟩ (.int .u64 0)).setCell ⟨b,k*7+2,none⟩ (.int .u64 0)).setCell ⟨b,k*7+3,none⟩ (.int .u64 0)).setCell ⟨b,k*7+4,none⟩ (.int .i64 0)).setCell ⟨b,k*7+5,none⟩ (.int .i64 0)).setCell ⟨b,k*7+6,none⟩ (.int .i64 0)).alloc (.cells #[.int .i64 e.slot,.int .u64 e.seq,.int .u64 e.u,.int .u64 e.v,.int .i64 e.wt,.int .i64 e.t,.int .i64 e.x] 74)):=rfl;rw[hw7]at hg7 he7 hr7;clear hw7;generalize ((((((((w3.setCell ⟨b,k*7,none⟩ (.int .i64 0)).setCell ⟨b,k*7+1,none⟩ (.int .u64 0)).setCell ⟨b,k*7+2,none⟩ (.int .u64 0)).setCell ⟨b,k*7+3,none⟩ (.int .u64 0)).setCell ⟨b,k*7+4,none⟩ (.int .i64 0)).setCell ⟨b,k*7+5,none⟩ (.int .i64 0)).setCell ⟨b,k*7+6,none⟩ (.int .i64 0)).alloc (.cells #[.int .i64 e.slot,.int .u64 e.seq,.int .u64 e.u,.int .u64 e.v,.int .i64 e.wt,.int .i64 e.t,.int .i64 e.x] 74))=w7 at *;have hs7:=he7.lt;have hbw:b<w.heap.size:=HLT.out b (by simp[stK,Value.ownBlock]);have hF17:Fr (b::la) w1 w7:=(HX.out.2.2.2.2.1.mono (S' :=b::la) (fun q hq=>.inl (List.mem_cons_of_mem _ hq))).trans hg7 (fun q hq=>.inl (by simp at hq;simp[hq]));have hbl:∀q∈b::la,c q=4∨c q=2:=fun q hq=>by
   rcases qB.1 hq with rfl|e
   · exact .inl (HB.out.cls.l _ rfl)
   · exact .inr (HB.out.cls.a q e)
 have hd7:=hg7.blk HX.out.1 (by simpa using hn3);have hx7:=hg7.blk HX.out.2.1 (by simp;omega);have hA7:=HX.out.2.2.2.1.fr hg7 (fun q hq hm=>by
   rw[qH]at hm;subst hm;have e1:=HB.out.cls.a q hq;have e2:=HB.out.cls.l q rfl;omega)
 have hIns:mN w7 ps pt mb (.slice (some ⟨b,0,none⟩) n cap) la lT lb s.M (bU s.L) s.M.L.length w7:=
   ⟨lT,lb,c,HB.out.cls,HB.out.tb.fr hF17 (fun q hq hm=>by have e1:=HB.out.cls.t q hq;rcases hbl q hm with e2|e2<;>omega),
     HB.out.inc.fr hF17 (fun hm=>by have e1:=HB.out.cls.m;rcases hbl mb hm with e2|e2<;>omega) (fun q hq hm=>by have e1:=HB.out.cls.b q hq;rcases hbl q hm with e2|e2<;>omega),Fr.refl _ _,fun q hq=>.inl hq,fun q hq=>.inl hq⟩
 have hpn:ps∉mb::(lT++lb):=fun hm=>by
   have a1:=HB.out.cls.p;simp only[qB,qE]at hm;rcases hm with e|e|e
   · have:=HB.out.cls.m;rw[<-e]at this;omega
   · have:=HB.out.cls.t ps e;omega
   · have:=HB.out.cls.b ps e;omega
 have HD7:=qA (zH hd7 (zH (show ps<w7.heap.size from hd7.lt) (zH hA7.lt (show ∀q,(Value.slice (some ⟨b,0,none⟩) n cap).ownBlock=some q->q<w7.heap.size from fun q hq=>hr7.lt hq))));have HPN:=qA hpn;have hbn:∀y,w.heap.size<=y->y∉mb::(lT++lb):=fun y h1 hm=>by
   have:y∈stK ps mb (.slice (some ⟨b,0,none⟩) n cap) la lT lb:=by
     simp only[qB,qE]at hm;simp only[stK,qB,qE];rcases hm with e|e|e
     · simp[e]
     · simp[e]
     · simp[e]
   have:=HLT.out y this;omega
 have HEnd:=qA (zH hbn (zH hx7 (zH he7 (zH hA7 (zH hr7 hF17)))));have HIns:=qA hIns;clear hg7 hd7 hx7 he7 hA7 hr7 hIns hpn hbn hF17 hbl;have hLlen:s.L.length<=16384:=by {
 have h1:=Sm.len_used HB.out.ok;have h2:=HB.out.ok.ar.hb;have h3:=HB.out.ok.sl;have h4:=HB.out.ok.leE;unfold Ar.used at h1;omega};go_loopw [47] (fun y wr=>∃j:Nat,j<=2/\y=.int .i64 j/\Hid (mN w7 ps pt mb (.slice (some ⟨b,0,none⟩) n cap) la lT lb (gX s k j) (vY s k j) (gX s k j).L.length wr)) (fun y _=>2-(intOf y).toNat)
 case atStart=>exact⟨0,by omega,rfl,HIns⟩
 case round=>
  obtain⟨j,hj,rfl,HS2⟩:=hrel;by_cases hlt:j<2
  {
  have hk2:j=0∨j=1:=by omega
  clear hlt hj;rcases hk2 with rfl|rfl
  {
  have hFr:=HS2.out.fr;have hd:=hFr.blk HD7.out.1 HPN.out;have c4:=hd.cell 4;have c6:=hd.cell 6;simp only[zI,zJ]at c4 c6;have HMO:=qA HS2.out.mok;clear hFr hd;rename World=>wo
  obtain⟨lT', lb', c', hc', hT', ⟨iv,hI'⟩,hF', h5', h6'⟩:=HS2.out;have hidE:idK (aG s.L k) 0=e.u:=by rw[<-HE.out];rfl
  have Hid64:=qA (aER HB.out.ok HU.out 0);have hmem:=aEQ HB.out.ok HU.out 0;have hpe:=aAN HB.out.ok HU.out (j:=0) (by omega);have hnd:=sK HB.out.ok.one (idK (aG s.L k) 0);have hpl:=zG (kQ s.L (idK (aG s.L k) 0)) hLlen;have HMS:=qA (nQ (s:=s) (k:=k) (j:=0) (by omega));have HL0:=qA (aAO HB.out.ok HU.out (j:=0) (by omega));have HFS:=qA (tS s k (j:=0) (by omega));rw[hidE]at Hid64 hmem hpe hnd hpl HMS HL0 HFS;obtain⟨p,hp⟩:∃p,p=bU s.L e.u:=⟨_,rfl⟩;rw[<-hp]at hmem hpe hnd hpl HMS HL0;have HPE:=qA hpe;clear hpe;clear hp hidE;obtain⟨av0,cv0,ev0⟩:=(hI'.row e.u Hid64.out).2.1.slice;have hrow:=(hI'.row e.u Hid64.out).2.1;rw[HPE.out]at ev0 hrow;rw[ev0]at hrow;have EV:=qA ev0;have g1:=pY (w' :=wo) hI' Hid64.out ev0 rfl;obtain⟨i,hi⟩:∃i,i=p.idxOf k:=⟨_,rfl⟩;have hil:i<p.length:=by rw[hi];exact List.idxOf_lt_length_of_mem hmem
  have hpi:p[i]'hil=k:=by subst hi;exact List.getElem_idxOf hil
  have HER:=qA (show p.eraseIdx i=p.filter (· != k) by rw[hi];exact rB hnd k);have hix:=yX hrow hpl hil hnd;rw[hpi]at hix;have HIX:=qA hix;clear hix;have HDL:=qA (yY hrow hpl hil);have HMX:=qA (show(iv e.u).isSome=true from(hI'.row e.u Hid64.out).1.2 (by rw[HPE.out];exact List.ne_nil_of_mem hmem));clear hi hmem hnd hrow ev0 hpi;have hml:(gX s k 0).L.length<maxLen:=by have:=HMO.out.len;unfold maxLen;omega
  have HML:=qA hml;clear hml;have HI:=qA hI';have HPK:=qA (zH hc' (zH hT' (zH hF' (zH h5' h6'))));have hio:∀q,(Value.slice av0 p.length cv0).ownBlock=some q->q≠ps/\q≠mb:=fun q hq=>by
    have e1:=hc'.b q ((hI'.row e.u Hid64.out).2.2 q (by rw[EV.out];exact hq));exact⟨fun e=>by have:=hc'.p;rw[<-e]at this;omega,fun e=>by have:=hc'.m;rw[<-e]at this;omega⟩
  have HIO:=qA hio;clear hc' hT' hI' hF' h5' h6' hio;have hi0:(0:Int)<=i:=by omega
  have hi1:decide ((0:Int)<=i)=true:=qG hi0;have hi2:IntKind.i64.wrap ((i:Int)+1)=(i:Int)+1:=by simp[IntKind.wrap,IntKind.bits,IntKind.signed];omega
  go_wp2_with fail
  refine HIX.out.mono ?_;rintro _ wo' ⟨rfl,rfl⟩;go_wp2_with fail
  refine HDL.out.mono ?_;rintro _ w8 ⟨v8,rfl,hr8,ho8,hF8⟩;rw[HER.out]at hr8;obtain⟨a8,cp8,rfl⟩:=hr8.slice;have hpo:ps∉(Value.slice av0 p.length cv0).ownBlock.toList:=fun hm=>(HIO.out ps (by simpa using hm)).1 rfl;have hmo:mb∉(Value.slice av0 p.length cv0).ownBlock.toList:=fun hm=>(HIO.out mb (by simpa using hm)).2 rfl;have k4:=hF8.cell c4 hpo;have k6:=hF8.cell c6 hpo;have hM8:=HI.out.im.same (hF8.keep mb HI.out.im.lt hmo);have HR8:=qA (zH hr8 (zH ho8 hF8));clear hr8 ho8 c4 c6 g1;have HFL:=qA (show List.filter (fun x=>x != k) p=List.filter (· != k) p from rfl);obtain⟨q,hq⟩:∃q,q=p.filter (· != k):=⟨_,rfl⟩;rw[<-hq]at HR8 HMS HL0 ⊢;have HQ:=qA hq;clear hq;by_cases hq0:q=[]
  {
  have hlen:q.length=0:=by rw[hq0];rfl
  have HQ0:=qA hq0;clear hq0;obtain⟨w9,hrun9,hM9,hG9⟩:=hM8.del Tryz.underlying36 Tryz.underlying143 (jU Hid64.out) 0;have hS9:=aEP HPK.out.1 HPK.out.2.1 HI.out HPK.out.2.2.1 HPK.out.2.2.2.1 HPK.out.2.2.2.2 Hid64.out (w8:=w8) (w9:=w9) (by rw[EV.out];exact HR8.out.2.2) hM9 hG9;rw[HMX.out,qD rfl,<-HL0.out HQ0.out]at hS9;have hpm:ps∉[mb]:=fun hm=>HPN.out (by rw[qH]at hm;simp[hm]);have j4:=hG9.cell k4 hpm;have HTD:=qA (aAM HD7.out.2.1 HD7.out.2.2.1 HD7.out.2.2.2 hS9 Hid64.out);have HHM:=qA hM9;clear hS9 hM9 hpm;go_wp2_with fail
  refine HTD.out.mono ?_;rintro _ w10 ⟨r10,rfl,hS10⟩;have HS10:=qA hS10;clear hS10;go_wp2_with fail
  go_roundw
  case rel=>
   have h1:=HS10.out;have h2:=HMS.out;rw[qD HQ0.out]at h2;rw[<-h2]at h1;refine⟨0+1,by omega,by go_num,qA ?_⟩;rw[HFS.out];unfold rR;rw[HPE.out,<-HQ.out,HQ0.out];exact h1
  case measure=>simp[intOf];try omega}
  {
  have hlen:(0:Int)<q.length:=by have:=List.length_pos_iff.2 hq0;omega
  have hlen2:0<q.length:=by omega
  have HQ0:=qA hq0;clear hq0;obtain⟨w9,hrun9,hM9,hG9⟩:=hM8.put Tryz.underlying36 Tryz.underlying143 HML.out (jU Hid64.out) (v:=.slice a8 q.length cp8) rfl;have hS9:=rU (M:=gX s k 0) HD7.out.2.1 HD7.out.2.2.1 HD7.out.2.2.2 HPK.out.1 HPK.out.2.1 HI.out HPK.out.2.2.1 HPK.out.2.2.2.1 HPK.out.2.2.2.2 Hid64.out (w8:=w8) (w9:=w9) HR8.out.1 HQ0.out (by rw[EV.out];exact HR8.out.2.2) (fun y hy=>by rw[EV.out,<-HR8.out.2.1];exact .inl hy) hM9 hG9;rw[HMX.out,qD rfl]at hS9;have HS9:=qA hS9;have HHM:=qA hM9;clear hS9 hM9;go_wp2_with fail
  go_roundw
  case rel=>
   have h1:=HS9.out;have h2:=HMS.out;rw[qC HQ0.out]at h2;rw[<-h2]at h1;refine⟨0+1,by omega,by go_num,qA ?_⟩;rw[HFS.out];unfold rR;rw[HPE.out,<-HQ.out];rw[h2]at h1 ⊢;exact h1
  case measure=>simp[intOf];try omega}}
  {
  have hFr:=HS2.out.fr;have hd:=hFr.blk HD7.out.1 HPN.out;have c4:=hd.cell 4;have c6:=hd.cell 6;simp only[zI,zJ]at c4 c6;have HMO:=qA HS2.out.mok;clear hFr hd;rename World=>wo
  obtain⟨lT', lb', c', hc', hT', ⟨iv,hI'⟩,hF', h5', h6'⟩:=HS2.out;have hidE:idK (aG s.L k) 1=e.v:=by rw[<-HE.out];rfl
  have Hid64:=qA (aER HB.out.ok HU.out 1);have hmem:=aEQ HB.out.ok HU.out 1;have hpe:=aAN HB.out.ok HU.out (j:=1) (by omega);have hnd:=sK HB.out.ok.one (idK (aG s.L k) 1);have hpl:=zG (kQ s.L (idK (aG s.L k) 1)) hLlen;have HMS:=qA (nQ (s:=s) (k:=k) (j:=1) (by omega));have HL0:=qA (aAO HB.out.ok HU.out (j:=1) (by omega));have HFS:=qA (tS s k (j:=1) (by omega));rw[hidE]at Hid64 hmem hpe hnd hpl HMS HL0 HFS;obtain⟨p,hp⟩:∃p,p=bU s.L e.v:=⟨_,rfl⟩;rw[<-hp]at hmem hpe hnd hpl HMS HL0;have HPE:=qA hpe;clear hpe;clear hp hidE;obtain⟨av0,cv0,ev0⟩:=(hI'.row e.v Hid64.out).2.1.slice;have hrow:=(hI'.row e.v Hid64.out).2.1;rw[HPE.out]at ev0 hrow;rw[ev0]at hrow;have EV:=qA ev0;have g1:=pY (w' :=wo) hI' Hid64.out ev0 rfl;obtain⟨i,hi⟩:∃i,i=p.idxOf k:=⟨_,rfl⟩;have hil:i<p.length:=by rw[hi];exact List.idxOf_lt_length_of_mem hmem
  have hpi:p[i]'hil=k:=by subst hi;exact List.getElem_idxOf hil
  have HER:=qA (show p.eraseIdx i=p.filter (· != k) by rw[hi];exact rB hnd k);have hix:=yX hrow hpl hil hnd;rw[hpi]at hix;have HIX:=qA hix;clear hix;have HDL:=qA (yY hrow hpl hil);have HMX:=qA (show(iv e.v).isSome=true from(hI'.row e.v Hid64.out).1.2 (by rw[HPE.out];exact List.ne_nil_of_mem hmem));clear hi hmem hnd hrow ev0 hpi;have hml:(gX s k 1).L.length<maxLen:=by have:=HMO.out.len;unfold maxLen;omega
  have HML:=qA hml;clear hml;have HI:=qA hI';have HPK:=qA (zH hc' (zH hT' (zH hF' (zH h5' h6'))));have hio:∀q,(Value.slice av0 p.length cv0).ownBlock=some q->q≠ps/\q≠mb:=fun q hq=>by
    have e1:=hc'.b q ((hI'.row e.v Hid64.out).2.2 q (by rw[EV.out];exact hq));exact⟨fun e=>by have:=hc'.p;rw[<-e]at this;omega,fun e=>by have:=hc'.m;rw[<-e]at this;omega⟩
  have HIO:=qA hio;clear hc' hT' hI' hF' h5' h6' hio;have hi0:(0:Int)<=i:=by omega
  have hi1:decide ((0:Int)<=i)=true:=qG hi0;have hi2:IntKind.i64.wrap ((i:Int)+1)=(i:Int)+1:=by simp[IntKind.wrap,IntKind.bits,IntKind.signed];omega
  go_wp2_with fail
  refine HIX.out.mono ?_;rintro _ wo' ⟨rfl,rfl⟩;go_wp2_with fail
  refine HDL.out.mono ?_;rintro _ w8 ⟨v8,rfl,hr8,ho8,hF8⟩;rw[HER.out]at hr8;obtain⟨a8,cp8,rfl⟩:=hr8.slice;have hpo:ps∉(Value.slice av0 p.length cv0).ownBlock.toList:=fun hm=>(HIO.out ps (by simpa using hm)).1 rfl;have hmo:mb∉(Value.slice av0 p.length cv0).ownBlock.toList:=fun hm=>(HIO.out mb (by simpa using hm)).2 rfl;have k4:=hF8.cell c4 hpo;have k6:=hF8.cell c6 hpo;have hM8:=HI.out.im.same (hF8.keep mb HI.out.im.lt hmo);have HR8:=qA (zH hr8 (zH ho8 hF8));clear hr8 ho8 c4 c6 g1;have HFL:=qA (show List.filter (fun x=>x != k) p=List.filter (· != k) p from rfl);obtain⟨q,hq⟩:∃q,q=p.filter (· != k):=⟨_,rfl⟩;rw[<-hq]at HR8 HMS HL0 ⊢;have HQ:=qA hq;clear hq;by_cases hq0:q=[]
  {
  have hlen:q.length=0:=by rw[hq0];rfl
  have HQ0:=qA hq0;clear hq0;obtain⟨w9,hrun9,hM9,hG9⟩:=hM8.del Tryz.underlying36 Tryz.underlying143 (jU Hid64.out) 0;have hS9:=aEP HPK.out.1 HPK.out.2.1 HI.out HPK.out.2.2.1 HPK.out.2.2.2.1 HPK.out.2.2.2.2 Hid64.out (w8:=w8) (w9:=w9) (by rw[EV.out];exact HR8.out.2.2) hM9 hG9;rw[HMX.out,qD rfl,<-HL0.out HQ0.out]at hS9;have hpm:ps∉[mb]:=fun hm=>HPN.out (by rw[qH]at hm;simp[hm]);have j4:=hG9.cell k4 hpm;have HTD:=qA (aAM HD7.out.2.1 HD7.out.2.2.1 HD7.out.2.2.2 hS9 Hid64.out);have HHM:=qA hM9;clear hS9 hM9 hpm;go_wp2_with fail
  refine HTD.out.mono ?_;rintro _ w10 ⟨r10,rfl,hS10⟩;have HS10:=qA hS10;clear hS10;go_wp2_with fail
  go_roundw
  case rel=>
   have h1:=HS10.out;have h2:=HMS.out;rw[qD HQ0.out]at h2;rw[<-h2]at h1;refine⟨1+1,by omega,by go_num,qA ?_⟩;rw[HFS.out];unfold rR;rw[HPE.out,<-HQ.out,HQ0.out];exact h1
  case measure=>simp[intOf];try omega}
  {
  have hlen:(0:Int)<q.length:=by have:=List.length_pos_iff.2 hq0;omega
  have hlen2:0<q.length:=by omega
  have HQ0:=qA hq0;clear hq0;obtain⟨w9,hrun9,hM9,hG9⟩:=hM8.put Tryz.underlying36 Tryz.underlying143 HML.out (jU Hid64.out) (v:=.slice a8 q.length cp8) rfl;have hS9:=rU (M:=gX s k 1) HD7.out.2.1 HD7.out.2.2.1 HD7.out.2.2.2 HPK.out.1 HPK.out.2.1 HI.out HPK.out.2.2.1 HPK.out.2.2.2.1 HPK.out.2.2.2.2 Hid64.out (w8:=w8) (w9:=w9) HR8.out.1 HQ0.out (by rw[EV.out];exact HR8.out.2.2) (fun y hy=>by rw[EV.out,<-HR8.out.2.1];exact .inl hy) hM9 hG9;rw[HMX.out,qD rfl]at hS9;have HS9:=qA hS9;have HHM:=qA hM9;clear hS9 hM9;go_wp2_with fail
  go_roundw
  case rel=>
   have h1:=HS9.out;have h2:=HMS.out;rw[qC HQ0.out]at h2;rw[<-h2]at h1;refine⟨1+1,by omega,by go_num,qA ?_⟩;rw[HFS.out];unfold rR;rw[HPE.out,<-HQ.out];rw[h2]at h1 ⊢;exact h1
  case measure=>simp[intOf];try omega}}}
  {
  obtain rfl:j=2:=by omega
  have hFr:=HS2.out.fr;have hxb:=hFr.blk HEnd.out.2.1 (HEnd.out.1 _ (by omega));have heb:=hFr.blk HEnd.out.2.2.1 (HEnd.out.1 _ (by have:=HF.out.2;omega));obtain⟨e0,e1,e2,e3,e4,e5,e6⟩:=heb.lvAt;simp only[Nat.zero_add]at e0 e1 e2 e3 e4 e5 e6;have z:=hxb.frozen;have t0:=hxb.cell 0;have t1:=hxb.cell 1;have t2:=hxb.cell 2;have t3:=hxb.cell 3;have t4:=hxb.cell 4;have t5:=hxb.cell 5;have t6:=hxb.cell 6;simp only[zI,zJ]at t0 t1 t2 t3 t4 t5 t6;have HXB:=qA (hxb.put7 e);clear hFr hxb heb hlt hj;rename World=>wo
  go_wp2_with fail
  have hrr:=HXB.out.lvAt;unfold aHX Go.Proofs.YtjdgpcjbgjnahaaGreatDoor.put7 at hrr;simp only[Nat.zero_add]at hrr;obtain⟨r0,r1,r2,r3,r4,r5,r6⟩:=hrr;refine bodyPost_ret (v:=.tuple #[lvA e,.int .i64 0]) (by simp[results,Tryz.results109,go_sem,r0,r1,r2,r3,r4,r5,r6]) rfl ⟨by rw[HE.out],?_⟩;clear r0 r1 r2 r3 r4 r5 r6 t0 t1 t2 t3 t4 t5 t6 e0 e1 e2 e3 e4 e5 e6 z;exact aJX HB0.out HU.out e HS2.out HD7.out.1 HEnd.out.2.2.2.1 HEnd.out.2.2.2.2.1 ((HF.out.1.mono (by simp)).trans' HEnd.out.2.2.2.2.2) (by have:=HF.out.2;omega)}
end
theorem aNS(V E last:Nat)(w:World)(hV:V<=4096)(hE:E<=16384)(hl:last<=9223372036854775807):
    Calls Tryz.prog 84 #[.int .i64 V,.int .i64 E,.int .u64 last] w fun e w' =>∃ps,e=.returned (.tuple #[.pointer (some ⟨ps,0,none⟩),.int .i64 0])/\∃K,bH w' ps (Sm.new V E last) K/\Fr [] w w' /\ ∀q∈K,w.heap.size<=q:=by
 have d1:decide ((V:Int)<0)=false:=qF (by omega);have d2:decide ((4096:Int)<V)=false:=qF (by omega);have d3:decide ((E:Int)<0)=false:=qF (by omega);have d4:decide ((16384:Int)<E)=false:=qF (by omega);have d5:decide ((9223372036854775807:Int)<last)=false:=qF (by omega);have d6:decide ((4096:Nat)<V)=false:=qF (by omega);have d7:decide ((16384:Nat)<E)=false:=qF (by omega);have d8:decide ((9223372036854775807:Nat)<last)=false:=qF (by omega);have hmk:∀W:World,(Instr.makeMap 143 none).run Tryz.prog W=.ok (.map (some W.heap.size)) (W.alloc (.map #[] 0)):=fun W=>by kernel_rfl
 have HA:=qA (vA E w (by omega));have HT:=qA (fun w' =>aMD V w' (by omega));go_enter Tryz.func84,Tryz.ntmps84
 go_wp2_with fail
 refine HA.out.mono ?_;rintro _ w1 ⟨rfl,hA,hF1⟩;go_wp2_with fail
 refine(HT.out w1).mono ?_;rintro _ w2 ⟨pt,rfl,l,hT,hF2,hl2⟩;have HH:=qA (zH hA (zH hF1 (zH hT (zH hF2 hl2))));clear hA hF1 hT hF2 hl2 HA HT;go_wp2_with fail
 go_ret2;obtain⟨hA,hF1,hT,hF2,hl2⟩:=HH.out;have hal:=hA.lt w.heap.size (by simp);have hsz:=hF2.size;have htl:=hT.lt;have hln:∀b∈l,w1.heap.size<=b:=fun b hb=>(hl2 b hb).resolve_left (by simp);have hF:Fr [] w2 ((w2.alloc (.map #[] 0)).alloc (.cells #[.int .i64 V,.int .i64 E,.int .u64 last,ptr w.heap.size,ptr pt,fP,.map (some w2.heap.size)] 145)):=((Fr.refl [] w2).alloc _).alloc _;have hB:=Blk.new (w2.alloc (.map #[] 0)) [.int .i64 V,.int .i64 E,.int .u64 last,ptr w.heap.size,ptr pt,fP,.map (some w2.heap.size)] 145;rw[World.size_alloc]at hB;refine⟨_,rfl,_,⟨w.heap.size,pt,w2.heap.size,0,fP,[w.heap.size],l,[],fun x=>if x<w.heap.size+1 then 2 else if x<w2.heap.size then 3 else if x=w2.heap.size then 1 else 0,⟨hB,?_,?_,dJ.nil _,?_,?_,qR _,Sm.ok_new hV hE (by omega),?_⟩,rfl⟩,?_,?_⟩
 · exact hA.fr (hF2.trans' hF) (by simp)
 · exact hT.fr hF (by simp)
 · refine⟨fun _=>none,((cV.made w2 Tryz.prog 36 .u64 okS).same (Below.heap_alloc _ _ _ (by simp))),by simp,by simp,fun id hid=>⟨by simp[Sm.new,bU],dK.nil _,fun q e=>(by cases e)⟩,fun id id' q _ _ e=>(by cases e)⟩
 · intro e he;cases he
 {
 refine⟨?_,?_,fun b hb=>?_,fun b hb=>?_,fun q e=>(by cases e),fun b hb=>(by cases hb)⟩
 · rw[qC (by omega),qC (by omega),qC (by omega)]
 · rw[qC (by omega),qC (by omega),qD rfl]
 · rw[qH]at hb;rw[qD (by omega)]
 {
 have h1:=hln b hb;have h2:=htl b hb;rw[qC (by omega),qD h2]}}
 · exact(hF1.trans' hF2).trans' hF
 {
 have hs1:=hF1.size;intro q hq;simp only[stK,qB,qE,Value.ownBlock,Option.toList_none,List.not_mem_nil,or_false]at hq;rcases hq with rfl|rfl|rfl|hq
 · omega
 · omega
 · omega
 · have:=hln q hq;omega}
section
variable {Z Y:List Nat} {w w' w'' :World}
end
section
variable {W wr w' :World} {ps:Nat} {s:Sm} {Z Y X:List Nat}
end
def Tryz.laysCloneE_ren:Go.Shelf.Ren:=⟨fun|41=>161|n=>n,fun|22=>239|23=>223|4=>4|n=>n,fun|n=>n⟩
theorem Tryz.laysCloneE:Go.Proofs.SlLaysE0.n41 Tryz.prog Tryz.laysCloneE_ren:={
  mixed:=by kernel_rfl
  f41:=⟨Tryz.f161.name,by decide,Tryz.func161.trans (congrArg some (by kernel_rfl))⟩
  t4:=Tryz.underlying4
  a4:=Tryz.isAgg4
  z4:=Tryz.sizeOf4
  v4:=Tryz.zeroValue4
  t22:=Tryz.underlying239
  a22:=Tryz.isAgg239
  z22:=Tryz.sizeOf239
  v22:=Tryz.zeroValue239 }
theorem Tryz.sizeEnt:∀w,(Go.sizeOf 223).run Tryz.prog w=.ok 2 w:=fun w=>by kernel_rfl
theorem aCS{w:World}{v:Value}{n:Nat}{e:Nat->Nat×Int}(h:w.ownsRow 0 223 2 v n (gW n e))(hn:n<=65536):
    Calls Tryz.prog 161 #[v] w fun r w' =>∃v', r=.returned v' /\ w'.ownsRow 0 223 2 v' n (gW n e)/\(∀q,v'.ownBlock=some q->w.heap.size<=q)/\Fr [] w w' :=by
 obtain⟨i0,hi,hz0,hz1,hz2⟩:=info_parts Tryz.infoEnt;rcases h.2 with⟨rfl,rfl⟩|⟨g,cap,cur,rfl,hg,hcur,hnc,hcm,hcs,htk⟩
 {
 refine(AnyE.slices_Clone_nil Tryz.laysCloneE 0 0 w).mono ?_;rintro _ _ ⟨rfl,rfl⟩;exact⟨_,rfl,h,fun q e=>(by cases e),Fr.refl _ _⟩}
 {
 refine(AnyE.slices_Clone Tryz.laysCloneE i0 (.agg #[.int .i64 0,.int .i64 0]) 2 16 hi hz0 hz1 hz2 rfl (by decide) Tryz.sizeEnt g 0 n cap (gW n e) w (jG n e) (by unfold maxLen;omega) (by omega) (fun j u hj=>?_) (fun u hu=>?_)).mono ?_
 {
 have hjl:j<n*2:=by have:=(qS.1 hj).1;rwa[jG]at this
 rw[<-htk,List.getElem?_take,qD hjl]at hj;simpa[World.cell?,hcur] using hj}
 {
 simp only[gW,List.mem_flatMap,List.mem_range]at hu;obtain⟨k,_,hk⟩:=hu;simp at hk;rcases hk with rfl|rfl<;>rfl}
 {
 rintro _ w' ⟨v', rfl,h1,_,hB⟩;refine⟨v', rfl,⟨h1.1,h1.2.elim .inl (fun⟨g,cap,cur,k1,_,k3⟩=>.inr ⟨g,cap,cur,k1,qR _,k3⟩)⟩,fun q hq=>?_,Fr.of_below hB⟩;rcases h1.2 with⟨rfl,_⟩|⟨g,cap,cur,rfl,hb,_⟩
 · cases hq
 · simp[Value.ownBlock]at hq;omega}}
theorem clone_ents' {w:World}{v:Value}{n:Nat}{e:Nat->Nat×Int}(h:w.ownsRow 0 223 2 v n (gW n e))(hn:n<=65536):
    Calls Tryz.prog 161 #[v] w fun r w' =>∃a c,r=.returned (.slice a n c)/\w'.ownsRow 0 223 2 (.slice a n c) n (gW n e)/\(∀q,(Value.slice a n c).ownBlock=some q->w.heap.size<=q)/\Fr [] w w' :=by
 refine(aCS h hn).mono ?_;rintro r w' ⟨u,rfl,h1,h2,h3⟩;obtain⟨a,c,rfl⟩:=aT h1;exact⟨a,c,rfl,h1,h2,h3⟩
structure CS (w w' :World) (x:Value) (slots n m:Nat) (e:Nat->Nat×Int) (pl:Nat->Nat) (v:Value) (hc dr:Nat) (bs:Nat->Option Nat):Prop where
  fr:Fr [] w w'
  hd:Blk w' hc 242 [x,.int .i64 slots,v,.slice (some ⟨dr,0,none⟩) m m]
  it:w'.ownsRow 0 223 2 v n (gW n e)
  dir:Blk w' dr 244 ((List.range m).map fun k=>fI (bs k))
  a1:w.heap.size<=hc
  a2:w.heap.size<=dr
  a3:hc≠dr
  a4:∀q,v.ownBlock=some q->w.heap.size<=q/\q≠hc/\q≠dr
  bl:∀k b,k<m->bs k=some b->Blk w' b 246 (iQ pl k)/\w.heap.size<=b/\b≠hc/\b≠dr/\v.ownBlock≠some b
  inj:∀k k' b,k<m->k' < m->bs k=some b->bs k' =some b->k=k'
theorem CS.self{w w' :World}{x y:Value}{slots n m:Nat}{e:Nat->Nat×Int}{pl:Nat->Nat}{v:Value}{hc dr:Nat}{bs:Nat->Option Nat}(h:CS w w' x slots n m e pl v hc dr bs):
    CS w (w'.setCell ⟨hc,0,none⟩ y) y slots n m e pl v hc dr bs:=
  ⟨h.fr.setCell _ _ (.inr h.a1),h.hd.set 0 _,bN h.it _ _ (fun e=>(h.a4 _ e).2.1 rfl),h.dir.other _ _ h.a3.symm,h.a1,h.a2,h.a3,h.a4,
    fun k b hk hb=>by
 obtain⟨k1,k2,k3,k4,k5⟩:=h.bl k b hk hb;exact⟨k1.other _ _ k3,k2,k3,k4,k5⟩,h.inj⟩
theorem CS.more{w w' :World}{x:Value}{slots n m:Nat}{e:Nat->Nat×Int}{pl:Nat->Nat}{v:Value}{hc dr:Nat}{bs:Nat->Option Nat}(h:CS w w' x slots n m e pl v hc dr bs){k:Nat}(hk:k<m)(hb:bs k=none):
    CS w ((w'.alloc (.cells (iQ pl k).toArray 246)).setCell ⟨dr,k,none⟩ (aS w'.heap.size)) x slots n m e pl v hc dr (xO bs k w'.heap.size):=by
 have hnew:=Blk.new w' (iQ pl k) 246;have hl1:=h.hd.lt;have hl2:=h.dir.lt;have hle:=h.fr.size;refine⟨(h.fr.alloc _).setCell _ _ (.inr h.a2),(h.hd.alloc _).other _ _ h.a3,bN (h.it.alloc _) _ _ (fun e=>(h.a4 _ e).2.2 rfl),?_,h.a1,h.a2,h.a3,h.a4,fun j b hj hb' =>?_,fun j j' b hj hj' hb' hb2=>?_⟩
 {
 have:=(h.dir.alloc (.cells (iQ pl k).toArray 246)).set k (aS w'.heap.size);have e1:((List.range m).map fun x=>fI (bs x)).set k (aS w'.heap.size)=(List.range m).map fun x=>fI (xO bs k w'.heap.size x):=by {
 apply List.ext_getElem?;intro j;by_cases hj:j<m
 {
 by_cases e2:j=k
 · subst e2;rw[List.getElem?_set_self (by simpa using hj)];simp[hj,cA,fI]
 · rw[List.getElem?_set_ne (by omega)];simp[hj,bX e2]}
 · rw[zA (by simp;omega),zA (by simp;omega)]};rw[e1]at this;exact this}
 {
 by_cases e2:j=k
 {
 subst e2;rw[cA]at hb'; cases hb';refine⟨hnew.other _ _ (by simp;omega),hle,by omega,by omega,fun e3=>?_⟩;have:=(h.it.lt _ e3).2;omega}
 {
 rw[bX e2]at hb';obtain⟨k1,k2,k3,k4,k5⟩:=h.bl j b hj hb';exact⟨(k1.alloc _).other _ _ k4,k2,k3,k4,k5⟩}}
 {
 by_cases e2:j=k
 {
 by_cases e3:j' =k
 · omega
 {
 rw[bX e3]at hb2;subst e2;rw[cA]at hb'; cases hb';have:=(h.bl j' _ hj' hb2).1.lt;omega}}
 {
 rw[bX e2]at hb';by_cases e3:j' =k
 {
 subst e3;rw[cA]at hb2;cases hb2;have:=(h.bl j _ hj hb').1.lt;omega}
 {
 rw[bX e3]at hb2;exact h.inj j j' b hj hj' hb' hb2}}}
theorem aNT{w:World}{ph slots n:Nat}{Q:Nat->Option Int}{l:List Nat}(h:dH w ph slots Q n l):
    Calls Tryz.prog 121 #[aS ph] w fun r w' =>∃ph', r=.returned (aS ph')/\∃l', dH w' ph' slots Q n l' /\ Fr [] w w' /\ ∀b∈l', w.heap.size<=b:=by
 obtain⟨e,pl,v,gp,cp,bs,hm,hk,hp,hq,rfl⟩:=h;obtain⟨m,hmm⟩:∃m,m=(slots+63)/64:=⟨_,rfl⟩;have hle:=hm.le;have hmk:=fun w' =>nA m w' (by omega);have c0:=hm.hd.cell 0;have c1:=hm.hd.cell 1;have c2:=hm.hd.cell 2;have c3:=hm.hd.cell 3;simp only[zI,zJ,<-hmm]at c0 c1 c2 c3;have HC:=qA (fun(w' :World) (hf:Fr [] w w')=>clone_ents' (aQ hm.items (fun k hk=>hf.keep k (hm.items.lt k hk).2 (by simp))) hm.nb);have hml:m<=1024:=by omega
 have HMm:=qA hmm;clear hmm;have HM:=qA hm;have HK:=qA (zH hk (zH hp hq));clear hk hp hq;have HV:=qA (lH hm);clear hm;go_enter Tryz.func121,Tryz.ntmps121
 go_wp2_with fail
 refine HV.out.mono ?_;rintro _ w ⟨rfl,rfl⟩;have HQ:=qA (HC.out w.drew (Fr.refl [] w).drew);go_wp2_with fail
 go_region_held3 (fun w' => w'.cell? ⟨ph, 1, none⟩ = some (.int .i64 slots) /\ w'.cell? ⟨ph, 2, none⟩ = some v /\ w'.cell? ⟨ph, 3, none⟩ = some (.slice (some ⟨gp, 0, none⟩) m cp))
   (first
     | go_keep
     | exact⟨hF4.cell c1 (by simp),hF4.cell c2 (by simp),hF4.cell c3 (by simp)⟩
     | exact⟨hF4.cell (((Fr.refl [] w).alloc _).drew.cell c1 (by simp)) (by simp),hF4.cell (((Fr.refl [] w).alloc _).drew.cell c2 (by simp)) (by simp),hF4.cell (((Fr.refl [] w).alloc _).drew.cell c3 (by simp)) (by simp)⟩)
   (first
     | (go_at_call 161;with_reducible refine HQ.out.mono ?_;rintro e w4 ⟨au,cu,rfl,hR4,hQ4,hF4⟩)
     | (go_at_call 161;refine(HC.out _ (((Fr.refl [] w).alloc _).drew)).mono ?_;rintro e w4 ⟨au,cu,rfl,hR4,hQ4,hF4⟩))
 focus
   have hb:=Blk.new (w4.alloc (.cells ((List.range m).map fun k=>fI ((fun _=>none:Nat->Option Nat) k)).toArray 244)) [.pointer none,.int .i64 slots,.slice au n cu,.slice (some ⟨w4.heap.size,0,none⟩) m m] 242;have hd:=(Blk.new w4 ((List.range m).map fun k=>fI ((fun _=>none:Nat->Option Nat) k)) 244).alloc (.cells [.pointer none,.int .i64 slots,.slice au n cu,.slice (some ⟨w4.heap.size,0,none⟩) m m].toArray 242);rw[World.size_alloc]at hb;have hle:=hF4.size;have hlq:=hR4.lt;have F:CS w _ _ slots n m e pl _ _ _ (fun _=>none):=⟨(((Fr.refl [] w).drew.trans' hF4).alloc _).alloc _,hb,(hR4.alloc _).alloc _,hd,by simp at hle;omega,by simpa using hle,by omega,fun q hq=>⟨by simpa using hQ4 q hq,by have:=(hlq q hq).2;omega,by have:=(hlq q hq).2;omega⟩,fun k b _ h=>(by cases h),fun k k' b _ _ h=>(by cases h)⟩;have HF:=qA F;clear hb hd hle hlq F hR4 hQ4 hF4;generalize hw5:(w4.alloc (.cells ((List.range m).map fun k=>fI ((fun _=>none:Nat->Option Nat) k)).toArray 244)).alloc (.cells [.pointer none,.int .i64 slots,.slice au n cu,.slice (some ⟨w4.heap.size,0,none⟩) m m].toArray 242)=w5 at *;generalize w4.heap.size+1=hc at *;generalize w4.heap.size=dr at *;rename_i hHH;clear hw5
 rotate_left
 focus
   have hb:=Blk.new w4 [.pointer none,.int .i64 slots,.slice au n cu,.slice (some ⟨w.heap.size,0,none⟩) m m] 242;have hd:=(hF4.blk (Blk.new w ((List.range m).map fun k=>fI ((fun _=>none:Nat->Option Nat) k)) 244).drew (by simp)).alloc (.cells [.pointer none,.int .i64 slots,.slice au n cu,.slice (some ⟨w.heap.size,0,none⟩) m m].toArray 242);have hle:=hF4.size;have hlq:=hR4.lt;have F:CS w _ _ slots n m e pl _ _ _ (fun _=>none):=⟨((((Fr.refl [] w).alloc _).drew).trans' hF4).alloc _,hb,hR4.alloc _,hd,by simp at hle;omega,qJ _,by simp at hle;omega,fun q hq=>⟨by have:=hQ4 q hq;simp at this;omega,by have:=(hlq q hq).2;omega,by have:=hQ4 q hq;simp at this;omega⟩,fun k b _ h=>(by cases h),fun k k' b _ _ h=>(by cases h)⟩;have HF:=qA F;clear hb hd hle hlq F hR4 hQ4 hF4;generalize hw5:w4.alloc (.cells [.pointer none,.int .i64 slots,.slice au n cu,.slice (some ⟨w.heap.size,0,none⟩) m m].toArray 242)=w5 at *;generalize w4.heap.size=hc at *;generalize w.heap.size=dr at *;rename_i hHH;clear hw5
 all_goals
  have F2:=HF.out.self (y:=aS hc);have hx3:w5.cell? ⟨ph,3,none⟩=some (.slice (some ⟨gp,0,none⟩) m cp):=hHH.2.2;have hne:ph≠hc:=by have:=HM.out.hd.lt;have:=HF.out.a1;omega
  have s0:=HF.out.hd.cell 0;have z0:=HF.out.hd.frozen 0;simp only[zI]at s0;have HF2:=qA F2;clear F2 hHH HF;go_wp2_with fail
  clear hx3 hne s0 z0;generalize w5.setCell ⟨hc,0,none⟩ (aS hc)=w6 at *;go_loopw [36] (fun si wr=>∃(i:Nat) (bs' :Nat->Option Nat),i<=m/\si=.int .i64 i/\Hid (CS w wr (aS hc) slots n m e pl (.slice au n cu) hc dr bs')/\Hid ((∀k,k<i->(bs' k=none↔bs k=none))/\∀k,i<=k->bs' k=none)) (fun si _=>m-(intOf si).toNat)
  case atStart=>exact⟨0,_,qR _,rfl,HF2,qA ⟨fun k h=>by omega,fun _ _=>rfl⟩⟩
  case round=>
   clear HF2;obtain⟨i,bs', hi,rfl,HF,HN⟩:=hrel;by_cases hlt:i<m
   {
   have hil:(i:Int)<m:=by omega
   have hdc:wr.cell? ⟨gp,i,none⟩=some (fI (bs i)):=HF.out.fr.cell (HM.out.dirAt (by rw[<-HMm.out];exact hlt)) (by simp);cases hbi:bs i with
   | none=>{
   rw[hbi]at hdc;simp only[fI,Option.map_none]at hdc;have HB:=qA hbi;clear hbi;go_wp2
   go_roundw
   case rel=>exact⟨i+1,bs', by omega,by go_num,HF,qA ⟨fun k hk=>if h:k<i then HN.out.1 k h else by
     obtain rfl:k=i:=by omega
     rw[HN.out.2 k (qJ _),HB.out],fun k hk=>HN.out.2 k (by omega)⟩⟩
   case measure=>simp[intOf];omega}
   | some b=>{
   rw[hbi]at hdc;simp only[fI,Option.map_some]at hdc;have HB:=qA hbi;clear hbi;have hcsr:Blk wr b 246 (iQ pl i):=HF.out.fr.blk (HM.out.some_ i b (by rw[<-HMm.out];exact hlt) HB.out) (by simp);obtain⟨cs,hcs⟩:∃cs,cs=iQ pl i:=⟨_,rfl⟩;have hcl:cs.length=64:=by rw[hcs];simp[iQ]
   have hone:∀u∈cs,u.oneCell' =true:=by {
   intro u hu;rw[hcs]at hu;simp only[iQ,qV,List.mem_range]at hu;obtain⟨j,_,rfl⟩:=hu;rfl};have F3:=HF.out.more hlt (HN.out.2 i (qJ _));have hFa:=HF.out.hd.alloc (.cells cs.toArray 246);have hFd:=HF.out.dir.alloc (.cells cs.toArray 246);rw[<-hcs]at hcsr F3;have c3:=hFa.cell 3;have cd:=hFd.cell i;have zd:=hFd.frozen i;simp only[zI,zJ]at c3;have hcd:((List.range m).map fun k=>fI (bs' k))[i]? =some (fI (bs' i)):=by simp[hlt]
   rw[hcd]at cd;generalize fI (bs' i)=od at *;have HF3:=qA F3;clear F3 hFa hFd hcd;have HCS:=qA hcs;clear hcs;have hinfo:(Tryz.prog.info? 246).map (·.size)=some cs.toArray.size:=by {
   have:(Tryz.prog.info? 246).map (·.size)=some 64:=by kernel_rfl
   rw[this];simp[hcl]};have hst:=run_storeCells_new (P:=Tryz.prog) wr 246 #[.int .i64 0,.int .i64 0,.int .i64 0,.int .i64 0,.int .i64 0,.int .i64 0,.int .i64 0,.int .i64 0,.int .i64 0,.int .i64 0,.int .i64 0,.int .i64 0,.int .i64 0,.int .i64 0,.int .i64 0,.int .i64 0,.int .i64 0,.int .i64 0,.int .i64 0,.int .i64 0,.int .i64 0,.int .i64 0,.int .i64 0,.int .i64 0,.int .i64 0,.int .i64 0,.int .i64 0,.int .i64 0,.int .i64 0,.int .i64 0,.int .i64 0,.int .i64 0,.int .i64 0,.int .i64 0,.int .i64 0,.int .i64 0,.int .i64 0,.int .i64 0,.int .i64 0,.int .i64 0,.int .i64 0,.int .i64 0,.int .i64 0,.int .i64 0,.int .i64 0,.int .i64 0,.int .i64 0,.int .i64 0,.int .i64 0,.int .i64 0,.int .i64 0,.int .i64 0,.int .i64 0,.int .i64 0,.int .i64 0,.int .i64 0,.int .i64 0,.int .i64 0,.int .i64 0,.int .i64 0,.int .i64 0,.int .i64 0,.int .i64 0,.int .i64 0] cs.toArray hinfo (by simp[hcl]) (by simpa using hone);go_wp2_with (refine wpList_load_row rfl 246 _ rfl b rfl 246 cs.toArray (0,0) _ hcsr Tryz.underlying246 rfl hinfo ?_)
   go_roundw
   case rel=>
    refine⟨i+1,_,by omega,by go_num,HF3,qA ⟨fun k hk=>?_,fun k hk=>?_⟩⟩
    {
    by_cases h:k=i
    · subst h;rw[cA,HB.out];simp
    · rw[bX h];exact HN.out.1 k (by omega)}
    · rw[bX (by omega)];exact HN.out.2 k (by omega)
   case measure=>simp[intOf];omega}}
   {
   obtain rfl:i=m:=by omega
   go_wp2
   go_ret;refine⟨hc,rfl,hB slots hc (.slice au n cu) dr bs', ⟨e,pl,.slice au n cu,dr,i,bs', ⟨by rw[<-HMm.out];exact HF.out.hd,HF.out.it,by rw[<-HMm.out];exact HF.out.dir,fun k b hk hb=>(HF.out.bl k b (by rw[HMm.out];exact hk) hb).1,fun k hk hb=>HM.out.none_ k hk ((HN.out.1 k (by rw[HMm.out];exact hk)).1 hb),hle,HM.out.nb,HM.out.pb,HF.out.a3,fun e=>(HF.out.a4 _ e).2.1 rfl,fun e=>(HF.out.a4 _ e).2.2 rfl,fun k b hk hb=>(HF.out.bl k b (by rw[HMm.out];exact hk) hb).2.2,fun k k' b hk hk' =>HF.out.inj k k' b (by rw[HMm.out];exact hk) (by rw[HMm.out];exact hk')⟩,HK.out.1,HK.out.2.1,HK.out.2.2,rfl⟩,HF.out.fr,fun b hb=>?_⟩;rcases dM.1 hb with rfl|rfl|hb|⟨k,hk,hb⟩
   · exact HF.out.a1
   · exact HF.out.a2
   · exact(HF.out.a4 _ hb).1
   · exact(HF.out.bl k b (by rw[HMm.out];exact hk) hb).2.1}
def cJ(w:World)(px slots:Nat)(Q:Nat->Option Int)(n:Nat)(l:List Nat):Prop:=∃ph lh,Blk w px 179 [.int .i64 slots,aS ph]/\dH w ph slots Q n lh/\px∉lh/\l=px::lh
section
variable {w w' :World} {px slots n:Nat} {Q:Nat->Option Int} {l S:List Nat}
theorem cJ.fr(h:cJ w px slots Q n l)(hf:Fr S w w')(hs:∀b∈l,b∉S):cJ w' px slots Q n l:=by
 obtain⟨ph,lh,h1,h2,h3,rfl⟩:=h;exact⟨ph,lh,hf.blk h1 (hs _ (by simp)),h2.fr hf (fun b hb=>hs b (by simp[hb])),h3,rfl⟩
theorem cJ.fr0(h:cJ w px slots Q n l)(hf:Fr [] w w'):cJ w' px slots Q n l:=h.fr hf (by simp)
theorem cJ.lt(h:cJ w px slots Q n l):∀b∈l,b<w.heap.size:=by
 obtain⟨ph,lh,h1,h2,h3,rfl⟩:=h;intro b hb;rcases qB.1 hb with rfl|hb
 · exact h1.lt
 · exact h2.lt b hb
theorem aQQ(slots:Nat)(w:World)(hs:slots<=65536):
    Calls Tryz.prog 85 #[.int .i64 slots] w fun e w' =>∃px,e=.returned (.tuple #[aS px,.int .i64 0])/\∃l,cJ w' px slots (fun _=>none) 0 l/\Fr [] w w' /\ ∀b∈l,w.heap.size<=b:=by
 have HN:=qA (aJO slots w hs);go_enter Tryz.func85,Tryz.ntmps85
 go_wp2_with fail
 refine HN.out.mono ?_;rintro _ w1 ⟨ph,rfl,lh,h1,h2,h3⟩;have H1:=qA (zH h1 (zH h2 h3));clear h1 h2 h3;go_wp2
 go_ret2;have hs1:=H1.out.2.1.size;have hb:=Blk.new w1 [.int .i64 slots,aS ph] 179;have hF:Fr [] w1 (w1.alloc (.cells #[.int .i64 slots,aS ph] 179)):=(Fr.refl [] w1).alloc _;refine⟨w1.heap.size,rfl,_,⟨ph,lh,hb,H1.out.1.fr hF (by simp),fun hm=>by have:=H1.out.1.lt _ hm;omega,rfl⟩,H1.out.2.1.trans' hF,fun b hb=>?_⟩;rcases qB.1 hb with rfl|hb
 · exact hs1
 · exact H1.out.2.2 b hb
theorem oQ(h:cJ w px slots Q n l):Calls Tryz.prog 120 #[aS px] w fun e w' =>e=.returned (.bool true)/\w' =w:=by
 obtain⟨ph,lh,h1,h2,h3,rfl⟩:=h;have c1:=h1.cell 1;simp only[zI,zJ]at c1;clear h1 h2 h3;go_enter Tryz.func120,Tryz.ntmps120
 go_wp2
 go_ret;exact⟨rfl,rfl⟩
theorem aNU(h:cJ w px slots Q n l):
    Calls Tryz.prog 156 #[aS px] w fun r w' =>Fr [] w w' /\ ((n=0/\r=.returned (.tuple #[.agg #[.int .i64 0,.int .i64 0],.bool false])) ∨
      (0<n/\∃i k,Q i=some k/\(∀j x,Q j=some x->¬elt (j,x) (i,k))/\r=.returned (.tuple #[.agg #[.int .i64 (i:Nat),.int .i64 k],.bool true]))):=by
 have hf0:Fr [] w (w.alloc (.cells #[.int .i64 0,.int .i64 0] 223)):=(Fr.refl _ _).alloc _;have HBX:=qA (Blk.new w [.int .i64 0,.int .i64 0] 223);have HV:=qA (oQ (h.fr0 hf0));obtain⟨ph,lh,h1,h2,h3,rfl⟩:=h;have HM:=qA (aAF (h2.fr hf0 (by simp)));have c1:=(hf0.blk h1 (by simp)).cell 1;simp only[zI,zJ]at c1;clear h1 h2 h3 hf0;go_enter Tryz.func156,Tryz.ntmps156
 go_wp2_with fail
 refine HV.out.mono ?_;rintro _ w0 ⟨rfl,rfl⟩;go_wp2_with fail
 refine HM.out.mono ?_;rintro r w1 ⟨f1,hr⟩;have k1:=f1.blk HBX.out (by simp);have z0:=k1.frozen 0;have z1:=k1.frozen 1;have x0:=k1.cell 0;have x1:=k1.cell 1;simp only[zI,zJ]at x0 x1;have HF1:=qA f1;have HK1:=qA k1;clear f1 k1 HV HM;rcases hr with⟨hn,rfl⟩|⟨hn,i,k,h1,h2,rfl⟩
 {
 have Hn:=qA hn;clear hn;go_wp2
 have hK:=((HK1.out.set 0 (.int .i64 0)).set 1 (.int .i64 0));have r0:=hK.cell 0;have r1:=hK.cell 1;simp only[qX,qT,zI,zJ]at r0 r1;refine bodyPost_ret (v:=.tuple #[.agg #[.int .i64 0,.int .i64 0],.bool false]) (by simp[results,Tryz.results156,go_sem,r0,r1]) rfl ?_;exact⟨((((Fr.refl [] w).alloc _).trans' HF1.out).setCell _ _ (.inr (qJ _))).setCell _ _ (.inr (qJ _)),.inl ⟨Hn.out,rfl⟩⟩}
 {
 have Hn:=qA (zH hn (zH h1 h2));clear hn h1 h2;go_wp2
 have hK:=((HK1.out.set 0 (.int .i64 (i:Int))).set 1 (.int .i64 k));have r0:=hK.cell 0;have r1:=hK.cell 1;simp only[qX,qT,zI,zJ]at r0 r1;refine bodyPost_ret (v:=.tuple #[.agg #[.int .i64 i,.int .i64 k],.bool true]) (by simp[results,Tryz.results156,go_sem,r0,r1]) rfl ?_;exact⟨((((Fr.refl [] w).alloc _).trans' HF1.out).setCell _ _ (.inr (qJ _))).setCell _ _ (.inr (qJ _)),.inr ⟨Hn.out.1,i,k,Hn.out.2.1,Hn.out.2.2,rfl⟩⟩}
end
abbrev kG(p:Nat):Value:=.pointer (some ⟨p,0,none⟩)
def lK(a b:Int):Int:=if a+b<=9223372036854775807 then 0 else 7
def tU(a b:Int):Int:=if a+b<=9223372036854775807 then a+b else 0
theorem aTD(a b:Int)(ha:-9223372036854775808<=a)(ha2:a<=9223372036854775807)(hb:0<=b)(hb2:b<=9223372036854775807)(w:World):
    Calls Tryz.prog 170 #[.int .i64 a,.int .i64 b] w fun e w' =>e=.returned (.tuple #[.int .i64 (tU a b),.int .i64 (lK a b)])/\w' =w:=by
 have d2:decide (b<0)=false:=qF (by omega);by_cases hs:a+b<=9223372036854775807
 {
 have hw:IntKind.i64.wrap (a+b)=a+b:=zF _ (by omega);have e1:tU a b=a+b:=qD hs;have e2:lK a b=0:=qD hs;rw[e1,e2];by_cases h0:a<0
 {
 have d1:decide (a<0)=true:=qG h0;clear hs e1 e2;go_enter Tryz.func170,Tryz.ntmps170
 go_wp2
 go_ret2;exact⟨rfl,rfl⟩}
 {
 have d1:decide (a<0)=false:=qF h0;have d3:decide (a+b<0)=false:=qF (by omega);clear hs e1 e2;go_enter Tryz.func170,Tryz.ntmps170
 go_wp2
 go_ret2;exact⟨rfl,rfl⟩}}
 {
 have h0:¬a<0:=by omega
 have hw:IntKind.i64.wrap (a+b)=a+b-18446744073709551616:=by simp[IntKind.wrap,IntKind.bits,IntKind.signed];omega
 have d1:decide (a<0)=false:=qF h0;have d3:decide (a+b-18446744073709551616<0)=true:=qG (by omega);have e1:tU a b=0:=qC hs;have e2:lK a b=7:=qC hs;rw[e1,e2];clear hs e1 e2;go_enter Tryz.func170,Tryz.ntmps170
 go_wp2
 go_ret2;exact⟨rfl,rfl⟩}
structure Clk (w:World) (pc:Nat) (m now:Int):Prop where
  hd:Blk w pc 157 [.int .i64 m,.int .i64 now]
  m1:1<=m
  m2:m<=9223372036854775807
  n0:0<=now
  n1:now+m<=9223372036854775807
section
variable {w w' :World} {pc:Nat} {m now:Int}
theorem Clk.fr{S:List Nat}(h:Clk w pc m now)(hf:Fr S w w')(hs:pc∉S):Clk w' pc m now:=⟨hf.blk h.hd hs,h.m1,h.m2,h.n0,h.n1⟩
theorem Clk.fr0(h:Clk w pc m now)(hf:Fr [] w w'):Clk w' pc m now:=h.fr hf (by simp)
theorem aQR(m:Int)(h1:1<=m)(h2:m<=9223372036854775807)(w:World):Calls Tryz.prog 83 #[.int .i64 m] w fun e w' =>∃pc,e=.returned (.tuple #[kG pc,.int .i64 0])/\Clk w' pc m 0/\Fr [] w w' /\ pc=w.heap.size:=by
 have d1:decide (m<1)=false:=qF (by omega);go_enter Tryz.func83,Tryz.ntmps83
 go_wp2
 go_ret2;exact⟨w.heap.size,rfl,⟨Blk.new w [.int .i64 m,.int .i64 0] _,h1,h2,Int.le_refl _,by omega⟩,(Fr.refl [] w).alloc _,rfl⟩
theorem oR(h:Clk w pc m now):Calls Tryz.prog 102 #[kG pc] w fun e w' =>e=.returned (.bool true)/\w' =w:=by
 have c0:=h.hd.cell 0;simp only[zI]at c0;have d1:decide (m≥1)=true:=qG h.m1;clear h;go_enter Tryz.func102,Tryz.ntmps102
 go_wp2
 go_ret;exact⟨rfl,rfl⟩
theorem aQS(h:Clk w pc m now):Calls Tryz.prog 64 #[kG pc] w fun e w' =>e=.returned (.int .i64 now)/\w' =w:=by
 have HV:=qA (oR h);have c1:=h.hd.cell 1;simp only[zI,zJ]at c1;clear h;go_enter Tryz.func64,Tryz.ntmps64
 go_wp2_with fail
 refine HV.out.mono ?_;rintro _ w ⟨rfl,rfl⟩;go_wp2
 go_ret;exact⟨rfl,rfl⟩
theorem xU(h1:1<=m)(h2:m<=9223372036854775807)(t:Int)(ht:-9223372036854775808<=t)(ht2:t<=9223372036854775807)(w:World):Calls Tryz.prog 132 #[.int .i64 m,.int .i64 t] w fun e w' =>e=.returned (.tuple #[.int .i64 (tU t m),.int .i64 (lK t m)])/\w' =w:=by
 have HA:=qA (aTD t m ht ht2 (by omega) h2 w);clear h1 h2 ht ht2;go_enter Tryz.func132,Tryz.ntmps132
 go_wp2_with fail
 refine HA.out.mono ?_;rintro _ w ⟨rfl,rfl⟩;go_wp2
 go_ret2;exact⟨rfl,rfl⟩
def dI(m now t:Int):Int:=if t<now then 10 else lK t m
theorem lL(h:Clk w pc m now)(t:Int)(ht:-9223372036854775808<=t)(ht2:t<=9223372036854775807):Calls Tryz.prog 111 #[kG pc,.int .i64 t] w fun e w' =>e=.returned (.int .i64 (dI m now t))/\w' =w:=by
 have HV:=qA (oR h);have HA:=qA (xU h.m1 h.m2 t ht ht2 w);have c0:=h.hd.cell 0;have c1:=h.hd.cell 1;simp only[zI,zJ]at c0 c1;clear h;unfold dI;by_cases hlt:t<now
 {
 have d1:decide (t<now)=true:=qG hlt;rw[qD hlt];clear hlt;go_enter Tryz.func111,Tryz.ntmps111
 go_wp2_with fail
 refine HV.out.mono ?_;rintro _ w ⟨rfl,rfl⟩;go_wp2
 go_ret;exact⟨rfl,rfl⟩}
 {
 have d1:decide (t<now)=false:=qF hlt;rw[qC hlt];clear hlt;generalize lK t m=cc at *;generalize tU t m=vv at *;go_enter Tryz.func111,Tryz.ntmps111
 go_wp2_with fail
 refine HV.out.mono ?_;rintro _ w ⟨rfl,rfl⟩;go_wp2_with fail
 refine HA.out.mono ?_;rintro _ w ⟨rfl,rfl⟩;go_wp2
 go_ret;exact⟨rfl,rfl⟩}
theorem aES(h:Clk w pc m now)(t:Int)(ht:-9223372036854775808<=t)(ht2:t<=9223372036854775807)(hc:dI m now t≠0):Calls Tryz.prog 88 #[kG pc,.int .i64 t] w fun e w' =>e=.returned (.int .i64 (dI m now t))/\w' =w:=by
 have HC:=qA (lL h t ht ht2);clear h;generalize dI m now t=cc at *;have d1:(cc == 0)=false:=by simp[hc]
 clear hc;go_enter Tryz.func88,Tryz.ntmps88
 go_wp2_with fail
 refine HC.out.mono ?_;rintro _ w ⟨rfl,rfl⟩;go_wp2
 go_ret;exact⟨rfl,rfl⟩
theorem mG{m now t:Int}(hc:dI m now t=0):now<=t/\t+m<=9223372036854775807:=by
 unfold dI lK at hc;split at hc
 · cases hc
 {
 split at hc
 · omega
 · cases hc}
theorem aAP(h:Clk w pc m now)(t:Int)(ht:-9223372036854775808<=t)(ht2:t<=9223372036854775807)(hc:dI m now t=0):Calls Tryz.prog 88 #[kG pc,.int .i64 t] w fun e w' =>e=.returned (.int .i64 0)/\Clk w' pc m t/\Fr [pc] w w' :=by
 have hC:=lL h t ht ht2;have hk:=mG hc;rw[hc]at hC;have HC:=qA hC;clear hC;have c1:=h.hd.cell 1;have f1:=h.hd.frozen 1;simp only[zI,zJ]at c1;have HR:=qA (show Clk (w.setCell ⟨pc,1,none⟩ (.int .i64 t)) pc m t from⟨h.hd.set 1 _,h.m1,h.m2,by have:=h.n0;omega,hk.2⟩);clear h hc hk;go_enter Tryz.func88,Tryz.ntmps88
 go_wp2_with fail
 refine HC.out.mono ?_;rintro _ w ⟨rfl,rfl⟩;go_wp2
 go_ret;exact⟨rfl,HR.out,(Fr.refl _ _).setCell _ _ (.inl (by simp))⟩
theorem aQT(h:Clk w pc m now)(t:Int)(ht:-9223372036854775808<=t)(ht2:t<=9223372036854775807):Calls Tryz.prog 134 #[kG pc,.int .i64 t] w fun e w' =>e=.returned (.tuple #[.int .i64 (tU t m),.int .i64 (lK t m)])/\w' =w:=by
 have HV:=qA (oR h);have HA:=qA (xU h.m1 h.m2 t ht ht2 w);have c0:=h.hd.cell 0;simp only[zI]at c0;clear h;generalize lK t m=cc at *;generalize tU t m=vv at *;go_enter Tryz.func134,Tryz.ntmps134
 go_wp2_with fail
 refine HV.out.mono ?_;rintro _ w ⟨rfl,rfl⟩;go_wp2_with fail
 refine HA.out.mono ?_;rintro _ w ⟨rfl,rfl⟩;go_wp2
 go_ret2;exact⟨rfl,rfl⟩
end
structure Wp where
  m:Int
  E:Nat
  V:Nat
  D:Int
  now:Int
  s:Sm
  Q:Nat->Option Int
  nq:Nat
  G:Nat->Option (Nat×Nat×Int)
  added:Nat
  gone:Nat
def bY(pw pc:Nat)(Ks lx Lf:List Nat):List Nat:=pw::pc::(Ks++(lx++Lf))
structure dR (w:World) (pw pc ps px pf:Nat) (P:Wp) (Ks lx Lf:List Nat) (cl:Nat->Nat):Prop where
  hd:Blk w pw 38 [.int .i64 P.m,.int .i64 P.E,.int .i64 P.V,.int .i64 P.D,kG pc,iO ps,aS px,eO pf,.int .u64 P.added,.int .u64 P.gone]
  clk:Clk w pc P.m P.now
  st:bH w ps P.s Ks
  sch:cJ w px P.E P.Q P.nq lx
  fo:FAt w pf P.E P.V P.G Lf
  kw:cl pw=0
  kc:cl pc=1
  ks:∀q∈Ks,cl q=2
  kx:∀q∈lx,cl q=3
  kf:∀q∈Lf,cl q=4
section
variable {w w' :World} {pw pc ps px pf:Nat} {P:Wp} {Ks Ks' lx lx' Lf Lf' S:List Nat} {cl:Nat->Nat}
theorem dR.fr(h:dR w pw pc ps px pf P Ks lx Lf cl)(hf:Fr S w w')(hs:∀q∈bY pw pc Ks lx Lf,q∉S):dR w' pw pc ps px pf P Ks lx Lf cl:=
  ⟨hf.blk h.hd (hs _ (by simp[bY])),h.clk.fr hf (hs _ (by simp[bY])),h.st.fr hf (fun q hq=>hs q (by simp[bY,hq])),h.sch.fr hf (fun q hq=>hs q (by simp[bY,hq])),h.fo.fr hf (fun q hq=>hs q (by simp[bY,hq])),h.kw,h.kc,h.ks,h.kx,h.kf⟩
theorem dR.fr0(h:dR w pw pc ps px pf P Ks lx Lf cl)(hf:Fr [] w w'):dR w' pw pc ps px pf P Ks lx Lf cl:=h.fr hf (by simp)
theorem dR.lt(h:dR w pw pc ps px pf P Ks lx Lf cl):∀q∈bY pw pc Ks lx Lf,q<w.heap.size:=by
 intro q hq;simp only[bY,qB,qE]at hq;rcases hq with rfl|rfl|hq|hq|hq
 · exact h.hd.lt
 · exact h.clk.hd.lt
 · exact h.st.lt q hq
 · exact h.sch.lt q hq
 · exact h.fo.lt q hq
theorem fU{k n:Nat}{cl:Nat->Nat}{q j:Nat}(h1:q<n)(h2:cl q=j):(if q<n then cl q else k)=j:=by rw[qD h1];exact h2
theorem xV{A A' :List Nat}{n k:Nat}{cl:Nat->Nat}(h:∀q∈A,cl q=k)(hl:∀q∈A,q<n)(hq:∀q∈A', q∈A∨n<=q):∀q∈A', (if q<n then cl q else k)=k:=by
 intro q hm;rcases hq q hm with e|e
 · exact fU (hl q e) (h q e)
 · rw[qC (by omega)]
theorem dR.setSt(h:dR w pw pc ps px pf P Ks lx Lf cl){s' :Sm}(hs:bH w' ps s' Ks')(hF:Fr Ks w w')(hq:∀q∈Ks', q∈Ks∨w.heap.size<=q):∃cl', dR w' pw pc ps px pf { P with s:=s' } Ks' lx Lf cl' :=by
 refine⟨fun q=>if q<w.heap.size then cl q else 2,hF.blk h.hd (fun hm=>by have:=h.ks _ hm;have:=h.kw;omega),h.clk.fr hF (fun hm=>by have:=h.ks _ hm;have:=h.kc;omega),hs,h.sch.fr hF (fun q hq hm=>by have:=h.ks _ hm;have:=h.kx q hq;omega),h.fo.fr hF (fun q hq hm=>by have:=h.ks _ hm;have:=h.kf q hq;omega),
   fU h.hd.lt h.kw,fU h.clk.hd.lt h.kc,xV h.ks (fun q hq=>h.st.lt q hq) hq,fun q hq=>fU (h.sch.lt q hq) (h.kx q hq),fun q hq=>fU (h.fo.lt q hq) (h.kf q hq)⟩
theorem dR.setSch(h:dR w pw pc ps px pf P Ks lx Lf cl){Q' :Nat->Option Int}{nq' :Nat}(hs:cJ w' px P.E Q' nq' lx')(hF:Fr lx w w')(hq:∀q∈lx', q∈lx∨w.heap.size<=q):∃cl', dR w' pw pc ps px pf { P with Q:=Q', nq:=nq' } Ks lx' Lf cl' :=by
 refine⟨fun q=>if q<w.heap.size then cl q else 3,hF.blk h.hd (fun hm=>by have:=h.kx _ hm;have:=h.kw;omega),h.clk.fr hF (fun hm=>by have:=h.kx _ hm;have:=h.kc;omega),h.st.fr hF (fun q hq hm=>by have:=h.kx _ hm;have:=h.ks q hq;omega),hs,h.fo.fr hF (fun q hq hm=>by have:=h.kx _ hm;have:=h.kf q hq;omega),
   fU h.hd.lt h.kw,fU h.clk.hd.lt h.kc,fun q hq=>fU (h.st.lt q hq) (h.ks q hq),xV h.kx (fun q hq=>h.sch.lt q hq) hq,fun q hq=>fU (h.fo.lt q hq) (h.kf q hq)⟩
theorem dR.setFo(h:dR w pw pc ps px pf P Ks lx Lf cl){G' :Nat->Option (Nat×Nat×Int)}(hs:FAt w' pf P.E P.V G' Lf')(hF:Fr Lf w w')(hq:∀q∈Lf', q∈Lf∨w.heap.size<=q):∃cl', dR w' pw pc ps px pf { P with G:=G' } Ks lx Lf' cl' :=by
 refine⟨fun q=>if q<w.heap.size then cl q else 4,hF.blk h.hd (fun hm=>by have:=h.kf _ hm;have:=h.kw;omega),h.clk.fr hF (fun hm=>by have:=h.kf _ hm;have:=h.kc;omega),h.st.fr hF (fun q hq hm=>by have:=h.kf _ hm;have:=h.ks q hq;omega),h.sch.fr hF (fun q hq hm=>by have:=h.kf _ hm;have:=h.kx q hq;omega),hs,
   fU h.hd.lt h.kw,fU h.clk.hd.lt h.kc,fun q hq=>fU (h.st.lt q hq) (h.ks q hq),fun q hq=>fU (h.sch.lt q hq) (h.kx q hq),xV h.kf (fun q hq=>h.fo.lt q hq) hq⟩
theorem dR.setClk(h:dR w pw pc ps px pf P Ks lx Lf cl){now' :Int}(hs:Clk w' pc P.m now')(hF:Fr [pc] w w'):dR w' pw pc ps px pf { P with now:=now' } Ks lx Lf cl:=by
 have hp:∀q,q∈[pc]->q=pc:=fun q hq=>by simpa using hq
 exact⟨hF.blk h.hd (fun hm=>by have:=hp _ hm;have:=h.kw;have:=h.kc;subst_vars;omega),hs,h.st.fr hF (fun q hq hm=>by have e:=hp _ hm;have:=h.ks q hq;have:=h.kc;rw[e]at *;omega),h.sch.fr hF (fun q hq hm=>by have e:=hp _ hm;have:=h.kx q hq;have:=h.kc;rw[e]at *;omega),h.fo.fr hF (fun q hq hm=>by have e:=hp _ hm;have:=h.kf q hq;have:=h.kc;rw[e]at *;omega),h.kw,h.kc,h.ks,h.kx,h.kf⟩
theorem dR.setN(h:dR w pw pc ps px pf P Ks lx Lf cl)(hF:Fr [pw] w w'){a g:Nat}(hb:Blk w' pw 38 [.int .i64 P.m,.int .i64 P.E,.int .i64 P.V,.int .i64 P.D,kG pc,iO ps,aS px,eO pf,.int .u64 a,.int .u64 g]):dR w' pw pc ps px pf { P with added:=a,gone:=g } Ks lx Lf cl:=by
 have hp:∀q,q∈[pw]->q=pw:=fun q hq=>by simpa using hq
 exact⟨hb,h.clk.fr hF (fun hm=>by have e:=hp _ hm;have:=h.kc;have:=h.kw;rw[e]at *;omega),h.st.fr hF (fun q hq hm=>by have e:=hp _ hm;have:=h.ks q hq;have:=h.kw;rw[e]at *;omega),h.sch.fr hF (fun q hq hm=>by have e:=hp _ hm;have:=h.kx q hq;have:=h.kw;rw[e]at *;omega),h.fo.fr hF (fun q hq hm=>by have e:=hp _ hm;have:=h.kf q hq;have:=h.kw;rw[e]at *;omega),h.kw,h.kc,h.ks,h.kx,h.kf⟩
end
def Wm.wp(W:Wm)(nq:Nat):Wp:={ m:=W.m,E:=W.E,V:=W.V,D:=W.D,now:=W.now,s:=W.s,Q:=W.Q,nq:=nq,G:=W.G,added:=W.s.last,gone:=W.gone }
def eP(w:World)(pw:Nat)(W:Wm)(K:List Nat):Prop:=W.Ok/\∃pc ps px pf nq Ks lx Lf cl,dR w pw pc ps px pf (W.wp nq) Ks lx Lf cl/\K=bY pw pc Ks lx Lf
section
variable {w w' :World} {pw:Nat} {W:Wm} {K S:List Nat}
theorem eP.fr(h:eP w pw W K)(hf:Fr S w w')(hs:∀q∈K,q∉S):eP w' pw W K:=by
 obtain⟨h0,pc,ps,px,pf,nq,Ks,lx,Lf,cl,h,rfl⟩:=h;exact⟨h0,pc,ps,px,pf,nq,Ks,lx,Lf,cl,h.fr hf hs,rfl⟩
theorem eP.fr0(h:eP w pw W K)(hf:Fr [] w w'):eP w' pw W K:=h.fr hf (by simp)
theorem eP.lt(h:eP w pw W K):∀q∈K,q<w.heap.size:=by
 obtain⟨h0,pc,ps,px,pf,nq,Ks,lx,Lf,cl,h,rfl⟩:=h;exact h.lt
end
end Go.Proofs.YtjdgpcjbgjnahaaGreatDoor
namespace Go.Proofs.YtjdgpcjbgjnahaaGreatDoor
open Go.RowKit Go.Lib Go.Sort
instance:Inhabited Lv:=⟨Lv.z⟩
def Tryz.laysSortL_ren:Go.Shelf.Ren:=⟨fun|6=>104|15=>147|14=>146|28=>193|29=>194|20=>185|21=>186|22=>187|23=>188|24=>189|25=>190|26=>191|27=>192|46=>215|47=>216|48=>217|49=>218|50=>219|57=>233|n=>n,fun|22=>59|24=>74|25=>162|3=>3|39=>27|0=>0|53=>23|55=>36|4=>4|46=>275|45=>274|50=>164|5=>5|9=>9|66=>292|70=>295|76=>302|77=>303|n=>n,fun|n=>n⟩
theorem Tryz.laysSortL:Go.Proofs.SlLaysF0.n6 Tryz.prog Tryz.laysSortL_ren:={
  mixed:=by kernel_rfl
  f6:=⟨Tryz.f104.name,by decide,Tryz.func104.trans (congrArg some (by kernel_rfl))⟩
  f14:=⟨Tryz.f146.name,by decide,Tryz.func146.trans (congrArg some (by kernel_rfl))⟩
  f15:=Tryz.func147.trans (congrArg some (by kernel_rfl))
  f20:=⟨Tryz.f185.name,by decide,Tryz.func185.trans (congrArg some (by kernel_rfl))⟩
  f21:=⟨Tryz.f186.name,by decide,Tryz.func186.trans (congrArg some (by kernel_rfl))⟩
  f22:=⟨Tryz.f187.name,by decide,Tryz.func187.trans (congrArg some (by kernel_rfl))⟩
  f23:=⟨Tryz.f188.name,by decide,Tryz.func188.trans (congrArg some (by kernel_rfl))⟩
  f24:=⟨Tryz.f189.name,by decide,Tryz.func189.trans (congrArg some (by kernel_rfl))⟩
  f25:=⟨Tryz.f190.name,by decide,Tryz.func190.trans (congrArg some (by kernel_rfl))⟩
  f26:=⟨Tryz.f191.name,by decide,Tryz.func191.trans (congrArg some (by kernel_rfl))⟩
  f27:=⟨Tryz.f192.name,by decide,Tryz.func192.trans (congrArg some (by kernel_rfl))⟩
  f28:=Tryz.func193.trans (congrArg some (by kernel_rfl))
  f29:=Tryz.func194.trans (congrArg some (by kernel_rfl))
  f46:=⟨Tryz.f215.name,by decide,Tryz.func215.trans (congrArg some (by kernel_rfl))⟩
  f47:=Tryz.func216.trans (congrArg some (by kernel_rfl))
  f48:=Tryz.func217.trans (congrArg some (by kernel_rfl))
  f49:=⟨Tryz.f218.name,by decide,Tryz.func218.trans (congrArg some (by kernel_rfl))⟩
  f50:=⟨Tryz.f219.name,by decide,Tryz.func219.trans (congrArg some (by kernel_rfl))⟩
  f57:=⟨Tryz.f233.name,by decide,Tryz.func233.trans (congrArg some (by kernel_rfl))⟩
  t0:=Tryz.underlying0
  a0:=Tryz.isAgg0
  z0:=Tryz.sizeOf0
  v0:=Tryz.zeroValue0
  t3:=Tryz.underlying3
  a3:=Tryz.isAgg3
  z3:=Tryz.sizeOf3
  v3:=Tryz.zeroValue3
  t4:=Tryz.underlying4
  a4:=Tryz.isAgg4
  z4:=Tryz.sizeOf4
  v4:=Tryz.zeroValue4
  t5:=Tryz.underlying5
  a5:=Tryz.isAgg5
  z5:=Tryz.sizeOf5
  v5:=Tryz.zeroValue5
  t9:=Tryz.underlying9
  a9:=Tryz.isAgg9
  z9:=Tryz.sizeOf9
  v9:=Tryz.zeroValue9
  t22:=Tryz.underlying59
  a22:=Tryz.isAgg59
  z22:=Tryz.sizeOf59
  v22:=Tryz.zeroValue59
  t25:=Tryz.underlying162
  a25:=Tryz.isAgg162
  z25:=Tryz.sizeOf162
  v25:=Tryz.zeroValue162
  t39:=Tryz.underlying27
  a39:=Tryz.isAgg27
  z39:=Tryz.sizeOf27
  v39:=Tryz.zeroValue27
  t45:=Tryz.underlying274
  a45:=Tryz.isAgg274
  z45:=Tryz.sizeOf274
  v45:=Tryz.zeroValue274
  t46:=Tryz.underlying275
  a46:=Tryz.isAgg275
  z46:=Tryz.sizeOf275
  v46:=Tryz.zeroValue275
  t50:=Tryz.underlying164
  a50:=Tryz.isAgg164
  z50:=Tryz.sizeOf164
  v50:=Tryz.zeroValue164
  t53:=Tryz.underlying23
  a53:=Tryz.isAgg23
  z53:=Tryz.sizeOf23
  v53:=Tryz.zeroValue23
  t55:=Tryz.underlying36
  a55:=Tryz.isAgg36
  z55:=Tryz.sizeOf36
  v55:=Tryz.zeroValue36
  t66:=Tryz.underlying292
  a66:=Tryz.isAgg292
  z66:=Tryz.sizeOf292
  v66:=Tryz.zeroValue292
  t70:=Tryz.underlying295
  a70:=Tryz.isAgg295
  z70:=Tryz.sizeOf295
  v70:=Tryz.zeroValue295
  t76:=Tryz.underlying302
  a76:=Tryz.isAgg302
  z76:=Tryz.sizeOf302
  v76:=Tryz.zeroValue302
  t77:=Tryz.underlying303
  a77:=Tryz.isAgg303
  z77:=Tryz.sizeOf303
  v77:=Tryz.zeroValue303 }
def rD(a b:Lv):Int:=if a.seq<b.seq then -1 else if b.seq<a.seq then 1 else 0
theorem xW(a b:Lv):ltOf rD a b=decide (a.seq<b.seq):=by
 unfold ltOf rD;by_cases h1:a.seq<b.seq
 · simp[h1]
 · by_cases h2:b.seq<a.seq<;>simp[h1,h2]
theorem aNV:SWO (ltOf rD) where
  irrefl x:=by rw[xW];simp
  trans x y z h1 h2:=by rw[xW]at *;simp at *;omega
  ntrans x y z h1 h2:=by rw[xW]at *;simp at *;omega
theorem aAQ(l:List Lv):(flatK lvC 7 l.toArray).toList=rowV l:=by
 refine List.ext_getElem? fun t=>?_;by_cases ht:t<l.length*7
 {
 have h7:t/7<l.length:=by omega
 have hm:t%7<7:=Nat.mod_lt _ (by omega);have h1:=wZ h7 (t%7) hm;rw[show t/7*7+t%7=t by omega]at h1;rw[h1,Array.getElem?_toList];have hc:t%7<(lvC l[t/7]).length:=by simp[lvC];omega
 rw[qK hc];simp only[flatK,List.size_toArray,Array.getElem?_map];rw[Array.getElem?_eq_getElem (by simpa using ht)];simp only[Array.getElem_range,Option.map_some];rw[getElem!_pos l.toArray (t/7) (by simpa using h7)];simp only[List.getElem_toArray];rw[getElem!_pos (lvC (l[t/7])) (t%7) hc]}
 · rw[zA (by simp;omega),zA (by rw[nZ];omega)]
theorem lM:∀{L l:List Lv},l.Perm L->L.Pairwise (fun a b=>a.seq<b.seq)->l.Pairwise (fun a b=>a.seq<=b.seq)->l=L
  | [],l,hp,_,_=>List.Perm.eq_nil hp
  | a::r,[],hp,_,_=>by have:=hp.length_eq;simp at this
  | a::r,b::t,hp,hL,hl=>by
    rw[List.pairwise_cons]at hL hl;have hb:b∈a::r:=hp.subset (List.mem_cons_self ..);have ha:a∈b::t:=hp.symm.subset (List.mem_cons_self ..);have e:b=a:=by
      rcases qB.1 hb with e|hb
      · exact e
      · rcases qB.1 ha with e | ha
        · exact e.symm
        · have h1 := hL.1 b hb
          have h2:=hl.1 a ha;omega
    subst e;rw[lM (List.Perm.cons_inv hp) hL.2 hl.2]
theorem xX(x:Int)(w:World):Calls Tryz.prog 148 #[.int .u64 x] w fun e w' =>e=.returned (.bool false)/\w' =w:=by
 go_enter Tryz.func148,Tryz.ntmps148
 go_wp2
 go_ret;exact⟨by simp,rfl⟩
theorem aGN(x y:Nat)(w:World):Calls Tryz.prog 106 #[.int .u64 x,.int .u64 y] w fun e w' =>e=.returned (.int .i64 (if x<y then -1 else if y<x then 1 else 0))/\w' =w:=by
 go_enter Tryz.func106,Tryz.ntmps106
 by_cases h1:x<y
 {
 have d1:decide ((x:Int)<(y:Int))=true:=qG (by omega);go_wp2_with (go_at_call 148;refine(xX _ _).mono ?_;rintro e w' ⟨rfl,rfl⟩)
 go_ret;exact⟨by simp[h1],rfl⟩}
 {
 have d1:decide ((x:Int)<(y:Int))=false:=qF (by omega);by_cases h2:y<x
 {
 have d2:decide ((y:Int)<(x:Int))=true:=qG (by omega);go_wp2_with (go_at_call 148;refine(xX _ _).mono ?_;rintro e w' ⟨rfl,rfl⟩)
 go_ret;exact⟨by simp[h1],rfl⟩}
 {
 have d2:decide ((y:Int)<(x:Int))=false:=qF (by omega);go_wp2_with (go_at_call 148;refine(xX _ _).mono ?_;rintro e w' ⟨rfl,rfl⟩)
 go_ret;exact⟨by simp[h1],rfl⟩}}
theorem aAR(a b:Lv)(w:World):Calls Tryz.prog 105 #[lvA a,lvA b] w fun e w' =>e=.returned (.int .i64 (rD a b))/\∃q os', w' =grow (w.drewN q) os' :=by
 have hcon:=fun W=>aGN a.seq b.seq W;have hr:rD a b=if a.seq<b.seq then -1 else if b.seq<a.seq then 1 else 0:=rfl;rw[<-hr]at hcon;generalize rD a b=r at *;have HC:=qA hcon;clear hr hcon;go_enter Tryz.func105,Tryz.ntmps105
 go_wp2_with (go_at_call 106;refine(HC.out _).mono ?_;rintro e w' ⟨rfl,rfl⟩)
 go_ret;exact⟨rfl,0,_,by rw[alloc_eq_grow,alloc_eq_grow,grow_grow];rfl⟩
theorem aJY(blk off size:Nat)(w:World):CmpLays Tryz.prog 105 #[] lvC 7 rD blk off size w:=
  fun _ _ _ _ x y=>aAR x y _
theorem aJZ(fv:Value)(w:World):Calls Tryz.prog 185 #[.slice none 0 0,.int .i64 0,.int .i64 0,fv] w fun e w' =>e=.returned (.tuple #[])/\w' =w:=by
 go_enter Tryz.func185,Tryz.ntmps185
 go_wp2
 refine wp_loop_rounds 1 ?_;rw[rounds_succ];go_wp2
 go_end0
 exact⟨rfl,rfl⟩
theorem aKA(k:Int)(fv:Value)(w:World):Calls Tryz.prog 146 #[.slice none 0 0,.int .i64 0,.int .i64 0,.int .i64 k,fv] w fun e w' =>e=.returned (.tuple #[])/\w' =w:=by
 go_enter Tryz.func146,Tryz.ntmps146
 go_wp2
 refine wp_loop_rounds 1 ?_;rw[rounds_succ];go_wp2_with (first|(go_at_call 185;refine(aJZ _ _).mono ?_;rintro e w' ⟨rfl,rfl⟩))
 refine bodyPost_ret (v:=.tuple #[]) (results_none rfl _ _ _) rfl ?_;exact⟨rfl,rfl⟩
theorem aGO(fv:Value)(w:World):Calls Tryz.prog 104 #[.slice none 0 0,fv] w fun e w' =>e=.returned (.tuple #[])/\w' =w:=by
 have h:=Any.bits_Len Tryz.laysLen 0 w (by omega) (by omega);have HL:=qA h;clear h;go_enter Tryz.func104,Tryz.ntmps104
 go_wp2_with fail
 refine HL.out.mono ?_;rintro _ _ ⟨rfl,rfl⟩;go_wp2_with fail
 refine(aKA _ _ _).mono ?_;rintro _ w1 ⟨rfl,rfl⟩;go_wp2
 go_end0
 exact⟨rfl,rfl⟩
theorem aGP{w:World}{v:Value}{l L:List Lv}(h:dJ w v l)(hn:l.length<=16384)(hp:l.Perm L)(hs:L.Pairwise fun a b=>a.seq<b.seq):
    Calls Tryz.prog 104 #[v,.func (.func 105) #[] #[]] w fun e w' =>e=.returned (.tuple #[])/\dJ w' v L/\Fr v.ownBlock.toList w w' :=by
 have hl:=h.1;rcases h.2 with⟨rfl,h0⟩|⟨g,cap,cur,rfl,hg,hcur,hnc,hcm,hcs,htk⟩
 {
 have:l=[]:=List.length_eq_zero_iff.1 (by simpa using h0);subst this;have hL:L=[]:=List.Perm.eq_nil hp.symm;subst hL;refine(aGO _ w).mono ?_;rintro _ w' ⟨rfl,rfl⟩;exact⟨rfl,h,Fr.refl _ _⟩}
 {
 have eg:∀args w,(callFunc 105 args).run Tryz.prog w=.ok (.enter 105 args) w:=enters_of Tryz.func105 (by kernel_rfl) rfl;have hH:HoldsK lvC 7 w g 0 l.toArray:=by {
 intro j hj;have hj' :j<l.length*7:=by simpa using hj
 refine⟨?_,by simp[World.frozen?,hcur]⟩;have h1:(cur.toList.take (l.length*7))[j]? =(rowV l)[j]? :=by rw[htk]
 rw[List.getElem?_take_of_lt hj']at h1;simp only[World.cell?,hcur,Nat.zero_add];simp only[Option.isSome_none,Bool.false_eq_true,if_false];rw[<-Array.getElem?_toList,h1,<-aAQ,Array.getElem?_toList,getElem!_pos _ j hj,Array.getElem?_eq_getElem hj];rfl};have hcon:=AnyQ.slices_SortFunc Tryz.laysSortL 7 Tryz.isAgg74 Tryz.sizeOf74 lvC (fun _=>rfl) (fun x u hu=>by simp[lvC]at hu;rcases hu with rfl|rfl|rfl|rfl|rfl|rfl|rfl<;>rfl) rD aNV 105 #[] g 0 cap l.toArray w eg (aJY g 0 l.toArray.size w) hH (qL.1 hcur).1 (by simp;omega);rw[List.size_toArray]at hcon;refine hcon.mono ?_;rintro _ w' ⟨rfl,d', m,os,hperm,hsort,rfl⟩;obtain⟨hsz,_,hpp⟩:=hperm;simp only[List.size_toArray]at hsz;have e1:d'.extract 0 l.length=d' :=by rw[<-hsz];simp
 have e2:l.toArray.extract 0 l.length=l.toArray:=by simp
 rw[e1,e2]at hpp;have hd:d'.toList=L:=by {
 refine lM (hpp.trans hp) hs ?_;rw[List.pairwise_iff_getElem];intro i j hi hj hij;have hi' :i<d'.size:=by simpa using hi
 have hj' :j<d'.size:=by simpa using hj
 have:=hsort i j (qR _) hij (by omega);rw[xW,getElem!_pos d' i hi', getElem!_pos d' j hj']at this;simp only[decide_eq_false_iff_not]at this;simp only[Array.getElem_toList];omega};have hda:d' =L.toArray:=by rw[<-hd]
 subst hda;have hLl:L.length=l.length:=by simpa using hsz
 have hb:(sortWorldK lvC 7 w g 0 m L.toArray os).heap[g]? =some (.cells (putCells id 0 (flatK lvC 7 L.toArray) cur) 74 (0,0)):=by {
 unfold sortWorldK putRowK;rw[heap_grow_old _ _ (by simpa using (qL.1 hcur).1)];simp[putRow,mapBlock,Sort.ahead,Array.getElem?_modify,hcur,onCells]};refine⟨rfl,⟨by rw[nZ],.inr ⟨g,cap,_,by rw[hLl],qR _,hb,by omega,hcm,by simp[putCells,hcs],?_⟩⟩,?_⟩
 {
 rw[<-aAQ];refine List.ext_getElem? fun j=>?_;by_cases hj:j<L.length*7
 {
 rw[List.getElem?_take_of_lt hj,Array.getElem?_toList,Array.getElem?_toList];have hjc:j<cur.size:=by rw[hcs];omega
 have hjf:j<(flatK lvC 7 L.toArray).size:=by simpa using hj
 simp only[putCells,Array.getElem?_mapIdx,Array.getElem?_eq_getElem hjc,Option.map_some,qR,true_and,Nat.zero_add,qD hjf,Nat.sub_zero];rw[getElem!_pos _ j hjf,Array.getElem?_eq_getElem hjf];rfl}
 · rw[List.getElem?_take_eq_none (by omega),zA (by simp;omega)]}
 {
 refine(Fr.refl _ _).grown (row:=some g) ⟨rfl,rfl,rfl,by simp[sortWorldK,putRowK],fun k hk hne=>?_⟩ (fun k e=>.inl (by simp at e;simp[e,Value.ownBlock]));unfold sortWorldK putRowK;rw[heap_grow_old _ _ (by simpa using hk)];have:g≠k:=fun e=>hne (by rw[e]);simp[putRow,mapBlock,Sort.ahead,Array.getElem?_modify,this]}}
end Go.Proofs.YtjdgpcjbgjnahaaGreatDoor
namespace Go.Proofs.YtjdgpcjbgjnahaaGreatDoor
open Go.RowKit
theorem aGQ{s:Sm}(h:s.Ok):((kP s.A).map (aG s.L)).Perm s.L:=by
 have h1:(kP s.A).Perm (s.L.map (·.slot)):=(List.perm_ext_iff_of_nodup (pU s.A) h.one).2 fun i=>by rw[pF,h.used];simp
 have h2:=h1.map (aG s.L);rw[List.map_map]at h2;have h3:s.L.map (aG s.L ∘ fun e=>e.slot)=s.L:=by {
 (conv=>rhs;rw[<-List.map_id s.L])
 exact List.map_congr_left fun e he=>fN h.one he};rw[h3]at h2;exact h2
section
variable {w w' :World} {ps:Nat} {s:Sm} {K:List Nat}
theorem aNW(h:bH w ps s K):Calls Tryz.prog 65 #[iO ps] w fun e w' =>∃v,e=.returned v/\dJ w' v s.L/\(∀q,v.ownBlock=some q->w.heap.size<=q)/\Fr [] w w' :=by
 have HV:=qA (kX h);obtain⟨pa,pt,mb,n,vl,la,lT,lb,c,hB,rfl,c0,c1,c2,c3,c4,c5,c6⟩:=h.open;have HL:=qA (aBW hB.ar);have HB:=qA hB;have HLT:=qA hB.lt;clear h hB c0 c1 c2 c4 c6;go_enter Tryz.func65,Tryz.ntmps65
 go_wp2_with fail
 refine HV.out.mono ?_;rintro _ w ⟨rfl,rfl⟩;go_wp2_with fail
 refine HL.out.mono ?_;rintro _ w1 ⟨v,rfl,hown,hnew,hF1⟩;have hrow:dK w1 v (kP s.A):=hown;obtain⟨av,cv,rfl⟩:=hrow.slice;obtain⟨U,hU⟩:∃U,U=kP s.A:=⟨_,rfl⟩;have hUu:∀i∈U,aG s.L i∈s.L/\(aG s.L i).slot=i:=fun i hi=>by
   rw[hU,pF]at hi;exact Sm.live_used HB.out.ok hi
 have hperm:=aGQ HB.out.ok;have hUl:U.length<=16384:=by {
 rw[hU,vE HB.out.ok.ar];have h2:=HB.out.ok.ar.hb;have h3:=HB.out.ok.sl;have h4:=HB.out.ok.leE;unfold Ar.used;omega};rw[<-hU]at hown hrow hperm hnew ⊢;clear hU hown HL HV;have HU:=qA (zH hUu (zH hperm hUl));clear hUu hperm;have HR:=qA (zH hrow (zH hnew hF1));clear hrow hnew hF1;go_wp2_with fail
 go_loopw [3,15] (fun x y wr=>∃(k:Nat) (v' :Value),k<=U.length/\y=.int .i64 k/\x=v' /\ Hid (dJ wr v' ((U.take k).map (aG s.L))/\(∀q,v'.ownBlock=some q->w1.heap.size<=q)/\Fr [] w1 wr)) (fun _ y _=>U.length-(intOf y).toNat)
 case atStart=>exact⟨0,_,qR _,rfl,rfl,qA ⟨dJ.nil _,fun q e=>(by cases e),Fr.refl _ _⟩⟩
 case round=>
  obtain⟨k,v', hk,rfl,rfl,HS⟩:=hrel;rename World=>wr
  by_cases hlt:k<U.length
  {
  have hki:(k:Int)<U.length:=by omega
  obtain⟨bI,cI,eI,hbI,hcI⟩:=(HR.out.1.fr0 HS.out.2.2).at hlt;simp only[qO,true_and]at eI;obtain⟨rfl,rfl⟩:=eI;obtain⟨x,hx⟩:∃x,x=U[k]:=⟨_,rfl⟩;obtain⟨hm,hs⟩:=HU.out.1 x (by rw[hx];exact List.getElem_mem hlt);have hxn:x<n:=by have:=HB.out.sn _ hm;omega
  have hxi:(x:Int)<n:=by omega
  have hF:Fr [] w wr:=HR.out.2.2.trans' HS.out.2.2;obtain⟨b,cap,ev,_,hb,hz,hat⟩:=(HB.out.lv.fr0 hF).at (i:=x) (by simp;omega);simp only[List.length_map,List.length_range]at ev;have k5:=hF.cell c5 (by simp);rw[ev]at k5;simp only[List.getElem_map,List.getElem_range]at hat;rw[<-hx]at hcI;obtain⟨e,he⟩:∃e,e=aG s.L x:=⟨_,rfl⟩;rw[<-he]at hat;have HE:=qA (zH he hx);clear he hx hm hs hz;obtain⟨e0,e1,e2,e3,e4,e5,e6⟩:=hat;obtain⟨ar,cr,er⟩:=HS.out.1.slice;have hlk:((U.take k).map (aG s.L)).length=k:=by simp;omega
  rw[hlk]at er;subst er;have hrow:(wr.alloc (.cells (lvC e).toArray 74)).ownsRow 0 74 7 (.slice ar k cr) k (rowV ((U.take k).map (aG s.L))):=by {
  have:=HS.out.1.fr0 ((Fr.refl [] wr).alloc (.cells (lvC e).toArray 74));unfold dJ at this;rw[hlk]at this;exact this};have HRW:=qA hrow;clear hrow;have HZ:=qA (Blk.new wr (lvC e) 74);have H7:=qA (show ∀u∈lvC e,u.oneCell' =true from fun u hu=>by simp[lvC]at hu;rcases hu with rfl|rfl|rfl|rfl|rfl|rfl|rfl<;>rfl);have hUl2:=HU.out.2.2;go_wp2_with (first|(at_builtin;refine kW rfl _ _ 59 rfl 74 wY 7 56 Tryz.underlying59 Tryz.info74 rfl (by decide) (.slice ar k cr) k _ rfl HRW.out wr.heap.size 74 (lvC e) rfl HZ.out rfl H7.out (by omega) (by decide) ?_;intro g' cap' w6 hown6 hgrow6 hg6;have hF6:Fr (Value.slice ar k cr).ownBlock.toList (wr.alloc (.cells (lvC e).toArray 74)) w6:=(Fr.refl _ _).grown hgrow6 (fun q e=>.inl (by simp[e])))|fail)
  go_roundw
  case rel=>
   have hs6:=hF6.size;have hown7:dJ w6 (.slice (some ⟨g', 0,none⟩) (k+1) cap') ((U.take (k+1)).map (aG s.L)):=by {
   rw[List.take_add_one,qK hlt,Option.toList_some,List.map_append,List.map_cons,List.map_nil,<-HE.out.2,<-HE.out.1];unfold dJ;rw[vJ,zE,hlk];exact hown6};refine⟨k+1,_,by omega,by go_num,rfl,qA ⟨hown7,?_,?_⟩⟩
   {
   intro q hq;simp only[Value.ownBlock,qI]at hq;subst hq;rcases hg6 with h6|h6
   · exact HS.out.2.1 _ h6
   {
   have:=HS.out.2.2.size;simp only[World.size_alloc]at h6;omega}}
   · exact(HS.out.2.2.alloc _).trans hF6 (fun q hq=>.inr (HS.out.2.1 q (by simpa using hq)))
  case measure=>simp[intOf];omega}
  {
  obtain rfl:k=U.length:=by omega
  have hrow:=HS.out.1;rw[List.take_length]at hrow;have HSO:=qA (aGP hrow (by rw[List.length_map];exact HU.out.2.2) HU.out.2.1 HB.out.ok.seq);clear hrow;go_wp2_with fail
  refine HSO.out.mono ?_;rintro _ w9 ⟨rfl,hr9,hF9⟩;have HR9:=qA (zH hr9 hF9);clear hr9 hF9;go_wp2
  go_ret;have hs1:=HR.out.2.2.size;refine⟨_,rfl,HR9.out.1,fun q hq=>zG hs1 (HS.out.2.1 q hq),?_⟩;exact(HR.out.2.2.trans' HS.out.2.2).trans HR9.out.2 (fun q hq=>.inr (zG hs1 (HS.out.2.1 q (by simpa using hq))))}
end
abbrev eQ(p:Nat):Value:=.pointer (some ⟨p,0,none⟩)
section
variable {w w' :World} {pw pc ps px pf:Nat} {P:Wp} {Ks lx Lf:List Nat} {cl:Nat->Nat}
theorem eS(h:dR w pw pc ps px pf P Ks lx Lf cl):Calls Tryz.prog 57 #[eQ pw] w fun e w' =>e=.returned (.bool true)/\w' =w:=by
 have c4:=h.hd.cell 4;simp only[zI,zJ]at c4;clear h;go_enter Tryz.func57,Tryz.ntmps57
 go_wp2
 go_ret;exact⟨rfl,rfl⟩
theorem aQU(h:dR w pw pc ps px pf P Ks lx Lf cl):Calls Tryz.prog 29 #[eQ pw] w fun e w' =>e=.returned (.int .i64 P.now)/\w' =w:=by
 have HV:=qA (eS h);have HN:=qA (aQS h.clk);have c4:=h.hd.cell 4;simp only[zI,zJ]at c4;clear h;go_enter Tryz.func29,Tryz.ntmps29
 go_wp2_with fail
 refine HV.out.mono ?_;rintro _ w ⟨rfl,rfl⟩;go_wp2_with fail
 refine HN.out.mono ?_;rintro _ w ⟨rfl,rfl⟩;go_wp2
 go_ret;exact⟨rfl,rfl⟩
theorem aNX(h:dR w pw pc ps px pf P Ks lx Lf cl):Calls Tryz.prog 34 #[eQ pw] w fun e w' =>∃v,e=.returned v/\dJ w' v P.s.L/\(∀q,v.ownBlock=some q->w.heap.size<=q)/\Fr [] w w' :=by
 have HV:=qA (eS h);have HL:=qA (aNW h.st);have c5:=h.hd.cell 5;simp only[zI,zJ]at c5;clear h;go_enter Tryz.func34,Tryz.ntmps34
 go_wp2_with fail
 refine HV.out.mono ?_;rintro _ w ⟨rfl,rfl⟩;go_wp2_with fail
 refine HL.out.mono ?_;rintro _ w1 ⟨v,rfl,h1⟩;have H1:=qA h1;clear h1;go_wp2
 go_ret;exact⟨v,rfl,H1.out⟩
end
section
variable {w w' :World} {pf S V:Nat} {G:cW} {L:List Nat}
theorem FAt.fo(h:FAt w pf S V G L):FO { w with heap:=#[] } w pf S V G L:=
  ⟨h,⟨rfl,rfl,rfl,qR _,fun b hb=>absurd hb (Nat.not_lt_zero _)⟩,fun q _=>qR _⟩
def FMv(w w' :World)(pf S V:Nat)(G:cW)(L:List Nat):Prop:=∃L', FAt w' pf S V G L' /\ Fr L w w' /\ ∀q∈L', q∈L∨w.heap.size<=q
theorem FM.mv{w0:World}{G' :cW}(h:FM w0 w w' pf S V G' L):FMv w w' pf S V G' L:=by
 obtain⟨L', h1,h2,h3⟩:=h;exact⟨L', h1.f,h2,h3⟩
theorem aQV(h:FAt w pf S V G L)(s a b x:Int)(hx:-9223372036854775808<=x/\x<=9223372036854775807):
    Calls Tryz.prog 138 #[eO pf,.int .i64 s,.int .i64 a,.int .i64 b,.int .i64 x] w fun e w' =>e=.returned (.int .i64 (eE S V G s a b))/\FMv w w' pf S V (rQ S V G s a b x) L:=
  (aQO h.fo s a b x hx).mono fun _ _ h=>⟨h.1,h.2.mv⟩
theorem aQW(h:FAt w pf S V G L):Calls Tryz.prog 108 #[eO pf] w fun e w' =>e=.returned (.tuple #[.int .i64 ((oM G).getD 0:Nat),.bool (oM G).isSome])/\FMv w w' pf S V (uU G) L:=
  (aQP h.fo).mono fun _ _ h=>⟨h.1,h.2.mv⟩
end
section
variable {w w' :World} {pw pc ps px pf:Nat} {P:Wp} {Ks lx Lf:List Nat} {cl:Nat->Nat}
end
section
variable {w w' :World} {ph px slots n:Nat} {Q:Nat->Option Int} {l S:List Nat}
theorem aKB(h:dH w ph slots Q n l){i:Nat}(hi:i<slots)(hQ:Q i=none):
    Calls Tryz.prog 209 #[aS ph,.int .i64 i] w fun e w' =>e=.returned (.tuple #[.int .i64 0,.int .i64 5])/\w' =w:=by
 obtain⟨e,pl,v,gp,cp,bs,hm,hk,hp,hq,rfl⟩:=h;have hpl:pl i=0:=by {
 apply qP;intro h0;obtain⟨p,hpn,hpe⟩:=hk.inv i h0;have:=(hq i (e p).2).2 ⟨p,hpn,by rw[<-hpe]⟩;rw[hQ]at this;cases this};have HV:=qA (lH hm);have HH:=qA (aJL hm hi);have hP:=aEG hm hi;rw[hpl]at hP;have HP:=qA hP;have t1:(((0:Nat):Int)-1 == -1)=true:=by decide
 have t2:((0:Int)-1 == -1)=true:=by decide
 clear hm hk hp hq hQ hpl hP;go_enter Tryz.func209,Tryz.ntmps209
 go_wp2_with fail
 refine HV.out.mono ?_;rintro _ w ⟨rfl,rfl⟩;go_wp2_with fail
 refine HH.out.mono ?_;rintro _ w ⟨rfl,rfl⟩;go_wp2_with fail
 refine HP.out.mono ?_;rintro _ w ⟨rfl,rfl⟩;go_wp2
 go_ret2;exact⟨rfl,rfl⟩
theorem aNY(h:dH w ph slots Q n l){i:Nat}(hi:i<slots)(hQ:Q i=none):
    Calls Tryz.prog 208 #[aS ph,.int .i64 i] w fun e w' =>e=.returned (.tuple #[.int .i64 0,.bool false])/\w' =w:=by
 have HF:=qA (aKB h hi hQ);clear h hQ;go_enter Tryz.func208,Tryz.ntmps208
 go_wp2_with fail
 refine HF.out.mono ?_;rintro _ w ⟨rfl,rfl⟩;go_wp2
 go_ret2;exact⟨rfl,rfl⟩
theorem aNZ{bs bi bt:Nat}(h:cJ w px slots Q n l){i:Nat}(hi:i<slots)(hQ:Q i=none)(x:Int)(cs:w.cell? ⟨bs,0,none⟩=some (aS px))(ci:w.cell? ⟨bi,0,none⟩=some (.int .i64 i))(ct:w.cell? ⟨bt,0,none⟩=some (.int .i64 x)):
    Calls Tryz.prog 175 #[.bool false,.pointer (some ⟨bs,0,none⟩),.pointer (some ⟨bi,0,none⟩),.pointer (some ⟨bt,0,none⟩)] w fun e w' =>e=.returned (.int .i64 0)/\∃l', cJ w' px slots (mQ Q i (some x)) (n+1) l' /\ Fr l w w' /\ ∀b∈l', b∈l∨w.heap.size<=b:=by
 obtain⟨ph,lh,h1,h2,h3,rfl⟩:=h;have c1:=h1.cell 1;simp only[zI,zJ]at c1;have HP:=qA (fun(nq:Nat)=>aEL (h2.fr ((Fr.refl [] w).drewN nq) (by simp)) hi hQ x);have HX:=qA (zH h1 (zH h2 h3));clear h1 h2 h3 hQ;go_enter Tryz.func175,Tryz.ntmps175
 go_wp2_with fail
 refine bF 6 (fun w' =>∃lh', dH w' ph slots (mQ Q i (some x)) (n+1) lh' /\ Fr lh w w' /\ ∀b∈lh', b∈lh∨w.heap.size<=b) (by kernel_rfl) (by kernel_rfl) (by kernel_rfl) ?_;iterate 6 (refine bO (by decide) (fun K hK=>?_);go_simp;refine hK _ ?_;clear hK K)
 refine aW rfl (.int .i64 0) (fun w' hw' =>?_) ?_
 {
 obtain⟨nq,rfl⟩:=hw';go_simp;refine(HP.out nq).mono ?_;rintro _ w1 ⟨rfl,lh', k1,k2,k3⟩;exact⟨rfl,lh', k1,((Fr.refl lh w).drewN nq).trans' k2,fun b hb=>(k3 b hb).imp id (fun e=>by simpa using e)⟩};iterate 1 (refine eA (by decide) (fun K hK=>?_);go_simp;refine hK _ ?_;clear hK K)
 refine bP ?_;rintro w1 ⟨lh', k1,k2,k3⟩;have HK:=qA (zH k1 (zH k2 k3));clear k1 k2 k3 cs ci ct c1;go_wp2
 go_ret;refine⟨rfl,px::lh', ⟨ph,lh', HK.out.2.1.blk HX.out.1 HX.out.2.2,HK.out.1,fun hm=>?_,rfl⟩,HK.out.2.1.mono (by simp +contextual),fun b hb=>?_⟩
 {
 rcases HK.out.2.2 _ hm with h|h
 · exact HX.out.2.2 h
 · have:=HX.out.1.lt;omega}
 {
 rcases qB.1 hb with rfl|hb
 · exact .inl (by simp)
 · exact(HK.out.2.2 b hb).imp (fun h=>by simp[h]) id}
theorem aOA(h:cJ w px slots Q n l){i:Nat}(hi:i<slots)(hQ:Q i=none){a b c:Value}{R:World->Prop}(hc:Calls Tryz.prog 175 #[.bool false,a,b,c] w fun e w' =>e=.returned (.int .i64 0)/\R w'):
    Calls Tryz.prog 174 #[aS px,.int .i64 i,.func (.func 175) #[] #[a,b,c]] w fun e w' =>e=.returned (.int .i64 0)/\R w' :=by
 have HV:=qA (oQ h);obtain⟨ph,lh,h1,h2,h3,rfl⟩:=h;have HK:=qA (aNY h2 hi hQ);have HC:=qA hc;have k0:=h1.cell 0;have k1:=h1.cell 1;simp only[zI,zJ]at k0 k1;clear h1 h2 h3 hQ hc;have d1:decide ((i:Int)<0)=false:=qF (by omega);have d2:decide ((i:Int)≥slots)=false:=qF (by omega);go_enter Tryz.func174,Tryz.ntmps174
 go_wp2_with fail
 refine HV.out.mono ?_;rintro _ w ⟨rfl,rfl⟩;go_wp2_with fail
 refine HK.out.mono ?_;rintro _ w ⟨rfl,rfl⟩;go_wp2_with fail
 refine HC.out.mono ?_;rintro _ w1 ⟨rfl,hR⟩;have HR:=qA hR;clear hR k0 k1;go_wp2
 go_ret;exact⟨rfl,HR.out⟩
theorem aQX(h:cJ w px slots Q n l){i:Nat}(hi:i<slots)(hQ:Q i=none)(x:Int):
    Calls Tryz.prog 137 #[aS px,.int .i64 i,.int .i64 x] w fun e w' =>e=.returned (.int .i64 0)/\∃l', cJ w' px slots (mQ Q i (some x)) (n+1) l' /\ Fr l w w' /\ ∀b∈l', b∈l∨w.heap.size<=b:=by
 have b1:=Blk.new w [aS px] 34;have b2:=Blk.new (w.alloc (.cells #[aS px] 34)) [.int .i64 i] 3;have b3:=Blk.new ((w.alloc (.cells #[aS px] 34)).alloc (.cells #[.int .i64 i] 3)) [.int .i64 x] 2;have hF:Fr [] w (((w.alloc (.cells #[aS px] 34)).alloc (.cells #[.int .i64 i] 3)).alloc (.cells #[.int .i64 x] 2)):=(((Fr.refl _ _).alloc _).alloc _).alloc _;have hs:(((w.alloc (.cells #[aS px] 34)).alloc (.cells #[.int .i64 i] 3)).alloc (.cells #[.int .i64 x] 2)).heap.size=w.heap.size+3:=by simp
 have y1:=((b1.alloc (.cells #[.int .i64 i] 3)).alloc (.cells #[.int .i64 x] 2)).cell 0;have y2:=(b2.alloc (.cells #[.int .i64 x] 2)).cell 0;have y3:=b3.cell 0;simp only[zI,World.size_alloc]at y1 y2 y3;have HW:=qA (aOA (h.fr0 hF) hi hQ (aNZ (h.fr0 hF) hi hQ x y1 y2 y3));have HF:=qA hF;clear b1 b2 b3 hF h hQ y2 y3;go_enter Tryz.func137,Tryz.ntmps137
 go_wp2_with fail
 refine HW.out.mono ?_;rintro _ w1 ⟨rfl,l', k1,k2,k3⟩;have HK:=qA (zH k1 (zH k2 k3));clear k1 k2 k3 y1;go_wp2
 go_ret;exact⟨rfl,l', HK.out.1,(HF.out.mono (by simp)).trans' HK.out.2.1,fun b hb=>(HK.out.2.2 b hb).imp id (fun e=>by omega)⟩
theorem aOB(h:cJ w px slots Q n l):Calls Tryz.prog 77 #[aS px] w fun e w' =>∃p', e=.returned (aS p')/\∃l', cJ w' p' slots Q n l' /\ Fr [] w w' /\ ∀b∈l', w.heap.size<=b:=by
 have h0:=h;obtain⟨ph,lh,h1,h2,h3,rfl⟩:=h;have c0:=h1.cell 0;have c1:=h1.cell 1;simp only[zI,zJ]at c0 c1;have HV:=qA (oQ h0);have HC:=qA (aNT (h2.fr (Fr.refl [] w).drew (by simp)));clear h0 h1 h2 h3;go_enter Tryz.func77,Tryz.ntmps77
 go_wp2_with fail
 refine HV.out.mono ?_;rintro _ w ⟨rfl,rfl⟩;go_wp2_with fail
 go_region_held3 (fun w' => w'.cell? ⟨px, 0, none⟩ = some (.int .i64 slots) /\ w'.cell? ⟨px, 1, none⟩ = some (aS ph))
   (first
     | go_keep
     | exact⟨hF4.cell c0 (by simp),hF4.cell c1 (by simp)⟩)
   (first|(go_at_call 121;with_reducible refine HC.out.mono ?_;rintro e w4 ⟨p4,rfl,l4,hH4,hF4,hN4⟩))
 all_goals
  have hb:=Blk.new w4 [.int .i64 slots,aS p4] 179;have hF:Fr [] w (w4.alloc (.cells #[.int .i64 slots,aS p4] 179)):=((Fr.refl [] w).drew.trans' hF4).alloc _;have hs4:=hF4.size;have HB:=qA (zH hb (zH hF (zH hH4 hN4)));clear hb hF hH4 hN4;go_wp2
  go_ret;refine⟨_,rfl,_,⟨p4,l4,HB.out.1,HB.out.2.2.1.fr ((Fr.refl [] _).alloc _) (by simp),fun hm=>by have:=HB.out.2.2.1.lt _ hm;omega,rfl⟩,HB.out.2.1,fun b hb=>?_⟩;rcases qB.1 hb with rfl|hb
  · simpa using hs4
  · simpa using HB.out.2.2.2 b hb
end
end Go.Proofs.YtjdgpcjbgjnahaaGreatDoor
