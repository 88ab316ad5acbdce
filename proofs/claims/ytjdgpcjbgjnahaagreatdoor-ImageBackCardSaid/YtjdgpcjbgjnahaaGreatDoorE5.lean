/- lct: a node of a splay tree and what lies about it; rotation. -/
import Derived.Test.YtjdgpcjbgjnahaaGreatDoorE4
import Derived.Deep.RegionHeld3
import Derived.StillTailTactics
import Derived.Shelf.SlicesE.Index
import Derived.Shelf.SlicesG.Delete
import Derived.Sort.OwnSortedInts
import Derived.Deep.QuietTactic
import Derived.BigQuiet
set_option maxRecDepth 10000
set_option maxHeartbeats 1600000
set_option linter.unusedSimpArgs false
set_option linter.unusedVariables false
/- store: Insert. -/
namespace Go.Proofs.YtjdgpcjbgjnahaaGreatDoor
open Go.RowKit
def zL(w:World)(ps:Nat):Nat:=match w.cell? ⟨ps,5,none⟩ with
  | some (.slice _ m _)=>m
  | _=>0
theorem uK{w:World}{ps m cap:Nat}{a:Option Addr}(h:w.cell? ⟨ps,5,none⟩=some (.slice a m cap)):zL w ps=m:=by unfold zL;rw[h]
theorem aIW{L:List Lv}{n n' :Nat}(hs:∀e∈L,e.slot<n)(hn:n<=n'):(List.range (n' + 1)).map (aF L)=(List.range n').map (aF L)++[Lv.z]:=by
 rw[List.range_succ,List.map_append,List.map_cons,List.map_nil,sA (fun e he=>by have:=hs e he;omega)]
theorem Blk.put7{w:World}{b:Nat}{t:TypeId}{v0 v1 v2 v3 v4 v5 v6:Value}(h:Blk w b t [v0,v1,v2,v3,v4,v5,v6])(e:Lv):Blk (put7 w b 0 e) b t (lvC e):=
  ((((((h.set 0 (.int .i64 e.slot)).set 1 (.int .u64 e.seq)).set 2 (.int .u64 e.u)).set 3 (.int .u64 e.v)).set 4 (.int .i64 e.wt)).set 5 (.int .i64 e.t)).set 6 (.int .i64 e.x)
theorem aIX(w:World):(zeroValue 158).run Tryz.prog w=.ok gG w:=by kernel_rfl
def nH(w7:World)(ps pt mb:Nat)(v7:Value)(la lT lb:List Nat)(M:Md)(f:Nat->List Nat)(n:Nat)(wr:World):Prop:=
  ∃lT' lb' c', Cls c' ps mb v7 la lT' lb' /\ gV wr pt M lT' /\ oV wr mb f n lb' /\ Fr (mb::(lT++lb)) w7 wr/\(∀q∈lT', q∈lT∨w7.heap.size<=q)/\∀q∈lb', q∈lb∨w7.heap.size<=q
section
variable {w7 wr:World} {ps pt mb n:Nat} {v7:Value} {la lT lb:List Nat} {M:Md} {f:Nat->List Nat}
theorem aGO(hps:ps<w7.heap.size)(hla:∀b∈la,b<w7.heap.size)(hv7:∀q,v7.ownBlock=some q->q<w7.heap.size)(h:nH w7 ps pt mb v7 la lT lb M f n wr){id:Nat}(hid:id<U64):
    Calls Tryz.prog 173 #[ptr pt,.int .u64 id] wr fun e w' =>∃r,e=.returned r/\nH w7 ps pt mb v7 la lT lb (M.put id).M f n w' /\ Fr (mb::(lT++lb)) w7 w' :=by
 obtain⟨lT', lb', c', hc,hT,hI,hF,h5,h6⟩:=h;refine(aPY id hid hT).mono ?_;rintro _ w' ⟨rfl,l', hT', hN1,hN2⟩;have hlt:=hT.lt;have hlb:=hI.ltb;have hml:=hI.ltm;have hsz:=hF.size;have e1:=hN1.size;have hF' :Fr (mb::(lT++lb)) w7 w' :=hF.trans hN1 (fun q hq=>(h5 q hq).imp (fun e=>by simp[e]) (fun e=>e));refine⟨_,rfl,⟨l', lb', fun x=>if x<wr.heap.size then c' x else 3,⟨?_,?_,?_,?_,?_,?_⟩,hT', ?_,hF', ?_,h6⟩,hF'⟩
 · rw[qD (by omega)];exact hc.p
 · rw[qD hml];exact hc.m
 · intro b hb;rw[qD (by have:=hla b hb;omega)];exact hc.a b hb
 {
 intro b hb;rcases hN2 b hb with e|e
 · rw[qD (hlt b e)];exact hc.t b e
 · rw[qC (by omega)]}
 · intro q hq;rw[qD (by have:=hv7 q hq;omega)];exact hc.l q hq
 · intro b hb;rw[qD (hlb b hb)];exact hc.b b hb
 {
 refine hI.fr hN1 (fun hm=>?_) (fun b hb hm=>?_)
 · have e1:=hc.t mb hm;have e2:=hc.m;omega
 · have e1:=hc.t b hm;have e2:=hc.b b hb;omega}
 {
 intro q hq;rcases hN2 q hq with e|e
 · exact h5 q e
 · exact .inr (by omega)}
theorem tB(hps:ps<w7.heap.size)(hla:∀b∈la,b<w7.heap.size)(hv7:∀q,v7.ownBlock=some q->q<w7.heap.size){lT' lb' :List Nat}{c' :Nat->Nat}{iv:Int->Option Value}(hc:Cls c' ps mb v7 la lT' lb')(hT:gV wr pt M lT')(hI:oC wr mb iv f n lb')(hF:Fr (mb::(lT++lb)) w7 wr)
    (h5:∀q∈lT', q∈lT∨w7.heap.size<=q) (h6:∀q∈lb', q∈lb∨w7.heap.size<=q) {id:Nat} (hid:id<U64) {w8 w9:World} {v1:Value} {l1:List Nat} {n2:Nat} (h1:dO w8 v1 l1) (hne:l1≠[])
    (hF1:Fr ((iv id).getD gG).ownBlock.toList wr w8) (hq:∀q,v1.ownBlock=some q->((iv id).getD gG).ownBlock=some q∨wr.heap.size<=q)
    (hM:dA Tryz.prog 36 .u64 okS w9 mb (jY iv id (some v1)) n2) (hF2:Fr [mb] w8 w9):nH w7 ps pt mb v7 la lT lb M (nG f id l1) n2 w9:=by
 have hI2:=hI.set hid h1 hne hF1 hq hM hF2;have hlt:=hT.lt;have hml:=hI.im.lt;have hsz:=hF.size;have hs8:=hF1.size;have hs9:=hF2.size;have hin:=(hI.row id hid).2.2;have hG:Fr (mb::((iv id).getD gG).ownBlock.toList) wr w9:=(hF1.mono (S' :=mb::((iv id).getD gG).ownBlock.toList) (fun b hb=>.inl (List.mem_cons_of_mem _ hb))).trans hF2 (fun b hb=>.inl (by simp at hb;simp[hb]));refine⟨lT', lb' ++ v1.ownBlock.toList,fun x=>if x<wr.heap.size then c' x else 5,⟨?_,?_,?_,?_,?_,?_⟩,hT.fr hG (fun b hb hm=>?_),⟨_,hI2⟩,hF.trans hG (fun b hb=>?_),h5,fun q hqq=>?_⟩
 · rw[qD (by omega)];exact hc.p
 · rw[qD hml];exact hc.m
 · intro b hb;rw[qD (by have:=hla b hb;omega)];exact hc.a b hb
 · intro b hb;rw[qD (hlt b hb)];exact hc.t b hb
 · intro q hqq;rw[qD (by have:=hv7 q hqq;omega)];exact hc.l q hqq
 {
 intro b hb;rcases qE.1 hb with hb|hb
 · rw[qD (hI.lt b hb)];exact hc.b b hb
 {
 rcases hq b (by simpa using hb) with e|e
 {
 have:=hin b e;rw[qD (hI.lt b this)];exact hc.b b this}
 · rw[qC (by omega)]}}
 {
 have e0:=hc.t b hb;rcases qB.1 hm with e|e
 · have:=hc.m;rw[<-e]at this;omega
 · have:=hc.b b (hin b (by simpa using e));omega}
 {
 rcases qB.1 hb with rfl|e
 · exact .inl (by simp)
 {
 rcases h6 b (hin b (by simpa using e)) with e2|e2
 · exact .inl (by simp[e2])
 · exact .inr e2}}
 {
 rcases qE.1 hqq with e|e
 · exact h6 q e
 {
 rcases hq q (by simpa using e) with e2|e2
 · exact h6 q (hin q e2)
 · exact .inr (by omega)}}
end
def wH(M:Md)(u v:Nat):Nat->Md
  | 0=>M
  | 1=>(M.put u).M
  | _=>((M.put u).M.put v).M
def nI(f:Nat->List Nat)(u v sl:Nat):Nat->Nat->List Nat
  | 0=>f
  | 1=>nG f u (f u++[sl])
  | _=>nG (nG f u (f u++[sl])) v (nG f u (f u++[sl]) v++[sl])
theorem aLS{L:List Lv}{e:Lv}(hne:e.u≠e.v):nI (bU L) e.u e.v e.slot 2=bU (L++[e]):=by
 funext id
 rw[wZ];show nG (nG (bU L) e.u (bU L e.u++[e.slot])) e.v (nG (bU L) e.u (bU L e.u++[e.slot]) e.v++[e.slot]) id=_
 unfold Lv.at;by_cases h1:id=e.v
 {
 subst h1;rw[jH,eG (fun h=>hne h.symm)];simp}
 {
 rw[eG h1];by_cases h2:id=e.u
 {
 subst h2;rw[jH];simp}
 {
 rw[eG h2];have b1:(e.u == id)=false:=by simp;omega
 have b2:(e.v == id)=false:=by simp;omega
 rw[b1,b2];simp}}
theorem nH.fr{w7 wr:World}{ps pt mb n:Nat}{v7:Value}{la lT lb:List Nat}{M:Md}{f:Nat->List Nat}(h:nH w7 ps pt mb v7 la lT lb M f n wr):Fr (mb::(lT++lb)) w7 wr:=by
 obtain⟨_,_,_,_,_,_,h,_⟩:=h;exact h
theorem nH.mok{w7 wr:World}{ps pt mb n:Nat}{v7:Value}{la lT lb:List Nat}{M:Md}{f:Nat->List Nat}(h:nH w7 ps pt mb v7 la lT lb M f n wr):M.Ok:=by
 obtain⟨_,_,_,_,h,_⟩:=h;exact h.ok
theorem sD{w w' :World}{mb n:Nat}{iv:Int->Option Value}{f:Nat->List Nat}{lb:List Nat}(h:oC w mb iv f n lb){id:Nat}(hid:id<U64){v:Value}(hv:(iv id).getD gG=v)(he:w'.heap[mb]? =w.heap[mb]?):
    (Instr.lookup 143 (.map (some mb)) (.int .u64 id) false).run Tryz.prog w' =.ok v w' :=by
 have:=(h.im.same he).run_get Tryz.underlying36 Tryz.underlying143 (aIX w') rfl (kB hid);rw[hv]at this;exact this
theorem aLT{L:List Lv}{e:Lv}{n:Nat}(hL:∀x∈L,x.slot≠e.slot)(hn:e.slot<n):((List.range n).map (aF L)).set e.slot e=(List.range n).map (aF (L++[e])):=by
 refine List.ext_getElem? fun i=>?_;rw[List.getElem?_set];by_cases hi:i<n
 {
 simp only[List.length_map,List.length_range,List.getElem?_map,List.getElem?_range hi,Option.map_some,aBF hL];by_cases he:e.slot=i
 · rw[qD he,qD he.symm,qD hn]
 · rw[qC he,qC (fun h=>he h.symm)]}
 · rw[qC (by omega),zB (by simp;omega),zB (by simp;omega)]
section
variable {w w' :World} {ps:Nat} {s:Sm} {K:List Nat}
end
end Go.Proofs.YtjdgpcjbgjnahaaGreatDoor
namespace Go.Proofs.YtjdgpcjbgjnahaaGreatDoor
open Go.RowKit Go.Lib Go.Sort
def Tryz.laysIdxI_ren:Go.Shelf.Ren:=⟨fun|29=>153|n=>n,fun|22=>158|23=>3|3=>3|0=>0|4=>4|n=>n,fun|n=>n⟩
theorem Tryz.laysIdxI:Go.Proofs.SlLaysE.n29 Tryz.prog Tryz.laysIdxI_ren:={
  mixed:=by kernel_rfl
  f29:=⟨Tryz.f153.name,by decide,Tryz.func153.trans (congrArg some (by kernel_rfl))⟩
  t0:=Tryz.underlying0
  a0:=Tryz.isAgg0
  z0:=Tryz.sizeOf0
  v0:=Tryz.zeroValue0
  t3:=Tryz.underlying3
  a3:=Tryz.isAgg3
  z3:=Tryz.sizeOf3
  v3:=Tryz.zeroValue3
  t4:=Tryz.underlying4
  a4:=Tryz.isAgg4
  z4:=Tryz.sizeOf4
  v4:=Tryz.zeroValue4
  t22:=Tryz.underlying158
  a22:=Tryz.isAgg158
  z22:=Tryz.sizeOf158
  v22:=Tryz.zeroValue158
  a23:=Tryz.isAgg3
  z23:=Tryz.sizeOf3 }
def Tryz.laysDelI_ren:Go.Shelf.Ren:=⟨fun|45=>154|n=>n,fun|22=>158|23=>3|3=>3|4=>4|0=>0|n=>n,fun|n=>n⟩
theorem Tryz.laysDelI:Go.Proofs.SlLaysN.n45 Tryz.prog Tryz.laysDelI_ren:={
  mixed:=by kernel_rfl
  f45:=⟨Tryz.f154.name,by decide,Tryz.func154.trans (congrArg some (by kernel_rfl))⟩
  t0:=Tryz.underlying0
  a0:=Tryz.isAgg0
  z0:=Tryz.sizeOf0
  v0:=Tryz.zeroValue0
  t3:=Tryz.underlying3
  a3:=Tryz.isAgg3
  z3:=Tryz.sizeOf3
  v3:=Tryz.zeroValue3
  t4:=Tryz.underlying4
  a4:=Tryz.isAgg4
  z4:=Tryz.sizeOf4
  v4:=Tryz.zeroValue4
  t22:=Tryz.underlying158
  a22:=Tryz.isAgg158
  z22:=Tryz.sizeOf158
  v22:=Tryz.zeroValue158
  t23:=Tryz.underlying3
  a23:=Tryz.isAgg3
  z23:=Tryz.sizeOf3
  v23:=Tryz.zeroValue3
  i23:=by kernel_rfl }
section
variable {w:World} {v:Value} {p:List Nat}
theorem aQF{p:List Nat}{j:Nat}(hj:j<p.length):(fO p)[j]? =some (.int .i64 (p[j]'hj)):=by simp[fO,hj]
theorem aBJ(h:dO w v p)(hp:p.length<=16384){i:Nat}(hi:i<p.length)(hn:p.Nodup):
    Calls Tryz.prog 153 #[v,.int .i64 (p[i]'hi)] w fun e w' =>e=.returned (.int .i64 i)/\w' =w:=by
 obtain⟨b,cap,rfl,_,_⟩:=h.at hi;refine(AnyE.slices_Index Tryz.laysIdxI (fun x:Nat=>Value.int .i64 x) (fun x y=>x == y) ?_ b 0 p.length cap p (p[i]'hi) w (qK _) (by omega) (fun j hj=>?_)).mono ?_
 · exact⟨fun x y w=>by refine((EqlAt.int Tryz.prog _ .i64).1 (x:Int) (y:Int) w).trans ?_;by_cases e:x=y;(· simp[e]);(· have e1:((x:Int) == (y:Int))=false:=beq_false_of_ne (by omega);have e2:(x == y)=false:=beq_false_of_ne e;simp only[e1,e2]),fun op a b x y w=>(GuardAt.int Tryz.prog _ .i64) op a b (x:Int) (y:Int) w⟩
 {
 obtain⟨b', cap', e,_,hc⟩:=h.at hj;simp only[qP,qI,Addr.mk.injEq,true_and]at e;obtain⟨⟨rfl,_⟩,_⟩:=e;rw[Nat.zero_add,hc,getElem!_pos p j hj]}
 {
 rintro _ w' ⟨rfl,rfl⟩;refine⟨?_,rfl⟩;rw[Lib.idxBy_hit (fun x y=>x == y) p p.length i (p[i]'hi) hi (qK _) (by rw[getElem!_pos p i hi];simp) (fun j hj=>?_)];rw[getElem!_pos p j (by omega)];simp only[qR];intro e;have:=(List.getElem_inj hn).1 e;omega}
theorem aBK(h:dO w v p)(hp:p.length<=16384){i:Nat}(hi:i<p.length):
    Calls Tryz.prog 154 #[v,.int .i64 i,.int .i64 (i+1)] w fun e w' =>∃v', e=.returned v' /\ dO w' v' (p.eraseIdx i)/\v'.ownBlock=v.ownBlock/\Fr v.ownBlock.toList w w' :=by
 rcases h.2 with⟨rfl,h0⟩|⟨g,cap,cur,e,hg,hcur,hnc,hcm,hcs,htk⟩
 · omega
 subst e;obtain⟨zs,hzs⟩:∃zs:List Int,zs=p.map fun(x:Nat)=>(x:Int):=⟨_,rfl⟩;have hl:zs.length=p.length:=by rw[hzs];simp
 have hz:zs.map (Value.int .i64)=fO p:=by rw[hzs];simp[fO]
 have hH:Holds (Value.int .i64) w g 0 zs.toArray:=holds_of_blockI hcur (by rw[hl,hz];simpa using htk);have hD:=AnyG.slices_Delete_int Tryz.laysDelI g 0 cap i (i+1) zs w hH (by omega) (by unfold maxLen at hcm;omega) (by omega) (by omega);rw[hl]at hD;refine hD.mono ?_;rintro _ w' ⟨rfl,q,rfl⟩;have hlen:(zs.take i++zs.drop (i+1)++List.replicate (i+1-i) 0).length=p.length:=by simp;omega
 have hd:p.length-(i+1-i)=(p.eraseIdx i).length:=by rw[List.length_eraseIdx_of_lt hi];omega
 have hb:(putRow (Value.int .i64) (Sort.ahead w q) g 0 (zs.take i++zs.drop (i+1)++List.replicate (i+1-i) 0).toArray).heap[g]? =some (.cells (putCells (Value.int .i64) 0 (zs.take i++zs.drop (i+1)++List.replicate (i+1-i) 0).toArray cur) 3 (0,0)):=by simp[putRow,mapBlock,Sort.ahead,Array.getElem?_modify,hcur,onCells]
 refine⟨_,rfl,⟨by simp[fO],.inr ⟨g,cap,_,by rw[hd],qS _,hb,by rw[<-hd];omega,hcm,by simp[putCells,hcs],?_⟩⟩,rfl,?_⟩
 {
 have h1:=take_putCellsI cur (zs.take i++zs.drop (i+1)++List.replicate (i+1-i) 0) (by rw[hlen];omega);rw[hlen]at h1;have h2:=congrArg (List.take (p.eraseIdx i).length) h1;rw[List.take_take,Nat.min_eq_left (by rw[<-hd];omega)]at h2;rw[Nat.mul_one,h2,<-List.map_take,List.take_left' (by rw[<-hd];simp;omega),hzs];unfold fO;rw[List.eraseIdx_eq_take_drop_succ];simp;rfl}
 {
 refine(Fr.refl _ _).grown ⟨rfl,rfl,rfl,by simp[Sort.ahead],fun k hk hne=>?_⟩ (fun k (e:some g=some k)=>.inl (by simp[Value.ownBlock,Option.some.inj e]));have:g≠k:=fun e=>hne (by rw[e]);simp[putRow,mapBlock,Sort.ahead,Array.getElem?_modify,this]}
theorem aEP(h:dO w v p)(hp:p.length<=16384):
    Calls Tryz.prog 119 #[v] w fun e w' =>∃v', e=.returned v' /\ dO w' v' p/\(∀q,v'.ownBlock=some q->w.heap.size<=q)/\Fr [] w w' :=by
 obtain⟨i0,hi,hz0,hz1,hz2⟩:=info_parts Tryz.info3;rcases h.2 with⟨rfl,h0⟩|⟨g,cap,cur,e,hg,hcur,hnc,hcm,hcs,htk⟩
 {
 have hn:p=[]:=List.length_eq_zero_iff.1 (by simpa using h0);subst hn;refine(AnyE.slices_Clone_nil Tryz.laysCloneI 0 0 w).mono ?_;rintro _ _ ⟨rfl,rfl⟩;exact⟨_,rfl,h,fun q e=>(by cases e),Fr.refl _ _⟩}
 {
 subst e;refine(AnyE.slices_Clone Tryz.laysCloneI i0 (.int .i64 0) 1 8 hi hz0 hz1 hz2 rfl (by decide) Tryz.sizeOf3 g 0 p.length cap (fO p) w (by simp[fO]) (by unfold maxLen;omega) (by omega) (fun j u hj=>?_) (fun u hu=>?_)).mono ?_
 {
 have hjl:j<p.length:=by have:=(qT.1 hj).1;simpa[fO] using this
 obtain⟨b', cap', e,_,hc⟩:=h.at hjl;simp only[qP,qI,Addr.mk.injEq,true_and]at e;obtain⟨⟨rfl,_⟩,_⟩:=e;rw[Nat.zero_add,hc,<-hj,aQF hjl]}
 {
 simp only[fO,qW]at hu;obtain⟨k,_,rfl⟩:=hu;rfl}
 {
 rintro _ w' ⟨v', rfl,h1,_,hB⟩;refine⟨v', rfl,?_,lE h1,Fr.of_below hB⟩;exact lD h1}}
end
end Go.Proofs.YtjdgpcjbgjnahaaGreatDoor
namespace Go.Proofs.YtjdgpcjbgjnahaaGreatDoor
open Go.RowKit
section
variable {w w' :World} {ps:Nat} {s:Sm} {K:List Nat}
end
theorem uL{M N:Md}(hM:M.Ok)(hN:N.Ok){x:Nat}(h:∀j,(x,j)∈M.L↔(x,j)∈N.L):M.find x=N.find x:=by
 apply Option.ext;intro j;rw[Md.find_iff hM,Md.find_iff hN,h]
theorem aBL{M:Md}(h:M.Ok){id x:Nat}(hne:x≠id):(M.del id).M.find x=M.find x:=by
 refine uL (Md.ok_del h id) h fun j=>?_;unfold Md.del;cases hi:M.find id with
 | none=>exact Iff.rfl
 | some i=>{
 simp only[Md.rem,zA,bne_iff_ne];exact⟨fun h=>h.1,fun h=>⟨h,hne⟩⟩}
theorem uM{M:Md}(h:M.Ok){L:List Lv}{id x:Nat}(hx:x=id->bU L id≠[]):(Sm.delIf M L id).find x=M.find x:=by
 unfold Sm.delIf;split
 {
 rename_i hn;exact aBL h (fun e=>hx e hn)}
 · rfl
theorem aBM{M:Md}(h:M.Ok){id x:Nat}(hid:id<18446744073709551616)(hx:(M.find x).isSome=true∨x≠id):(M.put id).M.find x=M.find x:=by
 unfold Md.put;cases hi:M.find id with
 | some i=>rfl
 | none=>{
 cases hn:M.next with
 | none=>rfl
 | some i=>{
 show(M.add id i).find x=_
 rw[uA h hid hi hn,qC];rintro rfl;rcases hx with e|e
 · rw[hi]at e;cases e
 · exact e rfl}}
section
variable {s:Sm} {i:Nat}
theorem kC{e:Lv}:e∈(s.rem i).L↔e∈s.L/\e.slot≠i:=by
 show e∈s.L.filter (fun e=>e.slot != i)↔_
 simp[zA]
theorem oZ(h:s.Ok){e:Lv}(he:e∈(s.rem i).L){x:Nat}(hx:e.at x=true):(s.rem i).M.find x=s.M.find x:=by
 have hne:bU (s.L.filter fun e=>e.slot != i) x≠[]:=List.ne_nil_of_mem (eY.2 ⟨e,he,hx,rfl⟩);show(Sm.delIf (Sm.delIf s.M (s.L.filter fun e=>e.slot != i) (aF s.L i).u) (s.L.filter fun e=>e.slot != i) (aF s.L i).v).find x=_
 rw[uM (Sm.delIf_ok h.md _ _) (fun e=>e▸hne),uM h.md (fun e=>e▸hne)]
theorem fS(h:s.Ok){e:Lv}(he:e∈s.L){x:Nat}(hx:e.at x=true):(s.M.find x).isSome=true:=(h.vert x).2 (List.ne_nil_of_mem (eY.2 ⟨e,he,hx,rfl⟩))
end
structure Lk (s:Sm) (Q:Nat->Option Int) (G:Nat->Option (Nat×Nat×Int)):Prop where
  q:∀i x,Q i=some x↔∃e∈s.L,e.slot=i/\e.x=x
  g:∀i a b x,G i=some (a,b,x)↔∃e∈s.L,e.slot=i/\s.M.find e.u=some a/\s.M.find e.v=some b/\e.x=x
section
variable {s:Sm} {Q:Nat->Option Int} {G:Nat->Option (Nat×Nat×Int)}
theorem Lk.new(V E last:Nat):Lk (Sm.new V E last) (fun _=>none) (fun _=>none):=⟨fun i x=>by simp[Sm.new],fun i a b x=>by simp[Sm.new]⟩
theorem Lk.drop(h:Lk s Q G)(hok:s.Ok)(i:Nat):Lk (s.rem i) (fun j=>if j=i then none else Q j) (fun j=>if j=i then none else G j):=by
 constructor
 {
 intro j x;by_cases e:j=i
 {
 subst e;simp only[if_true];constructor
 · intro h;cases h
 {
 rintro⟨e,he,hs,_⟩;exact absurd hs (kC.1 he).2}}
 {
 simp only[qC e];rw[h.q];constructor
 · rintro⟨d,hd,hs,hx⟩;exact⟨d,kC.2 ⟨hd,by omega⟩,hs,hx⟩
 · rintro⟨d,hd,hs,hx⟩;exact⟨d,(kC.1 hd).1,hs,hx⟩}}
 {
 intro j a b x;by_cases e:j=i
 {
 subst e;simp only[if_true];constructor
 · intro h;cases h
 {
 rintro⟨e,he,hs,_⟩;exact absurd hs (kC.1 he).2}}
 {
 simp only[qC e];rw[h.g];constructor
 {
 rintro⟨d,hd,hs,h1,h2,hx⟩;have hd' :d∈(s.rem i).L:=kC.2 ⟨hd,by omega⟩;exact⟨d,hd', hs,by rw[oZ hok hd' (by simp[Lv.at])];exact h1,by rw[oZ hok hd' (by simp[Lv.at])];exact h2,hx⟩}
 {
 rintro⟨d,hd,hs,h1,h2,hx⟩;rw[oZ hok hd (by simp[Lv.at])]at h1;rw[oZ hok hd (by simp[Lv.at])]at h2;exact⟨d,(kC.1 hd).1,hs,h1,h2,hx⟩}}}
theorem Lk.free(h:Lk s Q G)(hok:s.Ok){i:Nat}(hi:¬s.A.isUsed i):Q i=none/\G i=none:=by
 have hno:∀e∈s.L,e.slot≠i:=fun e he hs=>hi ((hok.used i).2 ⟨e,he,hs⟩);constructor
 {
 cases hq:Q i with
 | none=>rfl
 | some x=>{
 obtain⟨e,he,hs,_⟩:=(h.q i x).1 hq;exact absurd hs (hno e he)}}
 {
 cases hg:G i with
 | none=>rfl
 | some p=>{
 obtain⟨a,b,x⟩:=p;obtain⟨e,he,hs,_⟩:=(h.g i a b x).1 hg;exact absurd hs (hno e he)}}
theorem Lk.ins(h:Lk s Q G)(hok:s.Ok){u v:Nat}(hu:u<18446744073709551616)(hv:v<18446744073709551616)(hc:s.chk u v=0)(wt t x:Int){a b:Nat}(ha:(s.ins u v wt t x).M.find u=some a)(hb:(s.ins u v wt t x).M.find v=some b):
    Lk (s.ins u v wt t x) (fun j=>if j=s.slot then some x else Q j) (fun j=>if j=s.slot then some (a,b,x) else G j):=by
 have hok1:=Md.ok_put hok.md hu;have hfree:∀e∈s.L,e.slot≠s.slot:=fun e he hs=>(Md.isUsed_alloc' hok.ar (Sm.slot_next hok hc)).1 ((hok.used _).2 ⟨e,he,hs⟩);have hf:∀y,(s.M.find y).isSome=true->(s.ins u v wt t x).M.find y=s.M.find y:=fun y hy=>by
   show((s.M.put u).M.put v).M.find y=_
   have h1:=aBM hok.md (x:=y) hu (.inl hy);rw[aBM hok1 hv (.inl (by rw[h1];exact hy)),h1]
 have hL:(s.ins u v wt t x).L=s.L++[s.edge u v wt t x]:=rfl;constructor
 {
 intro j y;rw[hL];by_cases e:j=s.slot
 {
 subst e;simp only[if_true,qE,qH];constructor
 · intro hx;exact⟨s.edge u v wt t x,.inr rfl,rfl,Option.some.inj hx⟩
 {
 rintro⟨d,hd|hd,hs,hx⟩
 · exact absurd hs (hfree d hd)
 · subst hd;exact congrArg some hx}}
 {
 simp only[qC e,qE,qH];rw[h.q];constructor
 · rintro⟨d,hd,hs,hx⟩;exact⟨d,.inl hd,hs,hx⟩
 {
 rintro⟨d,hd|hd,hs,hx⟩
 · exact⟨d,hd,hs,hx⟩
 · subst hd;exact absurd hs.symm e}}}
 {
 intro j c d y;rw[hL];by_cases e:j=s.slot
 {
 subst e;simp only[if_true,qE,qH];constructor
 {
 intro hx;simp only[qI,zE]at hx;obtain⟨rfl,rfl,rfl⟩:=hx;exact⟨s.edge u v wt t x,.inr rfl,rfl,ha,hb,rfl⟩}
 {
 rintro⟨d', hd|hd,hs,h1,h2,hx⟩
 · exact absurd hs (hfree d' hd)
 {
 subst hd;have e1:some a=some c:=ha.symm.trans h1;have e2:some b=some d:=hb.symm.trans h2;have e3:x=y:=hx;rw[Option.some.inj e1,Option.some.inj e2,e3]}}}
 {
 simp only[qC e,qE,qH];rw[h.g];constructor
 {
 rintro⟨d', hd,hs,h1,h2,hx⟩;exact⟨d', .inl hd,hs,by rw[hf _ (fS hok hd (by simp[Lv.at]))];exact h1,by rw[hf _ (fS hok hd (by simp[Lv.at]))];exact h2,hx⟩}
 {
 rintro⟨d', hd|hd,hs,h1,h2,hx⟩
 {
 rw[hf _ (fS hok hd (by simp[Lv.at]))]at h1 h2;exact⟨d', hd,hs,h1,h2,hx⟩}
 · subst hd;exact absurd hs.symm e}}}
end
inductive fT (to:Int):(Nat->Option Int)->List Nat->(Nat->Option Int)->Prop
  | done (Q:Nat->Option Int) (h:∀i x,Q i=some x->to<x):fT to Q [] Q
  | more (Q : Nat -> Option Int) (i : Nat) (x : Int) (ds : List Nat) (Q' : Nat -> Option Int) (hq : Q i = some x) (hx : x <= to) (hm : ∀ j y, Q j = some y -> ¬ (y < x ∨ (y = x /\ j < i)))
      (h:fT to (fun j=>if j=i then none else Q j) ds Q'):fT to Q (i::ds) Q'
def Sm.rems(s:Sm)(ds:List Nat):Sm:=ds.foldl Sm.rem s
theorem Sm.rems_cons(s:Sm)(i:Nat)(ds:List Nat):s.rems (i::ds)=(s.rem i).rems ds:=rfl
theorem pA{s:Sm}{Q:Nat->Option Int}{G:Nat->Option (Nat×Nat×Int)}(h:Lk s Q G)(hok:s.Ok){i:Nat}{x:Int}(hq:Q i=some x):s.A.isUsed i:=by
 obtain⟨e,he,hs,_⟩:=(h.q i x).1 hq;exact(hok.used i).2 ⟨e,he,hs⟩
theorem aLU{L:List Lv}(h:(L.map (·.slot)).Nodup){e d:Lv}(he:e∈L)(hd:d∈L)(hs:e.slot=d.slot):e=d:=by
 have h1:=gB h he;have h2:=gB h hd;rw[<-h1,<-h2,hs]
theorem jI(s:Sm):∀ds:List Nat,(s.rems ds).V=s.V/\(s.rems ds).E=s.E/\(s.rems ds).last=s.last:=by
 intro ds;induction ds generalizing s with
 | nil=>exact⟨rfl,rfl,rfl⟩
 | cons i r ih=>rw[Sm.rems_cons];exact ih (s.rem i)
theorem fT.law{to:Int}{Q Q' :Nat->Option Int}{ds:List Nat}(h:fT to Q ds Q'):∀{s:Sm} {G:Nat->Option (Nat×Nat×Int)},Lk s Q G->s.Ok ->
    (s.rems ds).Ok/\(s.rems ds).L=s.L.filter (fun e=>decide (to<e.x))/\Lk (s.rems ds) Q' (fun j=>if j∈ds then none else G j)/\ds.length+(s.rems ds).L.length=s.L.length:=by
 induction h with
 | done Q h=>{
 intro s G hl hok;have hf:s.L.filter (fun e=>decide (to<e.x))=s.L:=List.filter_eq_self.2 fun e he=>by simpa using h e.slot e.x ((hl.q _ _).2 ⟨e,he,rfl,rfl⟩)
 refine⟨hok,hf.symm,?_,by simp[Sm.rems]⟩;simpa[Sm.rems] using hl}
 | more Q i x ds Q' hq hx hm h ih=>{
 intro s G hl hok;have hu:=pA hl hok hq;obtain⟨d,hd,hds,hdx⟩:=(hl.q i x).1 hq;have hok1:=Sm.ok_rem hok hu;obtain⟨h1,h2,h3,h4⟩:=ih (hl.drop hok i) hok1;have hL:(s.rem i).L=s.L.filter (fun e=>e.slot != i):=rfl;rw[Sm.rems_cons];refine⟨h1,?_,?_,?_⟩
 {
 rw[h2,hL,List.filter_filter];refine List.filter_congr fun e he=>?_;by_cases hs:e.slot=i
 {
 have:e=d:=aLU hok.one he hd (by omega);subst this;simp[hs];omega}
 · simp[hs]}
 {
 have:(fun j=>if j∈i::ds then none else G j)=fun j=>if j∈ds then none else if j=i then none else G j:=by {
 funext j
 by_cases e:j=i
 · subst e;simp
 · by_cases e2:j∈ds<;>simp[e,e2]};rw[this];exact h3}
 {
 have h5:(s.L.filter fun e=>e.slot != i).length+1=s.L.length:=by {
 have hp:∀L:List Lv,(L.map (·.slot)).Nodup->d∈L->(L.filter fun e=>e.slot != i).length+1=L.length:=by {
 intro L;induction L with
 | nil=>intro _ h;cases h
 | cons a r ihr=>{
 intro hn hm;simp only[List.map_cons,qO]at hn;rcases qB.1 hm with rfl|hm
 {
 have hr:r.filter (fun e=>e.slot != i)=r:=List.filter_eq_self.2 fun e he=>by
   simp only[bne_iff_ne];exact fun h=>hn.1 (qW.2 ⟨e,he,by omega⟩)
 rw[List.filter_cons_of_neg (by simp[hds]),hr];rfl}
 {
 have hne:a.slot≠i:=fun h=>hn.1 (qW.2 ⟨d,hm,by omega⟩);rw[List.filter_cons_of_pos (by simpa using hne)];simp only[qZ];have:=ihr hn.2 hm;omega}}};exact hp s.L hok.one hd};rw[hL]at h4;simp only[qZ];omega}}
theorem nQ{l m:List Nat}(hl:l.Nodup)(hs:∀x∈l,x∈m):l.length<=m.length:=by
 induction l generalizing m with
 | nil=>simp
 | cons a r ih=>{
 simp only[qO]at hl;have ha:a∈m:=hs a (by simp);have h1:r.length<=(m.erase a).length:=ih hl.2 fun x hx=>(List.mem_erase_of_ne (fun e=>hl.1 (by rw[<-e];exact hx))).2 (hs x (by simp[hx]));rw[List.length_erase_of_mem ha]at h1;have:0<m.length:=List.length_pos_of_mem ha;simp only[qZ];omega}
def kD(M:Md)(u v:Nat):List Nat:=M.L.map (·.1)++[u,v].filter fun x=> !(M.find x).isSome
theorem oD(M:Md)(u v:Nat):(kD M u v).length=M.L.length+((if (M.find u).isSome=true then 0 else 1)+if (M.find v).isSome=true then 0 else 1):=by
 unfold kD;rw[zF,List.length_map];congr 1
 cases hu:(M.find u).isSome<;>cases hv:(M.find v).isSome<;>simp only[List.filter,hu,hv]<;>rfl
theorem fU{M:Md}(h:M.Ok){x:Nat}:x∈M.L.map (·.1)↔(M.find x).isSome=true:=by
 rw[qW,qV];constructor
 · rintro⟨⟨a,i⟩,hx,rfl⟩;exact⟨i,(Md.find_iff h).2 hx⟩
 · rintro⟨i,hi⟩;exact⟨(x,i),Md.find_mem hi,rfl⟩
theorem oE{M:Md}(h:M.Ok){u v x:Nat}:x∈kD M u v↔(M.find x).isSome=true∨x=u∨x=v:=by
 unfold kD;rw[qE,fU h];simp only[zA,qB,List.not_mem_nil,or_false,Bool.not_eq_true'];constructor
 {
 rintro(h|⟨h,_⟩)
 · exact .inl h
 · exact .inr h}
 {
 rintro(h|h)
 · exact .inl h
 {
 by_cases hf:(M.find x).isSome=true
 · exact .inl hf
 · exact .inr ⟨h,by simpa using hf⟩}}
theorem pB{M:Md}(h:M.Ok){u v:Nat}(hne:u≠v):(kD M u v).Nodup:=by
 unfold kD;rw[qN];refine⟨h.ids,(qO.2 ⟨by simpa using hne,by simp⟩).filter _,fun a ha b hb e=>?_⟩;subst e;rw[fU h]at ha;simp only[zA,Bool.not_eq_true']at hb;rw[ha]at hb;cases hb.2
theorem aLV{s s' :Sm}(h:s.Ok)(h' :s'.Ok)(hV:s'.V=s.V)(hE:s'.E=s.E)(hL:∀e∈s'.L,e∈s.L)(hn:s'.L.length<=s.L.length){u v:Nat}(hc:s.chk u v=0):s'.chk u v=0:=by
 obtain⟨h1,h2,h3⟩:=Sm.chk_ok h hc;rw[Sm.len_used h]at h2;have hm:s'.M.L.length+s'.more u v<=s.M.L.length+s.more u v:=by {
 have e1:=oD s.M u v;have e2:=oD s'.M u v;have e3:(kD s'.M u v).length<=(kD s.M u v).length:=nQ (pB h'.md h1) fun x hx=>by
   rw[oE h.md];rw[oE h'.md]at hx;refine hx.imp (fun hx=>?_) id;rw[h.vert];rw[h'.vert]at hx;obtain⟨k,hk⟩:=List.exists_mem_of_ne_nil _ hx;obtain⟨e,he,hat,_⟩:=eY.1 hk;exact List.ne_nil_of_mem (eY.2 ⟨e,hL e he,hat,rfl⟩)
 unfold Sm.more;omega};unfold Sm.chk;rw[qC h1,Sm.len_used h', hE,hV,qC (by omega),qC (by omega)]
structure Wm where
  m:Int
  E:Nat
  V:Nat
  D:Int
  now:Int
  s:Sm
  Q:Nat->Option Int
  G:Nat->Option (Nat×Nat×Int)
  gone:Nat
structure Wm.Ok (W:Wm):Prop where
  ok:W.s.Ok
  hV:W.s.V=W.V
  hE:W.s.E=W.E
  lk:Lk W.s W.Q W.G
  x:∀e∈W.s.L,e.x=e.t+W.m/\0<=e.t/\e.t<=W.now/\W.now<e.x
  mono:W.s.L.Pairwise fun a b=>a.t<=b.t
  num:∀i (h:i<W.s.L.length),(W.s.L[i]).seq=W.gone+i+1
  last:W.s.last=W.gone+W.s.L.length
  max:W.s.last<=9223372036854775807
  m1:1<=W.m
  m2:W.m<=9223372036854775807
  n0:0<=W.now
  n1:W.now+W.m<=9223372036854775807
theorem aBN{L:List Lv}{to:Int}(h:L.Pairwise fun a b=>a.x<=b.x):∃k,k<=L.length/\L.filter (fun e=>decide (to<e.x))=L.drop k:=by
 induction L with
 | nil=>exact⟨0,by simp,rfl⟩
 | cons a r ih=>{
 rw[List.pairwise_cons]at h;by_cases ha:to<a.x
 {
 refine⟨0,by simp,?_⟩;rw[List.drop_zero];refine List.filter_eq_self.2 fun e he=>?_;rcases qB.1 he with rfl|he
 · simpa using ha
 {
 have:=h.1 e he;simp;omega}}
 {
 obtain⟨k,hk,e⟩:=ih h.2;refine⟨k+1,by simp;omega,?_⟩;rw[List.filter_cons_of_neg (by simpa using ha),e];rfl}}
def Wm.tick(W:Wm)(to:Int)(ds:List Nat)(Q' :Nat->Option Int):Wm:={ W with now:=to,s:=W.s.rems ds,Q:=Q', G:=fun j=>if j∈ds then none else W.G j,gone:=W.gone+ds.length }
theorem Wm.tick_ok{W:Wm}(h:W.Ok){to:Int}(h1:W.now<=to)(h2:to+W.m<=9223372036854775807){ds:List Nat}{Q' :Nat->Option Int}(hm:fT to W.Q ds Q'):(W.tick to ds Q').Ok/\(W.tick to ds Q').s.L=W.s.L.filter (fun e=>decide (to<e.x))/\(W.tick to ds Q').s.last=W.s.last:=by
 obtain⟨k1,k2,k3,k4⟩:=hm.law h.lk h.ok;obtain⟨r1,r2,r3⟩:=jI W.s ds;have hx:W.s.L.Pairwise fun a b=>a.x<=b.x:=by {
 refine List.Pairwise.imp_of_mem ?_ h.mono;intro a b ha hb hab;have:=h.x a ha;have:=h.x b hb;omega};obtain⟨k,hk,hf⟩:=aBN (to:=to) hx;have hkd:k=ds.length:=by rw[k2,hf,List.length_drop]at k4;omega
 refine⟨⟨k1,r1.trans h.hV,r2.trans h.hE,k3,fun e he=>?_,?_,fun i hi=>?_,?_,?_,h.m1,h.m2,Int.le_trans h.n0 h1,h2⟩,k2,r3⟩
 {
 rw[show(W.tick to ds Q').s.L=_ from k2,zA]at he;have h3:=h.x e he.1;have h4:to<e.x:=by simpa using he.2
 exact⟨h3.1,h3.2.1,Int.le_trans h3.2.2.1 h1,h4⟩}
 {
 show((W.s.rems ds).L).Pairwise _
 rw[k2];exact h.mono.sublist List.filter_sublist}
 {
 have hL:(W.s.rems ds).L=W.s.L.drop ds.length:=by rw[k2,hf,hkd]
 have hi' :i<(W.s.rems ds).L.length:=hi;have hi2:ds.length+i<W.s.L.length:=by rw[hL,List.length_drop]at hi'; omega
 have e:(W.s.rems ds).L[i]'hi' =W.s.L[ds.length+i]'hi2:=by {
 have h5:(W.s.rems ds).L[i]? =W.s.L[ds.length+i]? :=by rw[hL,List.getElem?_drop]
 rw[qL hi', qL hi2]at h5;exact Option.some.inj h5};show((W.s.rems ds).L[i]'hi').seq=W.gone+ds.length+i+1
 rw[e,h.num];omega}
 {
 show(W.s.rems ds).last=W.gone+ds.length+(W.s.rems ds).L.length
 rw[r3,h.last];omega}
 {
 show(W.s.rems ds).last<=_
 rw[r3];exact h.max}
def Wm.put(W:Wm)(u v:Nat)(wt:Int)(a b:Nat):Wm:={ W with s:=W.s.ins u v wt W.now (W.now+W.m),Q:=fun j=>if j=W.s.slot then some (W.now+W.m) else W.Q j,G:=fun j=>if j=W.s.slot then some (a,b,W.now+W.m) else W.G j }
theorem Wm.put_ok{W:Wm}(h:W.Ok){u v:Nat}(hu:u<18446744073709551616)(hv:v<18446744073709551616)(wt:Int)(hc:W.s.chk u v=0)(hl:W.s.last<9223372036854775807){a b:Nat}
    (ha:(W.s.ins u v wt W.now (W.now+W.m)).M.find u=some a) (hb:(W.s.ins u v wt W.now (W.now+W.m)).M.find v=some b):(W.put u v wt a b).Ok:=by
 have hL:(W.put u v wt a b).s.L=W.s.L++[W.s.edge u v wt W.now (W.now+W.m)]:=rfl;have hm1:=h.m1;refine⟨Sm.ok_ins h.ok hu hv hc (by omega) wt W.now (W.now+W.m),h.hV,h.hE,h.lk.ins h.ok hu hv hc wt W.now (W.now+W.m) ha hb,fun e he=>?_,?_,fun i hi=>?_,?_,?_,h.m1,h.m2,h.n0,h.n1⟩
 {
 rw[hL,qE,qH]at he;rcases he with he|rfl
 · exact h.x e he
 · exact⟨rfl,h.n0,Int.le_refl _,by show W.now<W.now+W.m;omega⟩}
 {
 rw[hL,List.pairwise_append];exact⟨h.mono,by simp,fun d hd e he=>by
   rw[qH]at he;subst he;exact(h.x d hd).2.2.1⟩}
 {
 have hi' :i<(W.s.L++[W.s.edge u v wt W.now (W.now+W.m)]).length:=hi;show((W.s.L++[W.s.edge u v wt W.now (W.now+W.m)])[i]'hi').seq=W.gone+i+1
 rw[List.getElem_append];split
 · exact h.num i _
 {
 have:i=W.s.L.length:=by simp at hi'; omega
 subst this;simp only[Nat.sub_self,List.getElem_singleton];show W.s.last+1=_
 rw[h.last]}}
 {
 show W.s.last+1=W.gone+(W.s.L++[W.s.edge u v wt W.now (W.now+W.m)]).length
 rw[h.last];simp;omega}
 {
 show W.s.last+1<=_
 omega}
def Wm.new(m:Int)(E V:Nat)(D:Int)(gone:Nat):Wm:={ m:=m,E:=E,V:=V,D:=D,now:=0,s:=Sm.new V E gone,Q:=fun _=>none,G:=fun _=>none,gone:=gone }
theorem Wm.new_ok{m:Int}{E V:Nat}{D:Int}{gone:Nat}(h1:1<=m)(h2:m<=9223372036854775807)(hE:E<=16384)(hV:V<=4096)(hg:gone<=9223372036854775807):(Wm.new m E V D gone).Ok:=
  ⟨Sm.ok_new hV hE (by omega),rfl,rfl,Lk.new _ _ _,fun e he=>(by cases he),List.Pairwise.nil,fun i hi=>absurd hi (Nat.not_lt_zero _),rfl,hg,h1,h2,Int.le_refl _,by show 0+m<=_;omega⟩
structure Nd where
  k0:Nat
  k1:Nat
  up:Nat
  flip:Bool
  key:Int
  size:Int
  first:Nat
  light:Int
  total:Int
def fv(n:Nd):Nat->Value
  | 0=>.int .i64 n.k0
  | 1=>.int .i64 n.k1
  | 2=>.int .i64 n.up
  | 3=>.bool n.flip
  | 4=>.int .i64 n.key
  | 5=>.int .i64 n.size
  | 6=>.int .i64 n.first
  | 7=>.int .i64 n.light
  | _=>.int .i64 n.total
abbrev Tbl:=Nat->Nd
def Tbl.upd(σ:Tbl)(i:Nat)(n:Nd):Tbl:=fun j=>if j=i then n else σ j
def bG(w:World)(g N:Nat)(σ:Tbl):Prop:=
  ∃arr:Array Value,w.heap[g]? =some (.cells arr 251 (0,0))/\N*9<=arr.size/\∀i,i<N->∀f,f<9->arr[i*9+f]? =some (fv (σ i) f)
theorem bG.cell{w:World}{g N:Nat}{σ:Tbl}(h:bG w g N σ){i f:Nat}(hi:i<N)(hf:f<9):w.cell? ⟨g,i*9+f,none⟩=some (fv (σ i) f):=by
 obtain⟨arr,h1,_,h2⟩:=h;simp[World.cell?,h1];exact h2 i hi f hf
theorem bG.frozen{w:World}{g N:Nat}{σ:Tbl}(h:bG w g N σ)(c:Nat):w.frozen? ⟨g,c,none⟩=false:=by
 obtain⟨arr,h1,_⟩:=h;simp[World.frozen?,h1]
theorem bG.lt{w:World}{g N:Nat}{σ:Tbl}(h:bG w g N σ):g<w.heap.size:=by
 obtain⟨arr,h1,_⟩:=h;exact(qM.1 h1).1
theorem bG.same{w w' :World}{g N:Nat}{σ:Tbl}(h:bG w g N σ)(e:w'.heap[g]? =w.heap[g]?):bG w' g N σ:=by
 obtain⟨arr,h1,r⟩:=h;exact⟨arr,e.trans h1,r⟩
theorem bG.eqv{w w' :World}{g N:Nat}{σ:Tbl}(h:bG w g N σ)(e:Eqv w' w):bG w' g N σ:=h.same (by rw[e.heap])
theorem bG.congr{w:World}{g N:Nat}{σ τ:Tbl}(h:bG w g N σ)(e:∀i,i<N->σ i=τ i):bG w g N τ:=by
 obtain⟨arr,h1,h2,h3⟩:=h;exact⟨arr,h1,h2,fun i hi f hf=>by rw[<-e i hi];exact h3 i hi f hf⟩
theorem bG.store{w:World}{g N:Nat}{σ:Tbl}(h:bG w g N σ){i f:Nat}(hi:i<N)(hf:f<9)(n:Nd)(v:Value)(hv:fv n f=v)(ho:∀f', f' < 9->f' ≠ f->fv n f' =fv (σ i) f'):
    bG (w.setCell ⟨g,i*9+f,none⟩ v) g N (σ.upd i n):=by
 obtain⟨arr,h1,h2,h3⟩:=h;refine⟨arr.setIfInBounds (i*9+f) v,?_,by simpa using h2,fun j hj f' hf' =>?_⟩
 {
 simp only[World.setCell,Array.getElem?_modify];simp[h1]}
 {
 rw[Array.getElem?_setIfInBounds];by_cases e:i*9+f=j*9+f'
 {
 have e1:i=j:=by omega
 have e2:f=f' :=by omega
 subst e1;subst e2;rw[qD rfl,qD (by omega)];simp[Tbl.upd,hv]}
 {
 rw[qC e,h3 j hj f' hf'];simp only[Tbl.upd];by_cases ej:j=i
 · subst ej;rw[qD rfl,ho f' hf' (fun e' =>e (by omega))]
 · rw[qC ej]}}
section
variable {w:World} {g N:Nat} {σ:Tbl} (h:bG w g N σ)
include h
theorem bG.c0:∀i,i<N->w.cell? ⟨g,i*9,none⟩=some (.int .i64 (σ i).k0):=fun i hi=>h.cell (f:=0) hi (by decide)
theorem bG.c1:∀i,i<N->w.cell? ⟨g,i*9+1,none⟩=some (.int .i64 (σ i).k1):=fun i hi=>h.cell (f:=1) hi (by decide)
theorem bG.c2:∀i,i<N->w.cell? ⟨g,i*9+2,none⟩=some (.int .i64 (σ i).up):=fun i hi=>h.cell (f:=2) hi (by decide)
theorem bG.c3:∀i,i<N->w.cell? ⟨g,i*9+3,none⟩=some (.bool (σ i).flip):=fun i hi=>h.cell (f:=3) hi (by decide)
theorem bG.c4:∀i,i<N->w.cell? ⟨g,i*9+4,none⟩=some (.int .i64 (σ i).key):=fun i hi=>h.cell (f:=4) hi (by decide)
theorem bG.c5:∀i,i<N->w.cell? ⟨g,i*9+5,none⟩=some (.int .i64 (σ i).size):=fun i hi=>h.cell (f:=5) hi (by decide)
theorem bG.c6:∀i,i<N->w.cell? ⟨g,i*9+6,none⟩=some (.int .i64 (σ i).first):=fun i hi=>h.cell (f:=6) hi (by decide)
theorem bG.c7:∀i,i<N->w.cell? ⟨g,i*9+7,none⟩=some (.int .i64 (σ i).light):=fun i hi=>h.cell (f:=7) hi (by decide)
theorem bG.c8:∀i,i<N->w.cell? ⟨g,i*9+8,none⟩=some (.int .i64 (σ i).total):=fun i hi=>h.cell (f:=8) hi (by decide)
end
structure aE (w:World) (pf g N:Nat) (cap:Nat) (σ:Tbl) (edges:Int):Prop where
  hd:Blk w pf 253 [.pointer (some ⟨pf,0,none⟩),.slice (some ⟨g,0,none⟩) N cap,.int .i64 edges]
  nodes:bG w g N σ
  ne:pf≠g
  le:N<=65537
  cap:N<=cap
def bO(σ:Tbl)(i j:Nat):Bool:=decide ((σ i).key<(σ j).key)||(decide ((σ i).key=(σ j).key)&&decide (i<j))
theorem aLW{w:World}{pf g N cap:Nat}{σ:Tbl}{ed:Int}(h:aE w pf g N cap σ ed)(i j:Nat)(hi:i<N)(hj:j<N):
    Calls Tryz.prog 203 #[.pointer (some ⟨pf,0,none⟩),.int .i64 i,.int .i64 j] w fun e w' =>e=.returned (.bool (bO σ i j))/\∃n,w' =w.drewN n:=by
 have c1:=h.hd.cell 1;simp only[zJ,zK]at c1;have ci:=h.nodes.c4 i hi;have cj:=h.nodes.c4 j hj;have hN:=h.le;have hi2:(i:Int)<N:=by omega
 have hj2:(j:Int)<N:=by omega
 by_cases h1:(σ i).key<(σ j).key
 {
 have d1:decide ((σ i).key<(σ j).key)=true:=qG h1;have hr:bO σ i j=true:=by simp[bO,h1]
 rw[hr];clear hr;go_enter Tryz.func203,Tryz.ntmps203
 go_wp2
 go_quiet (fail)
 go_wp2
 go_ret;exact⟨rfl,_,rfl⟩}
 {
 have d1:decide ((σ i).key<(σ j).key)=false:=qF h1;by_cases h2:(σ i).key=(σ j).key
 {
 have d2:((σ i).key == (σ j).key)=true:=beq_iff_eq.2 h2;have hr:bO σ i j=decide (i<j):=by simp[bO,h2]
 rw[hr];clear hr;have H2:=qA h2;clear h2;by_cases h3:i<j
 {
 have d3:decide ((i:Int)<(j:Int))=true:=qG (by omega);have d4:decide (i<j)=true:=qG h3;rw[d4];clear d4;go_enter Tryz.func203,Tryz.ntmps203
 go_wp2
 go_quiet (fail)
 go_wp2
 go_ret;exact⟨rfl,_,rfl⟩}
 {
 have d3:decide ((i:Int)<(j:Int))=false:=qF (by omega);have d4:decide (i<j)=false:=qF h3;rw[d4];clear d4;go_enter Tryz.func203,Tryz.ntmps203
 go_wp2
 go_quiet (fail)
 go_wp2
 go_ret;exact⟨rfl,_,rfl⟩}}
 {
 have d2:((σ i).key == (σ j).key)=false:=qR.2 h2;have hr:bO σ i j=false:=by simp[bO,h1,h2]
 rw[hr];clear hr;have H2:=qA h2;clear h2;go_enter Tryz.func203,Tryz.ntmps203
 go_wp2
 go_quiet (fail)
 go_wp2
 go_ret;exact⟨rfl,_,rfl⟩}}
def aY(σ:Tbl)(i k:Nat):Tbl:=
  if k=0 then σ else
    let σ1:=σ.upd i { σ i with size:=wrap64 ((σ i).size+(σ k).size) }
    let σ2:=σ1.upd i { σ1 i with total:=wrap64 ((σ1 i).total+(σ1 k).total) }
    if bO σ2 (σ2 k).first (σ2 i).first then σ2.upd i { σ2 i with first:=(σ2 k).first } else σ2
def dP(σ:Tbl)(i:Nat):Tbl:=σ.upd i { σ i with size:=1,first:=i,total:=wrap64 (1+(σ i).light) }
def aEQ(σ:Tbl)(i:Nat):Nat->Tbl
  | 0=>dP σ i
  | 1=>aY (dP σ i) i (σ i).k0
  | _=>aY (aY (dP σ i) i (σ i).k0) i (σ i).k1
def refresh(σ:Tbl)(i:Nat):Tbl:=aEQ σ i 2
theorem aM(σ:Tbl)(i:Nat)(n:Nd):σ.upd i n i=n:=by simp[Tbl.upd]
theorem aI{σ:Tbl}{i j:Nat}{n:Nd}(h:j≠i):σ.upd i n j=σ j:=by simp[Tbl.upd,h]
def InR(N:Nat)(σ:Tbl):Prop:=∀i,i<N->(σ i).k0<N/\(σ i).k1<N/\(σ i).up<N/\(σ i).first<N
theorem fV{σ:Tbl}{i k j:Nat}(h:j≠i):aY σ i k j=σ j:=by
 unfold aY;by_cases hk:k=0
 · rw[qD hk]
 · rw[qC hk];dsimp only;split<;>simp[aI h]
theorem iC{σ:Tbl}{i k j:Nat}:(aY σ i k j).k0=(σ j).k0/\(aY σ i k j).k1=(σ j).k1/\(aY σ i k j).up=(σ j).up/\(aY σ i k j).flip=(σ j).flip/\(aY σ i k j).key=(σ j).key/\(aY σ i k j).light=(σ j).light:=by
 by_cases h:j=i
 {
 subst h;unfold aY;by_cases hk:k=0
 · rw[qD hk];simp
 · rw[qC hk];dsimp only;split<;>simp[aM]}
 · rw[fV h];simp
theorem oF{N:Nat}{σ:Tbl}{i k:Nat}(h:InR N σ)(hi:i<N)(hk:k<N)(hki:k≠i):InR N (aY σ i k):=by
 intro j hj;obtain⟨a,b,c,_⟩:=@iC σ i k j;rw[a,b,c];refine⟨(h j hj).1,(h j hj).2.1,(h j hj).2.2.1,?_⟩;by_cases e:j=i
 {
 subst e;unfold aY;by_cases hk0:k=0
 · rw[qD hk0];exact(h j hj).2.2.2
 {
 rw[qC hk0];dsimp only;split
 · simp[aM,aI hki];exact(h k hk).2.2.2
 · simp[aM];exact(h j hj).2.2.2}}
 · rw[fV e];exact(h j hj).2.2.2
theorem uN{N:Nat}{σ:Tbl}{i:Nat}(h:InR N σ)(hi:i<N):InR N (dP σ i):=by
 intro j hj;by_cases e:j=i
 · subst e;simp only[dP,aM];exact⟨(h j hj).1,(h j hj).2.1,(h j hj).2.2.1,hi⟩
 · simp only[dP,aI e];exact h j hj
theorem aBO{N:Nat}{σ:Tbl}{i:Nat}(h:InR N σ)(hi:i<N)(h0:(σ i).k0≠i)(h1:(σ i).k1≠i)(t:Nat):InR N (aEQ σ i t):=by
 match t with
 | 0=>exact uN h hi
 | 1=>exact oF (uN h hi) hi (h i hi).1 h0
 | t+2=>exact oF (oF (uN h hi) hi (h i hi).1 h0) hi (h i hi).2.1 h1
theorem aE.store{w w0:World}{pf g N cap:Nat}{σ:Tbl}{ed:Int}(h:aE w pf g N cap σ ed)(hF:Fr [g] w0 w){i f:Nat}(hi:i<N)(hf:f<9)(n:Nd)(v:Value)(hv:fv n f=v)(ho:∀f', f' < 9->f' ≠ f->fv n f' =fv (σ i) f'):
    aE (w.setCell ⟨g,i*9+f,none⟩ v) pf g N cap (σ.upd i n) ed/\Fr [g] w0 (w.setCell ⟨g,i*9+f,none⟩ v):=
  ⟨⟨h.hd.other _ _ h.ne,h.nodes.store hi hf n v hv ho,h.ne,h.le,h.cap⟩,hF.setCell _ _ (.inl (by simp))⟩
theorem aE.eqv{w w' :World}{pf g N cap:Nat}{σ:Tbl}{ed:Int}(h:aE w pf g N cap σ ed)(e:Eqv w' w):aE w' pf g N cap σ ed:=
  ⟨e.blk h.hd,h.nodes.eqv e,h.ne,h.le,h.cap⟩
section
variable {w w0:World} {pf g N cap:Nat} {σ:Tbl} {ed:Int} (h:aE w pf g N cap σ ed) (hF:Fr [g] w0 w) {i:Nat} (hi:i<N)
include h hF hi
theorem aE.st0(x:Nat):aE (w.setCell ⟨g,i*9,none⟩ (.int .i64 x)) pf g N cap (σ.upd i { σ i with k0:=x }) ed/\Fr [g] w0 (w.setCell ⟨g,i*9,none⟩ (.int .i64 x)):=
  h.store hF hi (f:=0) (by decide) _ _ rfl (by intro f' h1 h2;match f', h1,h2 with|1,_,_=>rfl|2,_,_=>rfl|3,_,_=>rfl|4,_,_=>rfl|5,_,_=>rfl|6,_,_=>rfl|7,_,_=>rfl|_+8,_,_=>rfl)
theorem aE.st1(x:Nat):aE (w.setCell ⟨g,i*9+1,none⟩ (.int .i64 x)) pf g N cap (σ.upd i { σ i with k1:=x }) ed/\Fr [g] w0 (w.setCell ⟨g,i*9+1,none⟩ (.int .i64 x)):=
  h.store hF hi (f:=1) (by decide) _ _ rfl (by intro f' h1 h2;match f', h1,h2 with|0,_,_=>rfl|2,_,_=>rfl|3,_,_=>rfl|4,_,_=>rfl|5,_,_=>rfl|6,_,_=>rfl|7,_,_=>rfl|_+8,_,_=>rfl)
theorem aE.st2(x:Nat):aE (w.setCell ⟨g,i*9+2,none⟩ (.int .i64 x)) pf g N cap (σ.upd i { σ i with up:=x }) ed/\Fr [g] w0 (w.setCell ⟨g,i*9+2,none⟩ (.int .i64 x)):=
  h.store hF hi (f:=2) (by decide) _ _ rfl (by intro f' h1 h2;match f', h1,h2 with|0,_,_=>rfl|1,_,_=>rfl|3,_,_=>rfl|4,_,_=>rfl|5,_,_=>rfl|6,_,_=>rfl|7,_,_=>rfl|_+8,_,_=>rfl)
theorem aE.st3(x:Bool):aE (w.setCell ⟨g,i*9+3,none⟩ (.bool x)) pf g N cap (σ.upd i { σ i with flip:=x }) ed/\Fr [g] w0 (w.setCell ⟨g,i*9+3,none⟩ (.bool x)):=
  h.store hF hi (f:=3) (by decide) _ _ rfl (by intro f' h1 h2;match f', h1,h2 with|0,_,_=>rfl|1,_,_=>rfl|2,_,_=>rfl|4,_,_=>rfl|5,_,_=>rfl|6,_,_=>rfl|7,_,_=>rfl|_+8,_,_=>rfl)
theorem aE.st4(x:Int):aE (w.setCell ⟨g,i*9+4,none⟩ (.int .i64 x)) pf g N cap (σ.upd i { σ i with key:=x }) ed/\Fr [g] w0 (w.setCell ⟨g,i*9+4,none⟩ (.int .i64 x)):=
  h.store hF hi (f:=4) (by decide) _ _ rfl (by intro f' h1 h2;match f', h1,h2 with|0,_,_=>rfl|1,_,_=>rfl|2,_,_=>rfl|3,_,_=>rfl|5,_,_=>rfl|6,_,_=>rfl|7,_,_=>rfl|_+8,_,_=>rfl)
theorem aE.st5(x:Int):aE (w.setCell ⟨g,i*9+5,none⟩ (.int .i64 x)) pf g N cap (σ.upd i { σ i with size:=x }) ed/\Fr [g] w0 (w.setCell ⟨g,i*9+5,none⟩ (.int .i64 x)):=
  h.store hF hi (f:=5) (by decide) _ _ rfl (by intro f' h1 h2;match f', h1,h2 with|0,_,_=>rfl|1,_,_=>rfl|2,_,_=>rfl|3,_,_=>rfl|4,_,_=>rfl|6,_,_=>rfl|7,_,_=>rfl|_+8,_,_=>rfl)
theorem aE.st6(x:Nat):aE (w.setCell ⟨g,i*9+6,none⟩ (.int .i64 x)) pf g N cap (σ.upd i { σ i with first:=x }) ed/\Fr [g] w0 (w.setCell ⟨g,i*9+6,none⟩ (.int .i64 x)):=
  h.store hF hi (f:=6) (by decide) _ _ rfl (by intro f' h1 h2;match f', h1,h2 with|0,_,_=>rfl|1,_,_=>rfl|2,_,_=>rfl|3,_,_=>rfl|4,_,_=>rfl|5,_,_=>rfl|7,_,_=>rfl|_+8,_,_=>rfl)
theorem aE.st7(x:Int):aE (w.setCell ⟨g,i*9+7,none⟩ (.int .i64 x)) pf g N cap (σ.upd i { σ i with light:=x }) ed/\Fr [g] w0 (w.setCell ⟨g,i*9+7,none⟩ (.int .i64 x)):=
  h.store hF hi (f:=7) (by decide) _ _ rfl (by intro f' h1 h2;match f', h1,h2 with|0,_,_=>rfl|1,_,_=>rfl|2,_,_=>rfl|3,_,_=>rfl|4,_,_=>rfl|5,_,_=>rfl|6,_,_=>rfl|_+8,_,_=>rfl)
theorem aE.st8(x:Int):aE (w.setCell ⟨g,i*9+8,none⟩ (.int .i64 x)) pf g N cap (σ.upd i { σ i with total:=x }) ed/\Fr [g] w0 (w.setCell ⟨g,i*9+8,none⟩ (.int .i64 x)):=
  h.store hF hi (f:=8) (by decide) _ _ rfl (by intro f' h1 h2;match f', h1,h2 with|0,_,_=>rfl|1,_,_=>rfl|2,_,_=>rfl|3,_,_=>rfl|4,_,_=>rfl|5,_,_=>rfl|6,_,_=>rfl|7,_,_=>rfl|m+8,h1,h2=>exact absurd (show m+8=8 by omega) h2)
end
theorem rK(x y:Value)(w:World):(Instr.index 249 (.agg #[x,y]) (.int .i64 0)).run Tryz.prog w=.ok x w:=by kernel_rfl
theorem rL(x y:Value)(w:World):(Instr.index 249 (.agg #[x,y]) (.int .i64 1)).run Tryz.prog w=.ok y w:=by kernel_rfl
theorem aLX{w:World}{pf g N cap:Nat}{σ:Tbl}{ed:Int}(h:aE w pf g N cap σ ed){i:Nat}(hi:i<N):
    aE (((w.setCell ⟨g,i*9+5,none⟩ (.int .i64 1)).setCell ⟨g,i*9+6,none⟩ (.int .i64 i)).setCell ⟨g,i*9+8,none⟩ (.int .i64 (wrap64 (1+(σ i).light)))) pf g N cap (dP σ i) ed /\
      Fr [g] w (((w.setCell ⟨g,i*9+5,none⟩ (.int .i64 1)).setCell ⟨g,i*9+6,none⟩ (.int .i64 i)).setCell ⟨g,i*9+8,none⟩ (.int .i64 (wrap64 (1+(σ i).light)))):=by
 obtain⟨h1,f1⟩:=h.st5 (Fr.refl _ _) hi 1;obtain⟨h2,f2⟩:=h1.st6 f1 hi i;obtain⟨h3,f3⟩:=h2.st8 f2 hi (wrap64 (1+(σ i).light));refine⟨⟨h3.hd,h3.nodes.congr ?_,h3.ne,h3.le,h3.cap⟩,f3⟩;intro j _;by_cases e:j=i
 · subst e;simp[dP,aM]
 · simp[dP,aI e]
theorem aLY(n:Int):IntKind.i64.wrap n=wrap64 n:=by rw[IntKind.wrap_i64];unfold wrap64;omega
theorem eB{w:World}{pf g N cap:Nat}{σ:Tbl}{ed:Int}(h:aE w pf g N cap σ ed)(i:Nat)(hi:i<N)(hR:InR N σ)(h0:(σ i).k0≠i)(h1:(σ i).k1≠i):
    Calls Tryz.prog 167 #[.pointer (some ⟨pf,0,none⟩),.int .i64 i] w fun e w' =>e=.returned (.tuple #[])/\aE w' pf g N cap (refresh σ i) ed/\Fr [g] w w' :=by
 have c1:=h.hd.cell 1;simp only[zJ,zK]at c1;have hN:=h.le;have a0:=h.nodes.c0 i hi;have a1:=h.nodes.c1 i hi;have a5:=h.nodes.c5 i hi;have a6:=h.nodes.c6 i hi;have a7:=h.nodes.c7 i hi;have a8:=h.nodes.c8 i hi;have hfz:=h.nodes.frozen;have hi2:(i:Int)<N:=by omega
 obtain⟨hm0,hf0⟩:=aLX h hi;have HR:=qA hR;clear hR;have H0:=qA h0;clear h0;have H1:=qA h1;clear h1;go_enter Tryz.func167,Tryz.ntmps167
 go_wp2
 generalize hW:(((w.setCell ⟨g,i*9+5,none⟩ (.int .i64 1)).setCell ⟨g,i*9+6,none⟩ (.int .i64 i)).setCell ⟨g,i*9+8,none⟩ (.int .i64 (wrap64 (1+(σ i).light))))=W0 at *;clear hW a0 a1 a5 a6 a7 a8 hfz c1;go_loopw [33] (fun x wr=>∃t:Nat,t<=2/\x=.int .i64 t/\aE wr pf g N cap (aEQ σ i t) ed/\Fr [g] w wr) (fun x _=>2-(intOf x).toNat)
 case atStart=>exact⟨0,by omega,rfl,hm0,hf0⟩
 case round=>
  clear hm0 hf0;obtain⟨t,ht,rfl,hL,hF⟩:=hrel;by_cases hlt:t<2
  {
  have hInR:=aBO HR.out hi H0.out H1.out t;obtain⟨k,hix,hkN,hki,hnx⟩:∃k:Nat,(∀W:World,(Instr.index 249 (.agg #[.int .i64 (σ i).k0,.int .i64 (σ i).k1]) (.int .i64 t)).run Tryz.prog W=.ok (.int .i64 k) W)/\k<N/\k≠i/\aEQ σ i (t+1)=aY (aEQ σ i t) i k:=by {
  rcases(show t=0∨t=1 by omega) with rfl|rfl
  · exact⟨(σ i).k0,fun W=>rK _ _ W,(HR.out i hi).1,H0.out,rfl⟩
  · exact⟨(σ i).k1,fun W=>rL _ _ W,(HR.out i hi).2.1,H1.out,rfl⟩};have Hnx:=qA hnx;clear hnx;have HIn:=qA hInR;clear hInR;generalize aEQ σ i t=τ at *;by_cases hk0:k=0
  {
  subst hk0;go_wp2
  go_roundw
  case rel=>exact⟨t+1,by omega,by go_num,by rw[Hnx.out];exact hL,hF⟩
  case measure=>simp[intOf];omega}
  {
  have hb0:((k:Int) == 0)=false:=qR.2 (by omega);have hk2:(k:Int)<N:=by omega
  have c1:=hL.hd.cell 1;simp only[zJ,zK]at c1;have a5:=hL.nodes.c5 i hi;have b5:=hL.nodes.c5 k hkN;have hfz:=hL.nodes.frozen;go_wp2
  refine bF 11 (fun w' =>aE w' pf g N cap (τ.upd i { τ i with size:=wrap64 ((τ i).size+(τ k).size) }) ed/\Fr [g] w w') (by kernel_rfl) (by kernel_rfl) (by kernel_rfl) ?_;iterate 11 (refine bM (by decide) (fun K hK=>?_);go_simp;refine hK _ ?_;clear hK K)
  refine aU rfl undef (fun w' hw' =>?_) ?_
  {
  obtain⟨nq,rfl⟩:=hw';go_simp;rw[aLY];exact(hL.eqv (Eqv.drewN wr nq)).st5 (hF.drewN nq) hi _};refine bN ?_;rintro w2 ⟨hL2,hF2⟩;have hk1:τ.upd i { τ i with size:=wrap64 ((τ i).size+(τ k).size) } k=τ k:=aI hki;have c1' :=hL2.hd.cell 1;simp only[zJ,zK]at c1';have a8:=hL2.nodes.c8 i hi;have b8:=hL2.nodes.c8 k hkN;rw[hk1]at b8;rw[aM]at a8;have hfz2:=hL2.nodes.frozen;clear a5 b5 hfz c1 hk1;go_wp2
  refine bF 11 (fun w' =>aE w' pf g N cap ((τ.upd i { τ i with size:=wrap64 ((τ i).size+(τ k).size) }).upd i { τ i with size:=wrap64 ((τ i).size+(τ k).size),total:=wrap64 ((τ i).total+(τ k).total) }) ed/\Fr [g] w w') (by kernel_rfl) (by kernel_rfl) (by kernel_rfl) ?_;iterate 11 (refine bM (by decide) (fun K hK=>?_);go_simp;refine hK _ ?_;clear hK K)
  refine aU rfl undef (fun w' hw' =>?_) ?_
  {
  obtain⟨nq,rfl⟩:=hw';go_simp;have:=(hL2.eqv (Eqv.drewN w2 nq)).st8 (hF2.drewN nq) hi (wrap64 ((τ i).total+(τ k).total));rw[aM]at this;rw[aLY];exact this};refine bN ?_;rintro w3 ⟨hL3,hF3⟩;clear a8 b8 hfz2 c1' hL hL2 hF hF2;have hns:aY τ i k=if bO ((τ.upd i { τ i with size:=wrap64 ((τ i).size+(τ k).size) }).upd i { τ i with size:=wrap64 ((τ i).size+(τ k).size),total:=wrap64 ((τ i).total+(τ k).total) }) (τ k).first (τ i).first then((τ.upd i { τ i with size:=wrap64 ((τ i).size+(τ k).size) }).upd i { τ i with size:=wrap64 ((τ i).size+(τ k).size),total:=wrap64 ((τ i).total+(τ k).total) }).upd i { τ i with size:=wrap64 ((τ i).size+(τ k).size),total:=wrap64 ((τ i).total+(τ k).total),first:=(τ k).first } else((τ.upd i { τ i with size:=wrap64 ((τ i).size+(τ k).size) }).upd i { τ i with size:=wrap64 ((τ i).size+(τ k).size),total:=wrap64 ((τ i).total+(τ k).total) }):=by {
  unfold aY;rw[qC hk0];simp only[aM,aI hki]};have Hns:=qA hns;clear hns;have c6:=hL3.nodes.c6 i hi;have d6:=hL3.nodes.c6 k hkN;have hk1:((τ.upd i { τ i with size:=wrap64 ((τ i).size+(τ k).size) }).upd i { τ i with size:=wrap64 ((τ i).size+(τ k).size),total:=wrap64 ((τ i).total+(τ k).total) }) k=τ k:=by rw[aI hki,aI hki]
  have hi1:((τ.upd i { τ i with size:=wrap64 ((τ i).size+(τ k).size) }).upd i { τ i with size:=wrap64 ((τ i).size+(τ k).size),total:=wrap64 ((τ i).total+(τ k).total) }) i={ τ i with size:=wrap64 ((τ i).size+(τ k).size),total:=wrap64 ((τ i).total+(τ k).total) }:=aM _ _ _;rw[hi1]at c6;rw[hk1]at d6;have hst:=fun nq:Nat=>(hL3.eqv (Eqv.drewN w3 nq)).st6 (hF3.drewN nq) hi (τ k).first
  rw[hi1]at hst;generalize ((τ.upd i { τ i with size:=wrap64 ((τ i).size+(τ k).size) }).upd i { τ i with size:=wrap64 ((τ i).size+(τ k).size),total:=wrap64 ((τ i).total+(τ k).total) })=τ2 at *;have hbf:=fun W (hW:aE W pf g N cap τ2 ed)=>aLW hW (τ k).first (τ i).first (HIn.out k hkN).2.2.2 (HIn.out i hi).2.2.2
  have Hbf:=qA hbf;clear hbf hk1 hi1;have hfz3:=hL3.nodes.frozen;have Hst:=qA hst;clear hst;dsimp only at c6
  cases hB:bO τ2 (τ k).first (τ i).first with
  | true=>{
  rw[hB]at Hbf Hns;clear hB;go_wp2
  go_quiet ((go_at_call 203;exact Calls.quiet_of (Hbf.out _ (hL3.eqv (Eqv.drewN _ _)))))
  go_wp2
  exact⟨⟨t+1,by omega,by go_num,by rw[Hnx.out,Hns.out,qD trivial];exact(Hst.out nq).1,(Hst.out nq).2⟩,by simp[intOf];omega⟩}
  | false=>{
  rw[hB]at Hbf Hns;clear hB;go_wp2
  go_quiet ((go_at_call 203;exact Calls.quiet_of (Hbf.out _ (hL3.eqv (Eqv.drewN _ _)))))
  go_wp2
  exact⟨⟨t+1,by omega,by go_num,by rw[Hnx.out,Hns.out,qC (by decide)];exact hL3.eqv (Eqv.drewN w3 nq),hF3.drewN nq⟩,by simp[intOf];omega⟩}}}
  {
  obtain rfl:t=2:=by omega
  go_wp2
  go_end0
  exact⟨rfl,hL,hF⟩}
def lI(σ:Tbl)(k:Nat):Tbl:=if k=0 then σ else σ.upd k { σ k with flip:= !(σ k).flip }
def kR(σ:Tbl)(i:Nat):Tbl:=σ.upd i { σ i with flip:=false,k0:=(σ i).k1,k1:=(σ i).k0 }
def xF(σ:Tbl)(i:Nat):Nat->Tbl
  | 0=>kR σ i
  | 1=>lI (kR σ i) (σ i).k1
  | _=>lI (lI (kR σ i) (σ i).k1) (σ i).k0
def push(σ:Tbl)(i:Nat):Tbl:=if (σ i).flip then xF σ i 2 else σ
theorem aE.congr{w:World}{pf g N cap:Nat}{σ τ:Tbl}{ed:Int}(h:aE w pf g N cap σ ed)(e:∀i,σ i=τ i):aE w pf g N cap τ ed:=by
 have:σ=τ:=funext e;rw[<-this];exact h
theorem aUA{w:World}{pf g N cap:Nat}{σ:Tbl}{ed:Int}(h:aE w pf g N cap σ ed)(i:Nat)(hi:i<N)(hR:InR N σ):
    Calls Tryz.prog 227 #[.pointer (some ⟨pf,0,none⟩),.int .i64 i] w fun e w' =>e=.returned (.tuple #[])/\aE w' pf g N cap (push σ i) ed/\Fr [g] w w' :=by
 have c1:=h.hd.cell 1;simp only[zJ,zK]at c1;have hN:=h.le;have a3:=h.nodes.c3 i hi;have hfz:=h.nodes.frozen;have hi2:(i:Int)<N:=by omega
 have HR:=qA hR;clear hR;by_cases hfl:(σ i).flip=true
 {
 have hp:push σ i=xF σ i 2:=by unfold push;rw[qD hfl]
 have Hp:=qA hp;clear hp;rw[hfl]at a3;have Hfl:=qA hfl;clear hfl;obtain⟨h1,f1⟩:=h.st3 (Fr.refl _ _) hi false;go_enter Tryz.func227,Tryz.ntmps227
 go_wp2
 generalize hW:w.setCell ⟨g,i*9+3,none⟩ (.bool false)=W0 at *;clear hW a3 c1 hfz;have a0:=h1.nodes.c0 i hi;have a1:=h1.nodes.c1 i hi;rw[aM]at a0 a1;dsimp only at a0 a1
 have hfz:=h1.nodes.frozen;have c1:=h1.hd.cell 1;simp only[zJ,zK]at c1;refine sC [15,19] [1] (fun q w' =>match q with
   | 0=>∃n,w' =W0.drewN n
   | 1=>aE w' pf g N cap ((σ.upd i { σ i with flip:=false }).upd i { σ i with flip:=false,k0:=(σ i).k1 }) ed/\Fr [g] w w'
   | _=>aE w' pf g N cap (kR σ i) ed/\Fr [g] w w') (fun w' =>Iff.rfl) (by kernel_rfl) (by kernel_rfl) (by kernel_rfl) ?_
 refine mQ (by decide) (fun K hK=>?_);go_simp;refine hK _ ?_;clear hK K;refine kA (by decide) (fun K hK=>?_);go_simp;refine hK _ ?_;clear hK K;iterate 13 (refine mQ (by decide) (fun K hK=>?_);go_simp;refine hK _ ?_;clear hK K)
 refine iX (q:=0) (by decide) rfl undef (fun w' hw' =>?_) ?_
 {
 obtain⟨nq,rfl⟩:=hw';go_simp;have:=(h1.eqv (Eqv.drewN W0 nq)).st0 (f1.drewN nq) hi (σ i).k1;rw[aM]at this;exact this};iterate 3 (refine kA (by decide) (fun K hK=>?_);go_simp;refine hK _ ?_;clear hK K)
 refine iX (q:=1) (by decide) rfl undef (fun w' hw' =>?_) ?_
 {
 obtain⟨hA,hB⟩:=hw';have hfz' :=hA.nodes.frozen;have b1:=hA.nodes.c1 i hi;go_simp;have:=hA.st1 hB hi (σ i).k0;rw[aM]at this;refine⟨this.1.congr ?_,this.2⟩;intro j;by_cases e:j=i
 · subst e;simp[kR,aM]
 · simp[kR,aI e]};refine xC ?_;rintro w2 ⟨h2,f2⟩;clear a0 a1 hfz c1 h1 f1;have a0:=h2.nodes.c0 i hi;have a1:=h2.nodes.c1 i hi;simp only[kR,aM]at a0 a1;go_wp2
 clear a0 a1;go_loopw [43] (fun x wr=>∃t:Nat,t<=2/\x=.int .i64 t/\aE wr pf g N cap (xF σ i t) ed/\Fr [g] w wr) (fun x _=>2-(intOf x).toNat)
 case atStart=>exact⟨0,by omega,rfl,h2,f2⟩
 case round=>
  clear h2 f2;obtain⟨t,ht,rfl,hL,hF⟩:=hrel;by_cases hlt:t<2
  {
  obtain⟨k,hix,hkN,hnx⟩:∃k:Nat,(∀W:World,(Instr.index 249 (.agg #[.int .i64 (σ i).k1,.int .i64 (σ i).k0]) (.int .i64 t)).run Tryz.prog W=.ok (.int .i64 k) W)/\k<N/\xF σ i (t+1)=lI (xF σ i t) k:=by {
  rcases(show t=0∨t=1 by omega) with rfl|rfl
  · exact⟨(σ i).k1,fun W=>rK _ _ W,(HR.out i hi).2.1,rfl⟩
  · exact⟨(σ i).k0,fun W=>rL _ _ W,(HR.out i hi).1,rfl⟩};have Hnx:=qA hnx;clear hnx;generalize xF σ i t=τ at *;by_cases hk0:k=0
  {
  subst hk0;go_wp2
  exact⟨⟨t+1,by omega,by go_num,by rw[Hnx.out];exact hL,hF⟩,by simp[intOf];omega⟩}
  {
  have hb0:((k:Int) == 0)=false:=qR.2 (by omega);have hk2:(k:Int)<N:=by omega
  have c1:=hL.hd.cell 1;simp only[zJ,zK]at c1;have a3:=hL.nodes.c3 k hkN;have hfz:=hL.nodes.frozen;go_wp2
  refine bF 16 (fun w' =>aE w' pf g N cap (τ.upd k { τ k with flip:= !(τ k).flip }) ed/\Fr [g] w w') (by kernel_rfl) (by kernel_rfl) (by kernel_rfl) ?_;iterate 16 (refine bM (by decide) (fun K hK=>?_);go_simp;refine hK _ ?_;clear hK K)
  refine aU rfl undef (fun w' hw' =>?_) ?_
  {
  obtain⟨nq,rfl⟩:=hw';go_simp;exact(hL.eqv (Eqv.drewN wr nq)).st3 (hF.drewN nq) hkN _};refine bN ?_;rintro w3 ⟨h3,f3⟩;go_wp2
  exact⟨⟨t+1,by omega,by go_num,by rw[Hnx.out];unfold lI;rw[qC hk0];exact h3,f3⟩,by simp[intOf];omega⟩}}
  {
  obtain rfl:t=2:=by omega
  go_wp2
  go_end0
  exact⟨rfl,by rw[Hp.out];exact hL,hF⟩}}
 {
 have hfl:(σ i).flip=false:=by simpa using hfl
 have hp:push σ i=σ:=by unfold push;rw[qC (by simp[hfl])]
 rw[hp];clear hp;rw[hfl]at a3;go_enter Tryz.func227,Tryz.ntmps227
 go_wp2
 refine bodyPost_ret (results_none rfl _ _ _) rfl ?_;exact⟨rfl,h,Fr.refl _ _⟩}
def bD(σ:Tbl)(i:Nat):Nat×Bool:=
  if (σ i).up=0 then(0,false) else if (σ (σ i).up).k0=i then(0,true) else if (σ (σ i).up).k1=i then(1,true) else(0,false)
def aS(n:Nd)(s k:Nat):Nd:=if s=0 then { n with k0:=k } else { n with k1:=k }
def kid(n:Nd)(s:Nat):Nat:=if s=0 then n.k0 else n.k1
def hang(σ:Tbl)(i s k:Nat):Tbl:=
  let σ1:=σ.upd i (aS (σ i) s k)
  if k=0 then σ1 else σ1.upd k { σ1 k with up:=i }
theorem rM{w:World}{pf g N cap:Nat}{σ:Tbl}{ed:Int}(h:aE w pf g N cap σ ed)(i:Nat)(hi:i<N)(hR:InR N σ):
    Calls Tryz.prog 225 #[.pointer (some ⟨pf,0,none⟩),.int .i64 i] w fun e w' =>e=.returned (.tuple #[.int .i64 (bD σ i).1,.bool (bD σ i).2])/\w' =w:=by
 have c1:=h.hd.cell 1;simp only[zJ,zK]at c1;have hN:=h.le;have a2:=h.nodes.c2 i hi;have hp:=(hR i hi).2.2.1;have hi2:(i:Int)<N:=by omega
 have HR:=qA hR;clear hR;have hs:bD σ i=if (σ i).up=0 then(0,false) else if (σ (σ i).up).k0=i then(0,true) else if (σ (σ i).up).k1=i then(1,true) else(0,false):=rfl;generalize hpp:(σ i).up=p at *;have Hs:=qA hs;clear hs;by_cases hp0:p=0
 {
 subst hp0;rw[Hs.out,qD rfl];clear Hs;go_enter Tryz.func225,Tryz.ntmps225
 go_wp2
 go_ret2;exact⟨rfl,rfl⟩}
 {
 have hp2:(p:Int)<N:=by omega
 have hb0:((p:Int) == 0)=false:=qR.2 (by omega);have b0:=h.nodes.c0 p hp;have b1:=h.nodes.c1 p hp;have Hp0:=qA hp0;clear hp0;go_enter Tryz.func225,Tryz.ntmps225
 go_wp2
 clear a2 b0 b1 c1;go_loopw [27] (fun x wr=>∃t:Nat,t<=2/\x=.int .i64 t/\wr=w/\(0<t->(σ p).k0≠i)/\(1<t->(σ p).k1≠i)) (fun x _=>2-(intOf x).toNat)
 case atStart=>exact⟨0,by omega,rfl,rfl,by omega,by omega⟩
 case round=>
  obtain⟨t,ht,rfl,rfl,he0,he1⟩:=hrel;by_cases hlt:t<2
  {
  obtain⟨k,hix,hkN,hy,hn0,hn1⟩:∃k:Nat,(∀W:World,(Instr.index 249 (.agg #[.int .i64 (σ p).k0,.int .i64 (σ p).k1]) (.int .i64 t)).run Tryz.prog W=.ok (.int .i64 k) W)/\k<N/\(k=i->bD σ i=(t,true))/\(k≠i->0<t+1->(σ p).k0≠i)/\(k≠i->1<t+1->(σ p).k1≠i):=by {
  rcases(show t=0∨t=1 by omega) with rfl|rfl
  · exact⟨(σ p).k0,fun W=>rK _ _ W,(HR.out p hp).1,fun e=>by rw[Hs.out,qC Hp0.out,qD e],fun e _=>e,fun _ e=>by omega⟩
  · exact⟨(σ p).k1,fun W=>rL _ _ W,(HR.out p hp).2.1,fun e=>by rw[Hs.out,qC Hp0.out,qC (he0 (by decide)),qD e],fun _ _=>he0 (by decide),fun e _=>e⟩};have Hy:=qA hy;clear hy;have Hn0:=qA hn0;clear hn0;have Hn1:=qA hn1;clear hn1;clear he0 he1;by_cases hki:k=i
  {
  have hb:((k:Int) == (i:Int))=true:=beq_iff_eq.2 (by omega);go_wp2
  go_ret2;rw[Hy.out hki];exact⟨rfl,rfl⟩}
  {
  have hb:((k:Int) == (i:Int))=false:=qR.2 (by omega);go_wp2
  exact⟨⟨t+1,by omega,by go_num,trivial,Hn0.out hki,Hn1.out hki⟩,by simp[intOf];omega⟩}}
  {
  obtain rfl:t=2:=by omega
  have hs:bD σ i=(0,false):=by rw[Hs.out,qC Hp0.out,qC (he0 (by decide)),qC (he1 (by decide))]
  have Hs' :=qA hs;clear hs;clear Hs he0 he1;go_wp2
  go_ret2;rw[Hs'.out];exact⟨rfl,rfl⟩}}
theorem kE{w:World}{pf g N cap:Nat}{σ:Tbl}{ed:Int}(h:aE w pf g N cap σ ed)(i s k:Nat)(hi:i<N)(hs:s<2)(hk:k<N):
    Calls Tryz.prog 244 #[.pointer (some ⟨pf,0,none⟩),.int .i64 i,.int .i64 s,.int .i64 k] w fun e w' =>e=.returned (.tuple #[])/\aE w' pf g N cap (hang σ i s k) ed/\Fr [g] w w' :=by
 have c1:=h.hd.cell 1;simp only[zJ,zK]at c1;have hN:=h.le;have hfz:=h.nodes.frozen;have hi2:(i:Int)<N:=by omega
 have hk2:(k:Int)<N:=by omega
 have key:∀W1:World,aE W1 pf g N cap (σ.upd i (aS (σ i) s k)) ed/\Fr [g] w W1->(k=0->aE W1 pf g N cap (hang σ i s k) ed/\Fr [g] w W1)/\(k≠0->aE (W1.setCell ⟨g,k*9+2,none⟩ (.int .i64 i)) pf g N cap (hang σ i s k) ed/\Fr [g] w (W1.setCell ⟨g,k*9+2,none⟩ (.int .i64 i))):=by {
 intro W1 ⟨h1,f1⟩;constructor
 · intro e;unfold hang;rw[qD e];exact⟨h1,f1⟩
 · intro e;unfold hang;rw[qC e];exact h1.st2 f1 hk i};have Key:=qA key;clear key;rcases(show s=0∨s=1 by omega) with rfl|rfl
 {
 obtain⟨h1,f1⟩:=h.st0 (Fr.refl _ _) hi k;have a0:=h.nodes.c0 i hi;have K:=qA (Key.out _ ⟨h1,f1⟩);clear Key f1;by_cases hk0:k=0
 {
 have r:=K.out.1 hk0;clear K h1;subst hk0;go_enter Tryz.func244,Tryz.ntmps244
 go_wp2
 go_end0
 exact⟨rfl,r⟩}
 {
 have hb0:((k:Int) == 0)=false:=qR.2 (by omega);have hfz1:=h1.nodes.frozen;have d1:=h1.hd.cell 1;simp only[zJ,zK]at d1;have b2:=h1.nodes.c2 k hk;have r:=K.out.2 hk0;clear K h1;go_enter Tryz.func244,Tryz.ntmps244
 go_wp2
 go_end0
 exact⟨rfl,r⟩}}
 {
 obtain⟨h1,f1⟩:=h.st1 (Fr.refl _ _) hi k;have a0:=h.nodes.c1 i hi;have K:=qA (Key.out _ ⟨h1,f1⟩);clear Key f1;by_cases hk0:k=0
 {
 have r:=K.out.1 hk0;clear K h1;subst hk0;go_enter Tryz.func244,Tryz.ntmps244
 go_wp2
 go_end0
 exact⟨rfl,r⟩}
 {
 have hb0:((k:Int) == 0)=false:=qR.2 (by omega);have hfz1:=h1.nodes.frozen;have d1:=h1.hd.cell 1;simp only[zJ,zK]at d1;have b2:=h1.nodes.c2 k hk;have r:=K.out.2 hk0;clear K h1;go_enter Tryz.func244,Tryz.ntmps244
 go_wp2
 go_end0
 exact⟨rfl,r⟩}}
def rot1(σ:Tbl)(i:Nat):Tbl:=
  if (bD σ (σ i).up).2 then hang σ (σ (σ i).up).up (bD σ (σ i).up).1 i else σ.upd i { σ i with up:=(σ (σ i).up).up }
def wI(σ:Tbl)(i:Nat):Tbl:=hang (rot1 σ i) (σ i).up (bD σ i).1 (kid (rot1 σ i i) (1-(bD σ i).1))
def dG(σ:Tbl)(i:Nat):Tbl:=hang (wI σ i) i (1-(bD σ i).1) (σ i).up
def rotate(σ:Tbl)(i:Nat):Tbl:=refresh (refresh (dG σ i) (σ i).up) i
theorem Fr.then{g:Nat}{a b c:World}(h:Fr [g] a b)(h' :Fr [g] b c):Fr [g] a c:=h.trans h' (fun _ h=>.inl h)
theorem xG(σ:Tbl)(i:Nat):(bD σ i).1<2:=by unfold bD;split<;>(try split)<;>(try split)<;>decide
theorem InR.upd{N:Nat}{σ:Tbl}(h:InR N σ){i:Nat}{n:Nd}(hn:n.k0<N/\n.k1<N/\n.up<N/\n.first<N):InR N (σ.upd i n):=by
 intro j hj;by_cases e:j=i
 · subst e;rw[aM];exact hn
 · rw[aI e];exact h j hj
theorem InR.hang{N:Nat}{σ:Tbl}(h:InR N σ){i s k:Nat}(hi:i<N)(hk:k<N):InR N (hang σ i s k):=by
 have h1:InR N (σ.upd i (aS (σ i) s k)):=by {
 refine h.upd ?_;unfold aS;have:=h i hi;split
 · exact⟨hk,this.2⟩
 · exact⟨this.1,hk,this.2.2⟩};unfold Proofs.YtjdgpcjbgjnahaaGreatDoor.hang;dsimp only
 split
 · exact h1
 · exact h1.upd ⟨(h1 k hk).1,(h1 k hk).2.1,hi,(h1 k hk).2.2.2⟩
theorem InR.refresh{N:Nat}{σ:Tbl}(h:InR N σ){i:Nat}(hi:i<N)(h0:(σ i).k0≠i)(h1:(σ i).k1≠i):InR N (refresh σ i):=aBO h hi h0 h1 2
theorem InR.kid{N:Nat}{σ:Tbl}(h:InR N σ){i:Nat}(hi:i<N)(s:Nat):kid (σ i) s<N:=by
 unfold Proofs.YtjdgpcjbgjnahaaGreatDoor.kid;split
 · exact(h i hi).1
 · exact(h i hi).2.1
theorem InR.rot1{N:Nat}{σ:Tbl}(h:InR N σ){i:Nat}(hi:i<N):InR N (rot1 σ i):=by
 have hp:=(h i hi).2.2.1;have hg:=(h _ hp).2.2.1;unfold Proofs.YtjdgpcjbgjnahaaGreatDoor.rot1;split
 · exact h.hang hg hi
 · exact h.upd ⟨(h i hi).1,(h i hi).2.1,hg,(h i hi).2.2.2⟩
theorem aK{σ:Tbl}{i j:Nat}:(refresh σ i j).k0=(σ j).k0/\(refresh σ i j).k1=(σ j).k1/\(refresh σ i j).up=(σ j).up/\(refresh σ i j).flip=(σ j).flip/\(refresh σ i j).key=(σ j).key/\(refresh σ i j).light=(σ j).light:=by
 unfold refresh aEQ;have a:=@iC (aY (dP σ i) i (σ i).k0) i (σ i).k1 j;have b:=@iC (dP σ i) i (σ i).k0 j;have c:(dP σ i j).k0=(σ j).k0/\(dP σ i j).k1=(σ j).k1/\(dP σ i j).up=(σ j).up/\(dP σ i j).flip=(σ j).flip/\(dP σ i j).key=(σ j).key/\(dP σ i j).light=(σ j).light:=by {
 by_cases e:j=i
 · subst e;simp[dP,aM]
 · simp[dP,aI e]};refine⟨a.1.trans (b.1.trans c.1),a.2.1.trans (b.2.1.trans c.2.1),a.2.2.1.trans (b.2.2.1.trans c.2.2.1),a.2.2.2.1.trans (b.2.2.2.1.trans c.2.2.2.1),a.2.2.2.2.1.trans (b.2.2.2.2.1.trans c.2.2.2.2.1),a.2.2.2.2.2.trans (b.2.2.2.2.2.trans c.2.2.2.2.2)⟩
theorem cZ{σ:Tbl}{i j:Nat}(h:j≠i):refresh σ i j=σ j:=by
 show aY (aY (dP σ i) i (σ i).k0) i (σ i).k1 j=_
 rw[fV h,fV h,dP,aI h]
theorem lJ{w:World}{pf g N cap:Nat}{σ:Tbl}{ed:Int}(h:aE w pf g N cap σ ed)(i:Nat)(hi:i<N)(hR:InR N σ)
    (q0:(dG σ i (σ i).up).k0≠(σ i).up) (q1:(dG σ i (σ i).up).k1≠(σ i).up) (q2:(dG σ i i).k0≠i) (q3:(dG σ i i).k1≠i):
    Calls Tryz.prog 228 #[.pointer (some ⟨pf,0,none⟩),.int .i64 i] w fun e w' =>e=.returned (.tuple #[])/\aE w' pf g N cap (rotate σ i) ed/\Fr [g] w w' :=by
 have c1:=h.hd.cell 1;simp only[zJ,zK]at c1;have hN:=h.le;have hi2:(i:Int)<N:=by omega
 have hp:=(hR i hi).2.2.1;have hp2:((σ i).up:Int)<N:=by omega
 have hg:=(hR _ hp).2.2.1;have a2:=h.nodes.c2 i hi;have b2:=h.nodes.c2 _ hp;have hfz:=h.nodes.frozen;have hR1:=hR.rot1 hi;have hs:=xG σ i;have hs' :=xG σ (σ i).up;have hR2:InR N (wI σ i):=hR1.hang hp (hR1.kid hi _);have hR3:InR N (dG σ i):=hR2.hang hi hp;have HR:=qA hR;clear hR;have HR1:=qA hR1;clear hR1;have HR2:=qA hR2;clear hR2;have HR3:=qA hR3;clear hR3;have Q:=qA (zI (zI q0 q1) (zI q2 q3));clear q0 q1 q2 q3;have Hst:=qA (h.st2 (Fr.refl _ _) hi (σ (σ i).up).up);have hr1t:(bD σ (σ i).up).2=true->rot1 σ i=hang σ (σ (σ i).up).up (bD σ (σ i).up).1 i:=fun e=>by unfold rot1;rw[qD e]
 have hr1f:(bD σ (σ i).up).2=false->rot1 σ i=σ.upd i { σ i with up:=(σ (σ i).up).up }:=fun e=>by unfold rot1;rw[qC (by simp[e])]
 have Hr1t:=qA hr1t;clear hr1t;have Hr1f:=qA hr1f;clear hr1f;have Hr2:=qA (show wI σ i=hang (rot1 σ i) (σ i).up (bD σ i).1 (kid (rot1 σ i i) (1-(bD σ i).1)) from rfl);have Hr3:=qA (show dG σ i=hang (wI σ i) i (1-(bD σ i).1) (σ i).up from rfl);have s1:=rM h i hi HR.out;have s2:=rM h (σ i).up hp HR.out;have hh:=fun s (hs:s<2)=>kE h (σ (σ i).up).up s i hg hs hi;generalize hsi:bD σ i=si at *;generalize hsp:bD σ (σ i).up=sp at *;obtain⟨s,ok⟩:=si;obtain⟨s', b⟩:=sp;dsimp only at s1 s2 hs hs' Hr1t Hr1f Hr2 Hr3
 clear hsi hsp;have S1:=qA s1;clear s1;have S2:=qA s2;clear s2;have Hh:=qA (hh s' hs');clear hh hs';generalize hτ1:rot1 σ i=τ1 at *;generalize hτ2:wI σ i=τ2 at *;generalize hτ3:dG σ i=τ3 at *;have Hrot:=qA (show rotate σ i=refresh (refresh τ3 (σ i).up) i by rw[<-hτ3];rfl);clear hτ1 hτ2 hτ3;rcases(show s=0∨s=1 by omega) with rfl|rfl
 {
 have Hr2:=qA (show τ2=hang τ1 (σ i).up 0 (τ1 i).k1 from Hr2.out);have Hr3:=qA (show τ3=hang τ2 i 1 (σ i).up from Hr3.out);cases b with
 | true=>{
 have hr:=Hr1t.out rfl;have Hr:=qA hr;clear hr Hr1t Hr1f Hst;go_enter Tryz.func228,Tryz.ntmps228
 go_wp2_with fail
 refine S1.out.mono ?_;rintro _ _ ⟨rfl,rfl⟩;go_wp2_with fail
 refine S2.out.mono ?_;rintro _ _ ⟨rfl,rfl⟩;go_wp2_with fail
 refine Hh.out.mono ?_;rintro _ w1 ⟨rfl,hL1,hF1⟩;rw[<-Hr.out]at hL1;have k0:=hL1.nodes.c0 i hi;have k1:=hL1.nodes.c1 i hi;have u2:=hL1.nodes.c2 i hi;have hfz1:=hL1.nodes.frozen;have d1:=hL1.hd.cell 1;simp only[zJ,zK]at d1;go_wp2_with fail
 refine(kE hL1 (σ i).up 0 (τ1 i).k1 hp (by decide) (HR1.out i hi).2.1).mono ?_;rintro _ w2 ⟨rfl,hL2,hF2⟩;rw[<-Hr2.out]at hL2;clear hfz1 k0 k1 d1 hL1 u2;go_wp2_with fail
 refine(kE hL2 i 1 (σ i).up hi (by decide) hp).mono ?_;rintro _ w3 ⟨rfl,hL3,hF3⟩;rw[<-Hr3.out]at hL3;clear hL2;go_wp2_with fail
 refine(eB hL3 (σ i).up hp HR3.out Q.out.1.1 Q.out.1.2).mono ?_;rintro _ w4 ⟨rfl,hL4,hF4⟩;clear hL3;go_wp2_with fail
 refine(eB hL4 i hi (HR3.out.refresh hp Q.out.1.1 Q.out.1.2) (by rw[aK.1];exact Q.out.2.1) (by rw[aK.2.1];exact Q.out.2.2)).mono ?_;rintro _ w5 ⟨rfl,hL5,hF5⟩;clear hL4;go_wp2
 go_end0
 rw[<-Hrot.out]at hL5;exact⟨rfl,hL5,hF1.then (hF2.then (hF3.then (hF4.then hF5)))⟩}
 | false=>{
 have hr:=Hr1f.out rfl;have hst:=Hst.out;rw[<-hr]at hst;obtain⟨hL1,hF1⟩:=hst;clear hr Hr1t Hr1f Hst;go_enter Tryz.func228,Tryz.ntmps228
 go_wp2_with fail
 refine S1.out.mono ?_;rintro _ _ ⟨rfl,rfl⟩;go_wp2_with fail
 refine S2.out.mono ?_;rintro _ _ ⟨rfl,rfl⟩;have k0:=hL1.nodes.c0 i hi;have k1:=hL1.nodes.c1 i hi;have u2:=hL1.nodes.c2 i hi;have hfz1:=hL1.nodes.frozen;have d1:=hL1.hd.cell 1;simp only[zJ,zK]at d1;go_wp2_with fail
 refine(kE hL1 (σ i).up 0 (τ1 i).k1 hp (by decide) (HR1.out i hi).2.1).mono ?_;rintro _ w2 ⟨rfl,hL2,hF2⟩;rw[<-Hr2.out]at hL2;clear hfz1 k0 k1 d1 hL1 u2;go_wp2_with fail
 refine(kE hL2 i 1 (σ i).up hi (by decide) hp).mono ?_;rintro _ w3 ⟨rfl,hL3,hF3⟩;rw[<-Hr3.out]at hL3;clear hL2;go_wp2_with fail
 refine(eB hL3 (σ i).up hp HR3.out Q.out.1.1 Q.out.1.2).mono ?_;rintro _ w4 ⟨rfl,hL4,hF4⟩;clear hL3;go_wp2_with fail
 refine(eB hL4 i hi (HR3.out.refresh hp Q.out.1.1 Q.out.1.2) (by rw[aK.1];exact Q.out.2.1) (by rw[aK.2.1];exact Q.out.2.2)).mono ?_;rintro _ w5 ⟨rfl,hL5,hF5⟩;clear hL4;go_wp2
 go_end0
 rw[<-Hrot.out]at hL5;exact⟨rfl,hL5,hF1.then (hF2.then (hF3.then (hF4.then hF5)))⟩}}
 {
 have Hr2:=qA (show τ2=hang τ1 (σ i).up 1 (τ1 i).k0 from Hr2.out);have Hr3:=qA (show τ3=hang τ2 i 0 (σ i).up from Hr3.out);cases b with
 | true=>{
 have hr:=Hr1t.out rfl;have Hr:=qA hr;clear hr Hr1t Hr1f Hst;go_enter Tryz.func228,Tryz.ntmps228
 go_wp2_with fail
 refine S1.out.mono ?_;rintro _ _ ⟨rfl,rfl⟩;go_wp2_with fail
 refine S2.out.mono ?_;rintro _ _ ⟨rfl,rfl⟩;go_wp2_with fail
 refine Hh.out.mono ?_;rintro _ w1 ⟨rfl,hL1,hF1⟩;rw[<-Hr.out]at hL1;have k0:=hL1.nodes.c0 i hi;have k1:=hL1.nodes.c1 i hi;have u2:=hL1.nodes.c2 i hi;have hfz1:=hL1.nodes.frozen;have d1:=hL1.hd.cell 1;simp only[zJ,zK]at d1;go_wp2_with fail
 refine(kE hL1 (σ i).up 1 (τ1 i).k0 hp (by decide) (HR1.out i hi).1).mono ?_;rintro _ w2 ⟨rfl,hL2,hF2⟩;rw[<-Hr2.out]at hL2;clear hfz1 k0 k1 d1 hL1 u2;go_wp2_with fail
 refine(kE hL2 i 0 (σ i).up hi (by decide) hp).mono ?_;rintro _ w3 ⟨rfl,hL3,hF3⟩;rw[<-Hr3.out]at hL3;clear hL2;go_wp2_with fail
 refine(eB hL3 (σ i).up hp HR3.out Q.out.1.1 Q.out.1.2).mono ?_;rintro _ w4 ⟨rfl,hL4,hF4⟩;clear hL3;go_wp2_with fail
 refine(eB hL4 i hi (HR3.out.refresh hp Q.out.1.1 Q.out.1.2) (by rw[aK.1];exact Q.out.2.1) (by rw[aK.2.1];exact Q.out.2.2)).mono ?_;rintro _ w5 ⟨rfl,hL5,hF5⟩;clear hL4;go_wp2
 go_end0
 rw[<-Hrot.out]at hL5;exact⟨rfl,hL5,hF1.then (hF2.then (hF3.then (hF4.then hF5)))⟩}
 | false=>{
 have hr:=Hr1f.out rfl;have hst:=Hst.out;rw[<-hr]at hst;obtain⟨hL1,hF1⟩:=hst;clear hr Hr1t Hr1f Hst;go_enter Tryz.func228,Tryz.ntmps228
 go_wp2_with fail
 refine S1.out.mono ?_;rintro _ _ ⟨rfl,rfl⟩;go_wp2_with fail
 refine S2.out.mono ?_;rintro _ _ ⟨rfl,rfl⟩;have k0:=hL1.nodes.c0 i hi;have k1:=hL1.nodes.c1 i hi;have u2:=hL1.nodes.c2 i hi;have hfz1:=hL1.nodes.frozen;have d1:=hL1.hd.cell 1;simp only[zJ,zK]at d1;go_wp2_with fail
 refine(kE hL1 (σ i).up 1 (τ1 i).k0 hp (by decide) (HR1.out i hi).1).mono ?_;rintro _ w2 ⟨rfl,hL2,hF2⟩;rw[<-Hr2.out]at hL2;clear hfz1 k0 k1 d1 hL1 u2;go_wp2_with fail
 refine(kE hL2 i 0 (σ i).up hi (by decide) hp).mono ?_;rintro _ w3 ⟨rfl,hL3,hF3⟩;rw[<-Hr3.out]at hL3;clear hL2;go_wp2_with fail
 refine(eB hL3 (σ i).up hp HR3.out Q.out.1.1 Q.out.1.2).mono ?_;rintro _ w4 ⟨rfl,hL4,hF4⟩;clear hL3;go_wp2_with fail
 refine(eB hL4 i hi (HR3.out.refresh hp Q.out.1.1 Q.out.1.2) (by rw[aK.1];exact Q.out.2.1) (by rw[aK.2.1];exact Q.out.2.2)).mono ?_;rintro _ w5 ⟨rfl,hL5,hF5⟩;clear hL4;go_wp2
 go_end0
 rw[<-Hrot.out]at hL5;exact⟨rfl,hL5,hF1.then (hF2.then (hF3.then (hF4.then hF5)))⟩}}
inductive BT where
  | nil
  | node (f:Bool) (l:BT) (v:Nat) (r:BT)
namespace BT
def root:BT->Nat
  | nil=>0
  | node _ _ v _=>v
def nodes:BT->List Nat
  | nil=>[]
  | node _ l v r=>l.nodes++v::r.nodes
def seq:BT->List Nat
  | nil=>[]
  | node f l v r=>if f then(l.seq++v::r.seq).reverse else l.seq++v::r.seq
def flip:BT->BT
  | nil=>nil
  | node f l v r=>node (!f) l v r
theorem seq_flip(t:BT):t.flip.seq=t.seq.reverse:=by
 cases t with
 | nil=>rfl
 | node f l v r=>cases f<;>simp[flip,seq]
theorem nodes_flip(t:BT):t.flip.nodes=t.nodes:=by cases t<;>rfl
theorem root_flip(t:BT):t.flip.root=t.root:=by cases t<;>rfl
theorem seq_perm(t:BT):t.seq.Perm t.nodes:=by
 induction t with
 | nil=>exact .nil
 | node f l v r hl hr=>{
 have h:(l.seq++v::r.seq).Perm (l.nodes++v::r.nodes):=hl.append (hr.cons v);cases f with
 | false=>simpa[seq,nodes] using h
 | true=>simp only[seq,nodes,if_true];exact(List.reverse_perm _).trans h}
theorem root_mem{t:BT}(h:t.root≠0):t.root∈t.nodes:=by
 cases t with
 | nil=>exact absurd rfl h
 | node f l v r=>simp[root,nodes]
end BT
def tot(σ:Tbl)(l:List Nat):Int:=(l.map fun v=>1+(σ v).light).sum
def eV(σ:Tbl)(l:List Nat)(x:Nat):Prop:=x∈l/\∀y∈l,y≠x->bO σ x y=true
def Rep(σ:Tbl):BT->Nat->Prop
  | .nil,_=>True
  | .node f l v r,u=>(v≠0/\(σ v).up=u/\(σ v).flip=f/\(σ v).k0=l.root/\(σ v).k1=r.root)/\Rep σ l v/\Rep σ r v /\
      (σ v).size=wrap64 (BT.node f l v r).nodes.length/\(σ v).total=wrap64 (tot σ (BT.node f l v r).nodes)/\eV σ (BT.node f l v r).nodes (σ v).first
theorem cD{σ σ' :Tbl}{l:List Nat}(h:∀x∈l,(σ' x).light=(σ x).light):tot σ' l=tot σ l:=by
 unfold tot;congr 1;exact List.map_congr_left (fun x hx=>by rw[h x hx])
theorem lK{σ:Tbl}{l m:List Nat}(h:l.Perm m):tot σ l=tot σ m:=by
 unfold tot;induction h with
 | nil=>rfl
 | cons x _ ih=>simp[ih]
 | swap x y l=>simp;omega
 | trans _ _ h1 h2=>exact h1.trans h2
theorem dH{σ σ' :Tbl}{l:List Nat}{x:Nat}(h:∀x∈l,(σ' x).key=(σ x).key)(hb:eV σ l x):eV σ' l x:=by
 refine⟨hb.1,fun y hy hne=>?_⟩;have:=hb.2 y hy hne;unfold bO at this ⊢;rw[h x hb.1,h y hy];exact this
theorem Rep.congr{σ σ' :Tbl}:∀{t:BT} {u:Nat},(∀x∈t.nodes,σ' x=σ x)->Rep σ t u->Rep σ' t u
  | .nil,_,_,_=>trivial
  | .node f l v r,u,h,⟨h1,hl,hr,h2,h3,h4⟩=>by
    have hv:=h v (by simp[BT.nodes]);refine⟨by rw[hv];exact h1,hl.congr (fun x hx=>h x (by simp[BT.nodes,hx])),hr.congr (fun x hx=>h x (by simp[BT.nodes,hx])),by rw[hv];exact h2,?_,?_⟩
    · rw[hv,cD (fun x hx=>by rw[h x hx])];exact h3
    · rw[hv];exact dH (fun x hx=>by rw[h x hx]) h4
theorem Rep.reup{σ σ' :Tbl}{t:BT}{u u' :Nat}(h:Rep σ t u)(hnd:t.nodes.Nodup)(ho:∀x∈t.nodes,x≠t.root->σ' x=σ x)(hr:t.root≠0->σ' t.root={ σ t.root with up:=u' }):Rep σ' t u' :=by
 cases t with
 | nil=>trivial
 | node f l v r=>{
 obtain⟨h1,hl,hrr,h2,h3,h4⟩:=h;have hv:σ' v={ σ v with up:=u' }:=hr h1.1;have hnl:∀x∈l.nodes,x≠v:=by {
 intro x hx e;subst e;simp only[BT.nodes]at hnd;exact(qN.1 hnd).2.2 x hx x (by simp) rfl};have hnr:∀x∈r.nodes,x≠v:=by {
 intro x hx e;subst e;simp only[BT.nodes]at hnd;exact(qO.1 (qN.1 hnd).2.1).1 hx};have hlk:∀x∈(BT.node f l v r).nodes,(σ' x).light=(σ x).light/\(σ' x).key=(σ x).key:=by {
 intro x hx;by_cases e:x=v
 · subst e;rw[hv];exact⟨rfl,rfl⟩
 · rw[ho x hx e];exact⟨rfl,rfl⟩};refine⟨by rw[hv];exact⟨h1.1,rfl,h1.2.2⟩,hl.congr (fun x hx=>ho x (by simp[BT.nodes,hx]) (hnl x hx)),hrr.congr (fun x hx=>ho x (by simp[BT.nodes,hx]) (hnr x hx)),by rw[hv];exact h2,?_,?_⟩
 · rw[hv,cD (fun x hx=>(hlk x hx).1)];exact h3
 · rw[hv];exact dH (fun x hx=>(hlk x hx).2) h4}
theorem uO(a b:Int):wrap64 (wrap64 a+wrap64 b)=wrap64 (a+b):=by unfold wrap64;omega
theorem zM{σ:Tbl}{x y:Nat}(h:x≠y):bO σ x y= !bO σ y x:=by
 unfold bO;by_cases h1:(σ x).key<(σ y).key
 {
 have h2:¬(σ y).key<(σ x).key:=by omega
 have h3:¬(σ y).key=(σ x).key:=by omega
 simp[h1,h2,h3]}
 {
 by_cases h2:(σ y).key<(σ x).key
 {
 have h3:¬(σ x).key=(σ y).key:=by omega
 simp[h1,h2,h3]}
 {
 have h3:(σ x).key=(σ y).key:=by omega
 by_cases h4:x<y
 {
 have:¬y<x:=by omega
 simp[h3,h4,this]}
 {
 have:y<x:=by omega
 simp[h3,h4,this]}}}
theorem pC{σ:Tbl}{x y z:Nat}(h1:bO σ x y=true)(h2:bO σ y z=true):bO σ x z=true:=by
 unfold bO at *;simp only[Bool.or_eq_true,qX,decide_eq_true_eq]at *;omega
theorem aIY{σ:Tbl}{l m:List Nat}{x y:Nat}(hx:eV σ l x)(hy:eV σ m y):eV σ (l++m) (if bO σ y x then y else x):=by
 by_cases hb:bO σ y x=true
 {
 rw[qD hb];refine⟨by simp[hy.1],fun z hz hne=>?_⟩;rcases qE.1 hz with hz|hz
 {
 by_cases e:z=x
 · rw[e];exact hb
 · exact pC hb (hx.2 z hz e)}
 · exact hy.2 z hz hne}
 {
 rw[qC hb];refine⟨by simp[hx.1],fun z hz hne=>?_⟩;rcases qE.1 hz with hz|hz
 · exact hx.2 z hz hne
 {
 by_cases e:x=y
 · exact hy.2 z hz (by rw[<-e];exact hne) |> fun h=>by rw[e];exact h
 {
 have hxy:bO σ x y=true:=by rw[zM e];simpa using hb
 by_cases e' :z=y
 · rw[e'];exact hxy
 · exact pC hxy (hy.2 z hz e')}}}
theorem jJ{σ:Tbl}{l m:List Nat}{x:Nat}(h:l.Perm m)(hx:eV σ l x):eV σ m x:=
  ⟨h.mem_iff.1 hx.1,fun y hy=>hx.2 y (h.mem_iff.2 hy)⟩
theorem uP{σ:Tbl}{i:Nat}{k:BT}{l:List Nat}(hi:i∉k.nodes)(hk:Rep σ k i)(hsz:(σ i).size=wrap64 l.length)(htot:(σ i).total=wrap64 (tot σ l))(hb:eV σ l (σ i).first):
    (aY σ i k.root i).size=wrap64 (l++k.nodes).length/\(aY σ i k.root i).total=wrap64 (tot σ (l++k.nodes))/\eV σ (l++k.nodes) (aY σ i k.root i).first:=by
 cases k with
 | nil=>simpa[aY,BT.root,BT.nodes] using ⟨hsz,htot,hb⟩
 | node f a v b=>{
 obtain⟨h1,_,_,h2,h3,h4⟩:=hk;have hvi:v≠i:=by rintro rfl;exact hi (by simp[BT.nodes])
 have hj:=aIY hb h4;have hbef:∀τ:Tbl,(∀x,(τ x).key=(σ x).key)->∀x y,bO τ x y=bO σ x y:=by intro τ hτ x y;unfold bO;rw[hτ,hτ]
 have hfirst:(aY σ i v i).first=if bO σ (σ v).first (σ i).first then(σ v).first else(σ i).first:=by {
 unfold aY;rw[qC h1.1];simp only[aM,aI hvi];rw[hbef _ (fun x=>by by_cases e:x=i<;>simp[Tbl.upd,e])];split<;>simp[aM]};have hsize:(aY σ i v i).size=wrap64 ((σ i).size+(σ v).size)/\(aY σ i v i).total=wrap64 ((σ i).total+(σ v).total):=by {
 unfold aY;rw[qC h1.1];simp only[aM,aI hvi];split<;>simp[aM]};show(aY σ i v i).size=_/\(aY σ i v i).total=_/\eV σ _ (aY σ i v i).first
 refine⟨?_,?_,?_⟩
 · rw[hsize.1,hsz,h2,uO,zF,Int.natCast_add]
 · rw[hsize.2,htot,h3,uO];unfold tot;rw[List.map_append,List.sum_append]
 · rw[hfirst];exact hj}
theorem dU{σ:Tbl}{f:Bool}{l r:BT}{v u:Nat}(hv:v≠0)(hup:(σ v).up=u)(hf:(σ v).flip=f)(h0:(σ v).k0=l.root)(h1:(σ v).k1=r.root)(hl:Rep σ l v)(hr:Rep σ r v)(nl:v∉l.nodes)(nr:v∉r.nodes):
    Rep (refresh σ v) (.node f l v r) u:=by
 have hlk:=@aK σ v v;have hc:∀x,x≠v->refresh σ v x=σ x:=fun x hx=>cZ hx;have key:(refresh σ v v).size=wrap64 (([v]++l.nodes)++r.nodes).length/\(refresh σ v v).total=wrap64 (tot σ (([v]++l.nodes)++r.nodes))/\eV σ (([v]++l.nodes)++r.nodes) (refresh σ v v).first:=by {
 have a:=uP (σ:=dP σ v) (i:=v) (k:=l) (l:=[v]) nl (hl.congr (fun x hx=>by rw[dP,aI (by rintro rfl;exact nl hx)])) (by simp[dP,aM,wrap64]) (by simp[dP,aM,tot]) (by simp[dP,aM,eV]);have hk0:∀x,(dP σ v x).light=(σ x).light/\(dP σ v x).key=(σ x).key:=by {
 intro x;by_cases e:x=v
 · subst e;simp[dP,aM]
 · simp[dP,aI e]};have hk1:∀x,(aY (dP σ v) v l.root x).light=(σ x).light/\(aY (dP σ v) v l.root x).key=(σ x).key:=by {
 intro x;have:=@iC (dP σ v) v l.root x;exact⟨this.2.2.2.2.2.trans (hk0 x).1,this.2.2.2.2.1.trans (hk0 x).2⟩};have b:=uP (σ:=aY (dP σ v) v l.root) (i:=v) (k:=r) (l:=[v]++l.nodes) nr (hr.congr (fun x hx=>by
   have:x≠v:=by rintro rfl;exact nr hx
   rw[fV this,dP,aI this])) a.1 (by rw[a.2.1,cD (fun x _=>(hk0 x).1),cD (σ' :=aY (dP σ v) v l.root) (fun x _=>(hk1 x).1)]) (dH (fun x _=>by rw[(hk1 x).2,(hk0 x).2]) a.2.2)
 have e:refresh σ v=aY (aY (dP σ v) v l.root) v r.root:=by {
 show aY (aY (dP σ v) v (σ v).k0) v (σ v).k1=_
 rw[h0,h1]};rw[e];refine⟨b.1,?_,?_⟩
 · rw[b.2.1,cD (fun x _=>(hk1 x).1)]
 · exact dH (fun x _=>((hk1 x).2).symm) b.2.2};have hp:(([v]++l.nodes)++r.nodes).Perm (l.nodes++v::r.nodes):=by {
 simp only[zC];exact List.perm_middle.symm};refine⟨⟨hv,by rw[hlk.2.2.1];exact hup,by rw[hlk.2.2.2.1];exact hf,by rw[hlk.1];exact h0,by rw[hlk.2.1];exact h1⟩,hl.congr (fun x hx=>hc x (by rintro rfl;exact nl hx)),hr.congr (fun x hx=>hc x (by rintro rfl;exact nr hx)),?_,?_,?_⟩
 · rw[key.1,hp.length_eq];rfl
 · rw[key.2.1,cD (σ:=σ) (σ' :=refresh σ v) (fun x _=>aK.2.2.2.2.2),lK hp];rfl
 · exact dH (fun x _=>aK.2.2.2.2.1) (jJ hp key.2.2)
theorem pD{σ:Tbl}{i s k x:Nat}(hik:k≠i):hang σ i s k x=if x=i then aS (σ i) s k else if x=k/\k≠0 then { σ k with up:=i } else σ x:=by
 unfold hang;by_cases hk:k=0
 {
 simp only[qD hk];by_cases e:x=i
 · subst e;rw[aM,qD rfl]
 · rw[aI e,qC e,qC (by simp[hk])]}
 {
 simp only[qC hk];by_cases e:x=k
 · subst e;rw[aM,qC hik,qD ⟨rfl,hk⟩,aI hik]
 {
 rw[aI e];by_cases e' :x=i
 · subst e'; rw[aM,qD rfl]
 · rw[aI e', qC e', qC (by simp[e])]}}
theorem uQ(n:Nd)(s k:Nat):kid (aS n s k) s=k:=by unfold kid aS;split<;>rfl
theorem nR{n:Nd}{s s' k:Nat}(hs:s<2)(hs' :s' < 2)(h:s' ≠ s):kid (aS n s k) s' =kid n s' :=by
 unfold kid aS;rcases(show s=0∨s=1 by omega) with rfl|rfl
 · rw[qC h,qC h];simp
 {
 obtain rfl:s' =0:=by omega
 simp}
theorem iY(n:Nd)(s k:Nat):(aS n s k).up=n.up/\(aS n s k).flip=n.flip/\(aS n s k).key=n.key/\(aS n s k).size=n.size/\(aS n s k).first=n.first/\(aS n s k).light=n.light/\(aS n s k).total=n.total:=by
 unfold aS;split<;>simp
theorem aLZ(n:Nd)(s u:Nat):kid { n with up:=u } s=kid n s:=rfl
theorem aQG{σ:Tbl}{i p g s s' :Nat}(_hs:s<2)(hp:(σ i).up=p)(hg:(σ p).up=g)(h1:bD σ i=(s,true))(h2:bD σ p=(s', true))(hpi:p≠i)(hgi:g≠i)(hgp:g≠p)(hi0:i≠0)(hp0:p≠0)
    (hki:kid (σ i) (1-s)≠i) (hkp:kid (σ i) (1-s)≠p) (hkg:kid (σ i) (1-s)≠g∨kid (σ i) (1-s)=0) (x:Nat):
    dG σ i x=if x=i then { aS (σ i) (1-s) p with up:=g } else if x=p then { aS (σ p) s (kid (σ i) (1-s)) with up:=i } else if x=g then aS (σ g) s' i else if x=kid (σ i) (1-s)/\kid (σ i) (1-s)≠0 then { σ x with up:=p } else σ x:=by
 have a1:∀x,rot1 σ i x=if x=g then aS (σ g) s' i else if x=i then { σ i with up:=g } else σ x:=by {
 intro x;unfold rot1;rw[hp,h2,hg,qD rfl,pD (fun e=>hgi e.symm)];by_cases e:x=g
 · rw[qD e,qD e]
 {
 rw[qC e,qC e];by_cases e' :x=i
 · rw[qD ⟨e', hi0⟩,qD e']
 · rw[qC (fun h=>e' h.1),qC e']}};have hk1:kid (rot1 σ i i) (1-s)=kid (σ i) (1-s):=by rw[a1,qC (fun e=>hgi e.symm),qD rfl,aLZ]
 generalize hk:kid (σ i) (1-s)=k at *;have a2:∀x,wI σ i x=if x=p then aS (σ p) s k else if x=k/\k≠0 then { rot1 σ i k with up:=p } else rot1 σ i x:=by {
 intro x;unfold wI;rw[hp,h1,hk1,pD hkp];have e:rot1 σ i p=σ p:=by rw[a1 p,qC (fun e=>hgp e.symm),qC hpi]
 rw[e]};unfold dG;rw[hp,h1,pD hpi];by_cases e1:x=i
 {
 subst e1;rw[qD rfl,qD rfl,a2,qC (fun e=>hpi e.symm),qC (fun h=>hki h.1.symm),a1,qC (fun e=>hgi e.symm),qD rfl];dsimp only;unfold aS;split<;>rfl}
 {
 rw[qC e1,qC e1];by_cases e2:x=p
 {
 subst e2;rw[qD ⟨rfl,hp0⟩,qD rfl,a2,qD rfl]}
 {
 rw[qC (fun h=>e2 h.1),qC e2,a2,qC e2];by_cases e3:x=k/\k≠0
 {
 have hxg:x≠g:=by {
 intro e;rcases hkg with h|h
 · exact h (e3.1.symm.trans e)
 · exact e3.2 h};rw[qD e3,qC hxg,qD e3,<-e3.1,a1,qC hxg,qC e1]}
 {
 rw[qC e3,a1];by_cases e4:x=g
 · rw[qD e4,qD e4]
 · rw[qC e4,qC e4,qC e1,qC e3]}}}
theorem aMA{σ:Tbl}{i p g s s' :Nat}(_hs:s<2)(hp:(σ i).up=p)(hg:(σ p).up=g)(h1:bD σ i=(s,true))(h2:bD σ p=(s', false))(hpi:p≠i)(hi0:i≠0)(hp0:p≠0)
    (hki:kid (σ i) (1-s)≠i) (hkp:kid (σ i) (1-s)≠p) (x:Nat):
    dG σ i x=if x=i then { aS (σ i) (1-s) p with up:=g } else if x=p then { aS (σ p) s (kid (σ i) (1-s)) with up:=i } else if x=kid (σ i) (1-s)/\kid (σ i) (1-s)≠0 then { σ x with up:=p } else σ x:=by
 have a1:∀x,rot1 σ i x=if x=i then { σ i with up:=g } else σ x:=by {
 intro x;unfold rot1;rw[hp,h2,hg,qC (by simp)];rfl};have hk1:kid (rot1 σ i i) (1-s)=kid (σ i) (1-s):=by rw[a1,qD rfl,aLZ]
 generalize hk:kid (σ i) (1-s)=k at *;have a2:∀x,wI σ i x=if x=p then aS (σ p) s k else if x=k/\k≠0 then { rot1 σ i k with up:=p } else rot1 σ i x:=by {
 intro x;unfold wI;rw[hp,h1,hk1,pD hkp];have e:rot1 σ i p=σ p:=by rw[a1 p,qC hpi]
 rw[e]};unfold dG;rw[hp,h1,pD hpi];by_cases e1:x=i
 {
 subst e1;rw[qD rfl,qD rfl,a2,qC (fun e=>hpi e.symm),qC (fun h=>hki h.1.symm),a1,qD rfl];dsimp only;unfold aS;split<;>rfl}
 {
 rw[qC e1,qC e1];by_cases e2:x=p
 {
 subst e2;rw[qD ⟨rfl,hp0⟩,qD rfl,a2,qD rfl]}
 {
 rw[qC (fun h=>e2 h.1),qC e2,a2,qC e2];by_cases e3:x=k/\k≠0
 · rw[qD e3,qD e3,<-e3.1,a1,qC e1]
 · rw[qC e3,a1,qC e1,qC e3]}}
structure Fm where
  s:Bool
  f:Bool
  p:Nat
  o:BT
def Fm.fill(a:Fm)(t:BT):BT:=if a.s then .node a.f a.o a.p t else .node a.f t a.p a.o
def aW:List Fm->BT->BT
  | [],t=>t
  | a::c,t=>aW c (a.fill t)
def pE:List Fm->Nat->Nat
  | [],u=>u
  | a::_,_=>a.p
def sd(b:Bool):Nat:=if b then 1 else 0
def oG(σ:Tbl):List Fm->Nat->List Nat->Nat->Prop
  | [],_,_,_=>True
  | a::c,x,ns,u=>(a.p≠0/\(σ a.p).up=pE c u/\(σ a.p).flip=a.f/\kid (σ a.p) (sd a.s)=x/\kid (σ a.p) (sd !a.s)=a.o.root)/\Rep σ a.o a.p /\
      ((σ a.p).size=wrap64 (ns++a.p::a.o.nodes).length/\(σ a.p).total=wrap64 (tot σ (ns++a.p::a.o.nodes))/\eV σ (ns++a.p::a.o.nodes) (σ a.p).first)/\oG σ c a.p (ns++a.p::a.o.nodes) u
theorem jK(a:Fm)(t:BT):(a.fill t).nodes.Perm (t.nodes++a.p::a.o.nodes):=by
 unfold Fm.fill;cases a.s with
 | false=>exact .refl _
 | true=>{
 simp only[if_true,BT.nodes];refine List.perm_middle.trans (((List.perm_append_comm).cons a.p).trans List.perm_middle.symm)}
theorem jL(a:Fm)(t:BT):(a.fill t).root=a.p:=by unfold Fm.fill;split<;>rfl
theorem oG.perm{σ:Tbl}:∀{c:List Fm} {x:Nat} {ns ms:List Nat} {u:Nat},ns.Perm ms->oG σ c x ns u->oG σ c x ms u
  | [],_,_,_,_,_,_=>trivial
  | a::c,x,ns,ms,u,hp,⟨h1,h2,⟨h3,h4,h5⟩,h6⟩=>by
    have hq:(ns++a.p::a.o.nodes).Perm (ms++a.p::a.o.nodes):=hp.append_right _;exact⟨h1,h2,⟨by rw[h3,hq.length_eq],by rw[h4,lK hq],jJ hq h5⟩,h6.perm hq⟩
theorem aMB{σ:Tbl}{a:Fm}{t:BT}{u:Nat}:Rep σ (a.fill t) u↔Rep σ t a.p/\(a.p≠0/\(σ a.p).up=u/\(σ a.p).flip=a.f/\kid (σ a.p) (sd a.s)=t.root/\kid (σ a.p) (sd !a.s)=a.o.root)/\Rep σ a.o a.p /\
      ((σ a.p).size=wrap64 (t.nodes++a.p::a.o.nodes).length/\(σ a.p).total=wrap64 (tot σ (t.nodes++a.p::a.o.nodes))/\eV σ (t.nodes++a.p::a.o.nodes) (σ a.p).first):=by
 have hp:=jK a t;obtain⟨s,f,p,o⟩:=a;cases s with
 | false=>{
 simp only[Fm.fill,Rep,kid,sd,Bool.not_false,if_true,Bool.false_eq_true,if_false,BT.nodes,Nat.one_ne_zero];constructor
 · rintro⟨⟨a1,a2,a3,a4,a5⟩,b,c,d⟩;exact⟨b,⟨a1,a2,a3,a4,a5⟩,c,d⟩
 · rintro⟨b,⟨a1,a2,a3,a4,a5⟩,c,d⟩;exact⟨⟨a1,a2,a3,a4,a5⟩,b,c,d⟩}
 | true=>{
 simp only[Fm.fill,if_true,BT.nodes]at hp;simp only[Fm.fill,Rep,kid,sd,Bool.not_true,if_true,Bool.false_eq_true,if_false,BT.nodes,Nat.one_ne_zero];rw[hp.length_eq,lK hp];constructor
 · rintro⟨⟨a1,a2,a3,a4,a5⟩,b,c,d,e,g⟩;exact⟨c,⟨a1,a2,a3,a5,a4⟩,b,d,e,jJ hp g⟩
 · rintro⟨c,⟨a1,a2,a3,a5,a4⟩,b,d,e,g⟩;exact⟨⟨a1,a2,a3,a4,a5⟩,b,c,d,e,jJ hp.symm g⟩}
theorem eZ{σ:Tbl}:∀{c:List Fm} {t:BT} {u:Nat},Rep σ (aW c t) u↔Rep σ t (pE c u)/\oG σ c t.root t.nodes u
  | [],t,u=>by simp[aW,pE,oG]
  | a::c,t,u=>by
    simp only[aW,pE,oG];rw[eZ,aMB,jL];constructor
    · rintro⟨⟨h1,h2,h3,h4⟩,h5⟩;exact⟨h1,h2,h3,h4,h5.perm (jK a t)⟩
    · rintro⟨h1,h2,h3,h4,h5⟩;exact⟨⟨h1,h2,h3,h4⟩,h5.perm (jK a t).symm⟩
end Go.Proofs.YtjdgpcjbgjnahaaGreatDoor
