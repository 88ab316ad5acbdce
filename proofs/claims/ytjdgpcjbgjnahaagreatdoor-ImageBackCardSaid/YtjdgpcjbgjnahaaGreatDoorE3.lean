/- slices.Sort at uint64: partialInsertionSortOrdered. -/
import Derived.Deep.WholeRow
import Derived.StillTailTactics
import Derived.Test.YtjdgpcjbgjnahaaGreatDoorE2
import Derived.Sort.WalkA
import Derived.Sort.Walk13a
import Derived.CellFam
import Derived.BigGuard
import Derived.BigCall
import Derived.Deep.Draws
import Derived.Test.YtjdgpcjbgjnahaaGreatDoorE1
import Derived.Sort.WalkB3
import Derived.Sort.WalkB12
import Derived.Sort.WalkD1
import Derived.Sort.LotD4
import Derived.Shelf.Lay
import Derived.Shelf.Small.Bits
import Derived.Ground.Names2Prog
import Derived.Sort.Walk7
import Derived.Sort.WalkC
import Derived.Sort.WalkC4
import Derived.Sort.WalkA6
set_option maxRecDepth 10000
set_option maxHeartbeats 12800000
set_option linter.unusedSimpArgs false
set_option linter.unusedVariables false
/- arena: Copy. -/
namespace Go.Proofs.YtjdgpcjbgjnahaaGreatDoor
open Go.RowKit
theorem uB{w:World}{pa:Nat}{A:Ar}{l:List Nat}(h:aR w pa A l):
    Calls Tryz.prog 115 #[ptr pa] w fun e w' =>∃pa', e=.returned (ptr pa')/\∃l', aR w' pa' A l' /\ Fr [] w w' /\ ∀b∈l', w.heap.size<=b:=by
 have hok:=h.ok;have hs:=hok.hs;have hb:=hok.hb;have HA:=qA h;obtain⟨v0,bs,st,af,h1,h2,h3,rfl,hnd,hl,_,hst,hch⟩:=h;have c0:=h1.cell 0;have c1:=h1.cell 1;have c2:=h1.cell 2;have c3:=h1.cell 3;have c4:=h1.cell 4;have c5:=h1.cell 5;simp only[zJ,zK]at c0 c1 c2 c3 c4 c5;obtain⟨a2,cp2,rfl⟩:=aO h2;have hpa:=h1.lt;have H1:=qA (zI h1 (zI h2 h3));clear h1 h2 h3;have hbl:bs.length<=1024:=by omega
 go_enter Tryz.func115,Tryz.ntmps115
 go_wp2_with (go_at_call 144;refine(cK pa _ c0).mono ?_;rintro e w' ⟨rfl,rfl⟩)
 go_still_tail 16,(by kernel_rfl)
 change wpList _ _ _ _ _ w.drew;have hF0:Fr [] w (w.alloc (.cells #[.pointer (some ⟨w.heap.size,0,none⟩),.slice none 0 0,.int .i64 A.slots,.int .i64 A.begun,.int .i64 A.used,.int .i64 (eU A.free)] 214)).drew:=((Fr.refl [] w).alloc _).drew;have hb0:=(Blk.new w [ptr w.heap.size,.slice none 0 0,.int .i64 A.slots,.int .i64 A.begun,.int .i64 A.used,.int .i64 (eU A.free)] 214).drew;have d1:(w.alloc (.cells #[.pointer (some ⟨w.heap.size,0,none⟩),.slice none 0 0,.int .i64 A.slots,.int .i64 A.begun,.int .i64 A.used,.int .i64 (eU A.free)] 214)).cell? ⟨pa,1,none⟩=some (.slice a2 bs.length cp2):=((Fr.refl [] w).alloc _).cell c1 (by simp);go_wp2
 have hsz1:(w.alloc (.cells #[.pointer (some ⟨w.heap.size,0,none⟩),.slice none 0 0,.int .i64 A.slots,.int .i64 A.begun,.int .i64 A.used,.int .i64 (eU A.free)] 214)).drew.heap.size=w.heap.size+1:=by simp
 have HB0:Hid (Blk (w.alloc (.cells #[.pointer (some ⟨w.heap.size,0,none⟩),.slice none 0 0,.int .i64 A.slots,.int .i64 A.begun,.int .i64 A.used,.int .i64 (eU A.free)] 214)).drew w.heap.size 214 [ptr w.heap.size,.slice none 0 0,.int .i64 A.slots,.int .i64 A.begun,.int .i64 A.used,.int .i64 (eU A.free)]):=qA hb0;have HF0:=qA hF0;clear hF0 hb0;generalize (w.alloc (.cells #[.pointer (some ⟨w.heap.size,0,none⟩),.slice none 0 0,.int .i64 A.slots,.int .i64 A.begun,.int .i64 A.used,.int .i64 (eU A.free)] 214)).drew=w1 at *;clear c0 c1 c2 c3 c4 c5 d1
 go_loopw [37] (fun si wr=>∃(i:Nat) (v:Value) (bs' :List Nat),i<=bs.length/\si=.int .i64 i/\bs'.length=i/\Hid (Fr [] w wr)/\Hid (Blk wr w.heap.size 214 [ptr w.heap.size,v,.int .i64 A.slots,.int .i64 A.begun,.int .i64 A.used,.int .i64 (eU A.free)]) /\
   wr.ownsRow 0 232 1 v i (bs'.map ptr)/\Hid (∀q,v.ownBlock=some q->w.heap.size<q/\q∉bs')/\Hid (bs'.Nodup/\∀b∈bs', w.heap.size<b) /\
   Hid (∀(j b b' :Nat),bs[j]? =some b->bs'[j]? =some b' -> ∃cs,Blk w b 236 cs/\Blk wr b' 236 cs)) (fun si _=>bs.length-(intOf si).toNat)
 case atStart=>exact⟨0,.slice none 0 0,[],qS _,rfl,rfl,HF0,HB0,World.ownsRow_nil _ _ _ _,qA (fun q e=>by cases e),qA ⟨List.nodup_nil,by simp⟩,qA (fun j b b' _ h=>by simp at h)⟩
 case round=>
  clear HB0 HF0 hsz1;obtain⟨i,v,bs', hi,rfl,hbl', HF,HB,hown,HQ,HN,HC⟩:=hrel;obtain⟨a8,c8,rfl⟩:=aO hown;have c1:=HB.out.cell 1;have z1:=HB.out.frozen 1;simp only[zJ,zK]at c1;by_cases hlt:i<bs.length
  {
  have hil:(i:Int)<bs.length:=by omega
  obtain⟨g,cap,e,_,hg,hcg,_⟩:=bW H1.out.2.1 hlt;simp only[qP,true_and]at e;obtain⟨rfl,rfl⟩:=e;have hbi:bs[i]? =some bs[i]:=qL hlt;obtain⟨cs,hcs,hrs⟩:=H1.out.2.2 i bs[i] hbi;generalize bs[i]=b at *;have hcg' :wr.cell? ⟨g,i,none⟩=some (ptr b):=HF.out.cell (by rw[hcg];simp[hbi]) (by simp);have hcsr:=HF.out.blk hcs (by simp);have hcl:=(hrs 0 (by decide)).2.2.2;have hone:∀u∈cs,u.oneCell' =true:=by {
  intro u hu;obtain⟨k,hk⟩:=List.mem_iff_getElem?.1 hu;have hk2:k<192:=by rw[<-hcl];exact(qT.1 hk).1
  obtain⟨r0,r1,⟨t,r2⟩,_⟩:=hrs (k/3) (by omega);rcases(show k=k/3*3∨k=k/3*3+1∨k=k/3*3+2 by omega) with e|e|e
  · rw[<-e,hk]at r0;cases r0;rfl
  · rw[<-e,hk]at r1;cases r1;rfl
  · rw[<-e,hk]at r2;cases r2;rfl};have hinfo:(Tryz.prog.info? 236).map (·.size)=some cs.toArray.size:=by {
  have:(Tryz.prog.info? 236).map (·.size)=some 192:=by kernel_rfl
  rw[this];simp[hcl]};have hz:Tryz.zeroCells236.size=cs.toArray.size:=by {
  have:=kY;simp only[Array.length_toList]at this;rw[this];simp[hcl]};have Hone:=qA hone;clear hone;have Hcs:=qA hcs;clear hcs hrs;go_wp2
  refine wp_load_row 236 _ rfl b rfl 236 cs.toArray (0,0) _ hcsr Tryz.underlying236 rfl hinfo ?_;have hst:=run_storeCells_new (P:=Tryz.prog) wr 236 Tryz.zeroCells236 cs.toArray hinfo hz (by simpa using Hone.out);simp only[List.toList_toArray]at hst;have hFa:Fr [] wr (wr.alloc (.cells cs.toArray 236)):=(Fr.refl [] wr).alloc _;have c1' :=hFa.cell c1 (by simp);have hbn:Blk (wr.alloc (.cells cs.toArray 236)) wr.heap.size 236 cs:=Blk.new wr cs 236;have Hbn:=qA hbn;clear hbn;have HFa:=qA hFa;clear hFa;go_wp2_with (at_builtin;refine aB rfl _ _ 212 rfl 232 (.pointer none) 8 Tryz.underlying212 Tryz.info232 rfl (.slice a8 i c8) i _ rfl ((hown.alloc _).alloc _) (wr.heap.size+1) (ptr wr.heap.size) rfl (aC _ _ _ _ (by simp)) rfl (by omega) (by decide) ?_;intro g' cap' w4 hown4 hgrow4 hg4;have hF4:Fr (Value.slice a8 i c8).ownBlock.toList (wr.alloc (.cells cs.toArray 236)) w4:=((Fr.refl _ _).alloc _).grown hgrow4 (fun q e=>.inl (by simp[e]));have hB4:Blk w4 w.heap.size 214 [ptr w.heap.size,.slice a8 i c8,.int .i64 A.slots,.int .i64 A.begun,.int .i64 A.used,.int .i64 (eU A.free)]:=hF4.blk (HFa.out.blk HB.out (by simp)) (fun hm=>by have:=(HQ.out w.heap.size (by simpa using hm)).1;omega);have c4:=hB4.cell 1;have z4:=hB4.frozen 1;simp only[zJ,zK]at c4)
  have hlow:∀b' ∈ bs', b' < wr.heap.size:=by {
  intro b' hb';obtain⟨j,hj,e⟩:=List.mem_iff_getElem.1 hb';obtain⟨_,_,h2⟩:=HC.out j _ b' (qL (show j<bs.length by omega)) (by rw[qL hj,e]);exact h2.lt};have hhd:=HB.out.lt;have hol:∀q,(Value.slice a8 i c8).ownBlock=some q->q<wr.heap.size:=fun q hq=>(hown.lt q hq).2;simp only[World.size_alloc]at hg4;have hgn:g' ≠ w.heap.size:=by {
  rintro rfl;rcases hg4 with e|e
  · have:=(HQ.out _ e).1;omega
  · omega};go_roundw
  case rel=>
   refine⟨i+1,.slice (some ⟨g', 0,none⟩) (i+1) cap', bs' ++ [wr.heap.size],by omega,by go_num,by simp;omega,qA ?_,qA (hB4.set 1 _),?_,qA (fun q e=>?_),qA ⟨?_,fun x hx=>?_⟩,qA (fun j x y hj hy=>?_)⟩
   · exact((HF.out.trans' HFa.out).trans hF4 (fun q hq=>.inr (Nat.le_of_lt (HQ.out q (by simpa using hq)).1))).setCell _ _ (.inr (qK _))
   {
   have e:(bs' ++ [wr.heap.size]).map ptr=bs'.map ptr++[ptr wr.heap.size]:=by simp
   rw[e];exact bL hown4 _ _ (by simpa[Value.ownBlock] using hgn)}
   {
   simp only[Value.ownBlock,qI]at e;subst e;simp only[qE,qH,not_or];rcases hg4 with e|e
   {
   have h1:=hol _ e;exact⟨(HQ.out _ e).1,(HQ.out _ e).2,by omega⟩}
   {
   refine⟨by omega,fun hm=>?_,by omega⟩;have:=hlow _ hm;omega}}
   {
   rw[qN];refine⟨HN.out.1,by simp,fun x hx y hy e=>?_⟩;simp at hy;have:=hlow x hx;omega}
   {
   simp only[qE,qH]at hx;rcases hx with hx|rfl
   · exact HN.out.2 x hx
   · omega}
   {
   by_cases hji:j<i
   {
   rw[List.getElem?_append_left (by omega)]at hy;obtain⟨cs', k1,k2⟩:=HC.out j x y hj hy;have hym:=List.mem_of_getElem? hy;refine⟨cs', k1,(hF4.blk (HFa.out.blk k2 (by simp)) (fun hm=>(HQ.out y (by simpa using hm)).2 hym)).other _ _ ?_⟩;have:=HN.out.2 y hym;simp;omega}
   {
   have hjl:j<(bs' ++ [wr.heap.size]).length:=(qT.1 hy).1;simp at hjl;obtain rfl:j=i:=by omega
   rw[List.getElem?_append_right (by omega)]at hy;simp[hbl']at hy;subst hy;have:x=b:=by rw[hbi]at hj;simpa using hj.symm
   subst this;refine⟨cs,Hcs.out,(hF4.blk Hbn.out (fun hm=>?_)).other _ _ ?_⟩
   {
   have:=hol wr.heap.size (by simpa using hm);omega}
   · simp;omega}}
  case measure=>simp[intOf];omega}
  {
  obtain rfl:i=bs.length:=by omega
  have Hown:=qA hown;clear hown;go_wp2
  go_ret;refine⟨w.heap.size,rfl,w.heap.size::((Value.slice a8 bs.length c8).ownBlock.toList++bs'),⟨.slice a8 bs.length c8,bs', st,af,HB.out,by rw[hbl'];exact Hown.out,?_,rfl,?_,by rw[hbl', hl],hok,hst,hch⟩,HF.out,?_⟩
  {
  intro j b' hj;have hjl:j<bs'.length:=(qT.1 hj).1;have hbj:bs[j]? =some bs[j]:=qL (by omega);obtain⟨cs,k1,k2⟩:=HC.out j _ b' hbj hj;obtain⟨cs0,k3,k4⟩:=H1.out.2.2 j _ hbj;obtain rfl:=k1.eq k3;exact⟨cs,k2,k4⟩}
  {
  rw[qO,qN];refine⟨?_,by cases (Value.slice a8 bs.length c8).ownBlock<;>simp,HN.out.1,?_⟩
  {
  simp only[qE,Option.mem_toList,not_or];refine⟨fun e=>?_,fun hm=>?_⟩
  · have:=(HQ.out _ e).1;omega
  · have:=HN.out.2 _ hm;omega}
  {
  intro x hx y hy e;subst e;exact(HQ.out x (by simpa using hx)).2 hy}}
  {
  intro x hx;simp only[qB,qE,Option.mem_toList]at hx;rcases hx with rfl|hx|hx
  · exact qK _
  · exact Nat.le_of_lt (HQ.out x hx).1
  · exact Nat.le_of_lt (HN.out.2 x hx)}}
end Go.Proofs.YtjdgpcjbgjnahaaGreatDoor
namespace Go.Proofs.YtjdgpcjbgjnahaaGreatDoor
open Go.RowKit Go.Sort
def sU(d:Array Int):List Value:=d.toList.map (Value.int .u64)
theorem aQB{d:Array Int}{t:Nat}(ht:t<d.size):(sU d)[t]? =some (.int .u64 d[t]!):=by
 simp[sU,ht]
theorem aLE{d:Array Int}{i j:Nat}(hi:i<d.size)(hj:j<d.size):((sU d).set i (.int .u64 d[j]!)).set j (.int .u64 d[i]!)=sU (swp d i j):=by
 simp only[sU,swp,Array.toList_setIfInBounds,List.map_set]
structure SR (w wr:World) (blk off:Nat) (d:Array Int):Prop where
  off0:off=0
  row:∃rest,Blk wr blk 36 (sU d++rest)/\∃l0,Blk w blk 36 l0/\l0.length=d.size+rest.length
  fr:Fr [blk] w wr
section
variable {w wr:World} {blk off:Nat} {d:Array Int}
theorem uC(d:Array Int):(sU d).length=d.size:=by simp[sU]
theorem SR.cell(h:SR w wr blk off d){t:Nat}(ht:t<d.size):wr.cell? ⟨blk,off+t,none⟩=some (.int .u64 d[t]!):=by
 obtain⟨rest,h1,_⟩:=h.row;rw[h.off0,Nat.zero_add,h1.cell,List.getElem?_append_left (by rw[uC];exact ht),aQB ht]
theorem SR.frozen(h:SR w wr blk off d)(t:Nat):wr.frozen? ⟨blk,t,none⟩=false:=by
 obtain⟨rest,h1,_⟩:=h.row;exact h1.frozen t
theorem SR.drewN(h:SR w wr blk off d)(q:Nat):SR w (wr.drewN q) blk off d:=by
 obtain⟨rest,h1,h2⟩:=h.row;exact⟨h.off0,⟨rest,h1.drewN q,h2⟩,h.fr.drewN q⟩
theorem SR.alloc(h:SR w wr blk off d)(o:Obj):SR w (wr.alloc o) blk off d:=by
 obtain⟨rest,h1,h2⟩:=h.row;exact⟨h.off0,⟨rest,h1.alloc o,h2⟩,h.fr.alloc o⟩
theorem SR.other(h:SR w wr blk off d){b i:Nat}(u:Value)(hb:w.heap.size<=b)(hne:b≠blk):SR w (wr.setCell ⟨b,i,none⟩ u) blk off d:=by
 obtain⟨rest,h1,h2⟩:=h.row;exact⟨h.off0,⟨rest,h1.other _ _ (Ne.symm hne),h2⟩,h.fr.setCell _ _ (.inr hb)⟩
theorem SR.swap(h:SR w wr blk off d)(q:Nat){i j:Nat}(hi:i<d.size)(hj:j<d.size):
    SR w (((wr.drewN q).setCell ⟨blk,off+i,none⟩ (.int .u64 d[j]!)).setCell ⟨blk,off+j,none⟩ (.int .u64 d[i]!)) blk off (swp d i j):=by
 obtain⟨rest,h1,l0,h2,h3⟩:=h.row;refine⟨h.off0,⟨rest,?_,l0,h2,by rw[h3,size_swp]⟩,((h.fr.drewN q).setCell _ _ (.inl (by simp))).setCell _ _ (.inl (by simp))⟩;rw[h.off0,Nat.zero_add,Nat.zero_add,<-aLE hi hj];have:=((h1.drewN q).set i (.int .u64 d[j]!)).set j (.int .u64 d[i]!);rw[List.set_append_left _ _ (by rw[uC];exact hi),List.set_append_left _ _ (by rw[List.length_set,uC];exact hj)]at this;exact this
theorem SR.lt(h:SR w wr blk off d):blk<wr.heap.size:=by
 obtain⟨rest,h1,_⟩:=h.row;exact h1.lt
end
theorem aWX(x:Int)(w:World):Calls Tryz.prog 148 #[.int .u64 x] w fun e w' =>e=.returned (.bool false)/\w' =w:=by
 go_enter Tryz.func148,Tryz.ntmps148
 go_wp2
 go_ret;exact⟨by simp,rfl⟩
theorem eC(x y:Int)(w:World):Calls Tryz.prog 240 #[.int .u64 x,.int .u64 y] w fun e w' =>e=.returned (.bool (ltInt x y))/\w' =w:=by
 go_enter Tryz.func240,Tryz.ntmps240
 go_wp2_with (go_at_call 148;refine(aWX _ _).mono ?_;rintro e w' ⟨rfl,rfl⟩)
 go_ret;exact⟨rfl,rfl⟩
theorem aWY{w wr:World}{blk off cap a b:Nat}{d:Array Int}(h:SR w wr blk off d)(hab:a<=b)(hb:b<=d.size)(hsz:d.size<4611686018427387904):
    Calls Tryz.prog 234 #[.slice (some ⟨blk,off,none⟩) d.size cap,.int .i64 a,.int .i64 b] wr fun e w' =>e=.returned (.tuple #[])/\SR w w' blk off (insertionSort ltInt d a b):=by
 have HS:=qA h;clear h;go_enter Tryz.func234,Tryz.ntmps234
 go_wp2
 go_loopw [6] (fun vi wr=>∃(i:Nat) (dk:Array Int),vi=.int .i64 i/\a<i/\i<=b+1/\dk.size=d.size/\Hid (SR w wr blk off dk)/\Hid (insOuter ltInt a b i dk=insOuter ltInt a b (a+1) d)) (fun vi _=>b+1-(intOf vi).toNat)
 case atStart=>exact⟨a+1,d,by go_num,by omega,by omega,rfl,HS,qA rfl⟩
 case round=>
  clear HS;obtain⟨i,dk,rfl,hai,hib,hsk,HS,HO⟩:=hrel;by_cases hlt:i<b
  {
  go_wp2
  go_loopw [7] (fun vj wr2=>∃(j:Nat) (dj:Array Int),vj=.int .i64 j/\a<=j/\j<=i/\dj.size=d.size/\Hid (SR w wr2 blk off dj)/\Hid (insInner ltInt a j dj=insInner ltInt a i dk)) (fun vj _=>(intOf vj).toNat)
  case atStart=>exact⟨i,dk,rfl,by omega,qK _,hsk,HS,qA rfl⟩
  case round=>
   clear HS;obtain⟨j,dj,rfl,haj,hji,hsj,HS,HI⟩:=hrel;have OUT:∀q,(j<=a∨ltInt dj[j]! dj[j-1]! =false)->Hid (SR w (wr.drewN q) blk off dj)/\Hid (insOuter ltInt a b (i+1) dj=insOuter ltInt a b (a+1) d):=fun q hs=>
     ⟨qA (HS.out.drewN q),qA (by rw[<-HO.out,insOuter_go _ _ _ _ _ hlt,<-HI.out,insInner_stop _ _ _ _ hs])⟩
   have HOUT:=qA OUT;clear OUT;by_cases hja:a<j
   {
   have hc:∀t,t<d.size->wr.cell? ⟨blk,off+t,none⟩=some (.int .u64 dj[t]!):=fun t ht=>HS.out.cell (by omega);have hf:∀t,t<d.size->wr.frozen? ⟨blk,off+t,none⟩=false:=fun t _=>HS.out.frozen _;obtain⟨G,hG⟩:∃G:Nat->Int,∀t,dj[t]! =G t:=⟨fun t=>dj[t]!,fun _=>rfl⟩;simp only[hG]at hc;have HG:=qA hG;clear hG;cases hl:ltInt (G j) (G (j-1)) with
   | true=>{
   go_wp2
   go_quiet (first|(go_at_call 240;refine qJ (eC _ _ _)))
   go_wp2
   go_region
   all_goals go_wp2
   go_roundw
   case rel=>
    refine⟨j-1,swp dj j (j-1),by congr 1;omega,by omega,by omega,by rw[size_swp];exact hsj,qA ?_,qA ?_⟩
    {
    have:=HS.out.swap (nq+1) (i:=j) (j:=j-1) (by omega) (by omega);rw[HG.out,HG.out]at this;exact this}
    · rw[<-HI.out,insInner_go ltInt a j dj hja (by rw[HG.out,HG.out];exact hl)]
   case measure=>simp[intOf];omega}
   | false=>{
   go_wp2
   go_quiet (first|(go_at_call 240;refine qJ (eC _ _ _)))
   go_wp2
   go_roundw
   case rel=>
    obtain⟨h1,h2⟩:=HOUT.out nq (.inr (by rw[HG.out,HG.out];exact hl));exact⟨i+1,dj,by go_num,by omega,by omega,hsj,h1,h2⟩
   case measure=>simp[intOf];omega}}
   {
   go_wp2
   go_quiet (first|(go_at_call 240;refine qJ (eC _ _ _)))
   go_wp2
   go_roundw
   case rel=>
    obtain⟨h1,h2⟩:=HOUT.out nq (.inl (by omega));exact⟨i+1,dj,by go_num,by omega,by omega,hsj,h1,h2⟩
   case measure=>simp[intOf];omega}}
  {
  go_wp2
  go_end0
  exact⟨rfl,by unfold Sort.insertionSort;rw[<-HO.out,insOuter_stop _ _ _ _ _ hlt];exact HS.out⟩}
theorem jF{x:Int}{y:Nat}(h:x=y)(hy:y<9223372036854775808):IntKind.i64.wrap x=(y:Int):=by rw[h];exact zG _ (by omega)
theorem aLF{w wr:World}{blk off cap lo hi first n:Nat}{d:Array Int}(h:SR w wr blk off d)(hn:d.size=n)(hlo:lo<=hi)(hb:first+hi<=n)(hsz:n<4611686018427387904):
    Calls Tryz.prog 246 #[.slice (some ⟨blk,off,none⟩) n cap,.int .i64 lo,.int .i64 hi,.int .i64 first] wr fun e w' =>e=.returned (.tuple #[])/\SR w w' blk off (siftDown ltInt hi first lo d):=by
 have HS:=qA h;clear h;go_enter Tryz.func246,Tryz.ntmps246
 go_wp2
 go_loopw [8] (fun vr wr=>∃(root:Nat) (dk:Array Int),vr=.int .i64 root/\root<=hi/\dk.size=n/\Hid (SR w wr blk off dk)/\Hid (siftDown ltInt hi first root dk=siftDown ltInt hi first lo d)) (fun vr _=>hi-(intOf vr).toNat)
 case atStart=>exact⟨lo,d,rfl,hlo,hn,HS,qA rfl⟩
 case round=>
  clear HS;obtain⟨root,dk,rfl,hr,hsk,HS,HO⟩:=hrel;obtain⟨c,hc⟩:∃c:Nat,c=2*root+1:=⟨_,rfl⟩;have hci:2*(root:Int)+1=(c:Int):=by omega
  by_cases h1:hi<=2*root+1
  {
  have hd:decide (hi<=c)=true:=qG (by omega);have Hc:=qA hc;clear hc;go_wp2
  go_end0
  exact⟨rfl,by rw[<-HO.out,sd_end _ _ h1];exact HS.out⟩}
  {
  have hd:decide (hi<=c)=false:=qF (by omega);have hlt0:c<hi:=by omega
  obtain⟨r,hrr⟩:∃r:Nat,r=first+root:=⟨_,rfl⟩;obtain⟨p,hp⟩:∃p:Nat,p=first+c:=⟨_,rfl⟩;obtain⟨p1,hp1⟩:∃p1:Nat,p1=first+c+1:=⟨_,rfl⟩;obtain⟨G,hG⟩:∃G:Nat->Int,∀t,dk[t]! =G t:=⟨fun t=>dk[t]!,fun _=>rfl⟩;have cr:wr.cell? ⟨blk,off+r,none⟩=some (.int .u64 (G r)):=by rw[HS.out.cell (by omega),hG]
  have cp:wr.cell? ⟨blk,off+p,none⟩=some (.int .u64 (G p)):=by rw[HS.out.cell (by omega),hG]
  have fr:wr.frozen? ⟨blk,off+r,none⟩=false:=HS.out.frozen _;have fp:wr.frozen? ⟨blk,off+p,none⟩=false:=HS.out.frozen _;have rn:(r:Int)<n:=by omega
  have pn:(p:Int)<n:=by omega
  have ne3:r≠p:=by omega
  have ne4:p≠r:=by omega
  have wr1:IntKind.i64.wrap ((first:Int)+root)=(r:Int):=jF (by omega) (by omega);have wp:IntKind.i64.wrap ((first:Int)+c)=(p:Int):=jF (by omega) (by omega);obtain⟨c1,hc1⟩:∃c1:Nat,c1=c+1:=⟨_,rfl⟩;have wc1:IntKind.i64.wrap ((c:Int)+1)=(c1:Int):=jF (by omega) (by omega);have hc1i:(c:Int)+1=(c1:Int):=by omega
  by_cases h2:c1<hi
  {
  have hd1:decide ((c1:Int)<(hi:Int))=true:=qG (by omega);have cp1:wr.cell? ⟨blk,off+p1,none⟩=some (.int .u64 (G p1)):=by rw[HS.out.cell (by omega),hG]
  have fp1:wr.frozen? ⟨blk,off+p1,none⟩=false:=HS.out.frozen _;have p1n:(p1:Int)<n:=by omega
  have ne1:r≠p1:=by omega
  have ne2:p1≠r:=by omega
  have wp1:IntKind.i64.wrap ((p:Int)+1)=(p1:Int):=jF (by omega) (by omega);have wp1' :IntKind.i64.wrap ((first:Int)+c1)=(p1:Int):=jF (by omega) (by omega);have HN:=qA (show r=first+root/\p=first+(2*root+1)/\p1=first+(2*root+2)/\c=2*root+1/\c1=2*root+2 by omega);have HG:=qA hG;clear hG hc hp hp1 hrr hc1 h1;cases hl2:ltInt (G p) (G p1) with
  | true=>{
  cases hl3:ltInt (G r) (G p1) with
  | false=>{
  go_wp2
  go_quiet (first|(go_at_call 240;refine qJ (eC _ _ _)))
  go_wp2
  have cr2:(wr.drewN nq).cell? ⟨blk,off+r,none⟩=some (.int .u64 (G r)):=cr;have fr2:(wr.drewN nq).frozen? ⟨blk,off+r,none⟩=false:=fr;have cp2:(wr.drewN nq).cell? ⟨blk,off+p,none⟩=some (.int .u64 (G p)):=cp;have fp2:(wr.drewN nq).frozen? ⟨blk,off+p,none⟩=false:=fp;have cp12:(wr.drewN nq).cell? ⟨blk,off+p1,none⟩=some (.int .u64 (G p1)):=cp1;have fp12:(wr.drewN nq).frozen? ⟨blk,off+p1,none⟩=false:=fp1;have HS2:=qA (HS.out.drewN nq);generalize wr.drewN nq=wr2 at *;go_quiet (first|(go_at_call 240;refine qJ (eC _ _ _)))
  go_wp2
  (try simp only[Exit.inBlock,Exit.then]);refine bodyPost_ret (results_none rfl _ _ _) rfl ?_
  exact⟨rfl,by
    obtain⟨e1,e2,e3,e4,e5⟩:=HN.out;rw[<-HO.out,sd_right_stop (root:=root) ltInt dk (by omega) (by rw[<-e2,<-e3,HG.out,HG.out];exact hl2) (by rw[<-e1,<-e3,HG.out,HG.out];exact hl3)];exact HS2.out.drewN _⟩}
  | true=>{
  go_wp2
  go_quiet (first|(go_at_call 240;refine qJ (eC _ _ _)))
  go_wp2
  have cr2:(wr.drewN nq).cell? ⟨blk,off+r,none⟩=some (.int .u64 (G r)):=cr;have fr2:(wr.drewN nq).frozen? ⟨blk,off+r,none⟩=false:=fr;have cp2:(wr.drewN nq).cell? ⟨blk,off+p,none⟩=some (.int .u64 (G p)):=cp;have fp2:(wr.drewN nq).frozen? ⟨blk,off+p,none⟩=false:=fp;have cp12:(wr.drewN nq).cell? ⟨blk,off+p1,none⟩=some (.int .u64 (G p1)):=cp1;have fp12:(wr.drewN nq).frozen? ⟨blk,off+p1,none⟩=false:=fp1;have HS2:=qA (HS.out.drewN nq);generalize wr.drewN nq=wr2 at *;go_quiet (first|(go_at_call 240;refine qJ (eC _ _ _)))
  go_wp2
  go_region
  all_goals go_wp2
  go_roundw
  case rel=>
   obtain⟨e1,e2,e3,e4,e5⟩:=HN.out;refine⟨c1,swp dk r p1,rfl,by omega,by rw[size_swp];exact hsk,qA ?_,qA ?_⟩
   {
   have:=HS2.out.swap (nq+1) (i:=r) (j:=p1) (by omega) (by omega);rw[HG.out,HG.out]at this;exact this}
   · rw[<-HO.out,sd_right_go (root:=root) ltInt dk (by omega) (by rw[<-e2,<-e3,HG.out,HG.out];exact hl2) (by rw[<-e1,<-e3,HG.out,HG.out];exact hl3),e1,e3,e5]
  case measure=>simp[intOf];have:=HN.out;omega}}
  | false=>{
  cases hl3:ltInt (G r) (G p) with
  | false=>{
  go_wp2
  go_quiet (first|(go_at_call 240;refine qJ (eC _ _ _)))
  go_wp2
  have cr2:(wr.drewN nq).cell? ⟨blk,off+r,none⟩=some (.int .u64 (G r)):=cr;have fr2:(wr.drewN nq).frozen? ⟨blk,off+r,none⟩=false:=fr;have cp2:(wr.drewN nq).cell? ⟨blk,off+p,none⟩=some (.int .u64 (G p)):=cp;have fp2:(wr.drewN nq).frozen? ⟨blk,off+p,none⟩=false:=fp;have cp12:(wr.drewN nq).cell? ⟨blk,off+p1,none⟩=some (.int .u64 (G p1)):=cp1;have fp12:(wr.drewN nq).frozen? ⟨blk,off+p1,none⟩=false:=fp1;have HS2:=qA (HS.out.drewN nq);generalize wr.drewN nq=wr2 at *;go_quiet (first|(go_at_call 240;refine qJ (eC _ _ _)))
  go_wp2
  (try simp only[Exit.inBlock,Exit.then]);refine bodyPost_ret (results_none rfl _ _ _) rfl ?_
  exact⟨rfl,by
    obtain⟨e1,e2,e3,e4,e5⟩:=HN.out;rw[<-HO.out,sd_left_stop (root:=root) ltInt dk (by omega) (fun _=>by rw[<-e2,<-e3,HG.out,HG.out];exact hl2) (by rw[<-e1,<-e2,HG.out,HG.out];exact hl3)];exact HS2.out.drewN _⟩}
  | true=>{
  go_wp2
  go_quiet (first|(go_at_call 240;refine qJ (eC _ _ _)))
  go_wp2
  have cr2:(wr.drewN nq).cell? ⟨blk,off+r,none⟩=some (.int .u64 (G r)):=cr;have fr2:(wr.drewN nq).frozen? ⟨blk,off+r,none⟩=false:=fr;have cp2:(wr.drewN nq).cell? ⟨blk,off+p,none⟩=some (.int .u64 (G p)):=cp;have fp2:(wr.drewN nq).frozen? ⟨blk,off+p,none⟩=false:=fp;have cp12:(wr.drewN nq).cell? ⟨blk,off+p1,none⟩=some (.int .u64 (G p1)):=cp1;have fp12:(wr.drewN nq).frozen? ⟨blk,off+p1,none⟩=false:=fp1;have HS2:=qA (HS.out.drewN nq);generalize wr.drewN nq=wr2 at *;go_quiet (first|(go_at_call 240;refine qJ (eC _ _ _)))
  go_wp2
  go_region
  all_goals go_wp2
  go_roundw
  case rel=>
   obtain⟨e1,e2,e3,e4,e5⟩:=HN.out;refine⟨c,swp dk r p,rfl,by omega,by rw[size_swp];exact hsk,qA ?_,qA ?_⟩
   {
   have:=HS2.out.swap (nq+1) (i:=r) (j:=p) (by omega) (by omega);rw[HG.out,HG.out]at this;exact this}
   · rw[<-HO.out,sd_left_go (root:=root) ltInt dk (by omega) (fun _=>by rw[<-e2,<-e3,HG.out,HG.out];exact hl2) (by rw[<-e1,<-e2,HG.out,HG.out];exact hl3),e1,e2,e4]
  case measure=>simp[intOf];have:=HN.out;omega}}}
  {
  have hd1:decide ((c1:Int)<(hi:Int))=false:=qF (by omega);have HN:=qA (show r=first+root/\p=first+(2*root+1)/\p1=first+(2*root+2)/\c=2*root+1/\c1=2*root+2 by omega);have H1:=qA h1;have HG:=qA hG;clear hG hc hp hp1 hrr hc1 h1;cases hl3:ltInt (G r) (G p) with
  | false=>{
  go_wp2
  go_quiet (first|(go_at_call 240;refine qJ (eC _ _ _)))
  go_wp2
  have cr2:(wr.drewN nq).cell? ⟨blk,off+r,none⟩=some (.int .u64 (G r)):=cr;have fr2:(wr.drewN nq).frozen? ⟨blk,off+r,none⟩=false:=fr;have cp2:(wr.drewN nq).cell? ⟨blk,off+p,none⟩=some (.int .u64 (G p)):=cp;have fp2:(wr.drewN nq).frozen? ⟨blk,off+p,none⟩=false:=fp;have HS2:=qA (HS.out.drewN nq);generalize wr.drewN nq=wr2 at *;go_quiet (first|(go_at_call 240;refine qJ (eC _ _ _)))
  go_wp2
  (try simp only[Exit.inBlock,Exit.then]);refine bodyPost_ret (results_none rfl _ _ _) rfl ?_
  exact⟨rfl,by
    obtain⟨e1,e2,e3,e4,e5⟩:=HN.out;rw[<-HO.out,sd_left_stop (root:=root) ltInt dk (by have:=H1.out;omega) (fun _=>by omega) (by rw[<-e1,<-e2,HG.out,HG.out];exact hl3)];exact HS2.out.drewN _⟩}
  | true=>{
  go_wp2
  go_quiet (first|(go_at_call 240;refine qJ (eC _ _ _)))
  go_wp2
  have cr2:(wr.drewN nq).cell? ⟨blk,off+r,none⟩=some (.int .u64 (G r)):=cr;have fr2:(wr.drewN nq).frozen? ⟨blk,off+r,none⟩=false:=fr;have cp2:(wr.drewN nq).cell? ⟨blk,off+p,none⟩=some (.int .u64 (G p)):=cp;have fp2:(wr.drewN nq).frozen? ⟨blk,off+p,none⟩=false:=fp;have HS2:=qA (HS.out.drewN nq);generalize wr.drewN nq=wr2 at *;go_quiet (first|(go_at_call 240;refine qJ (eC _ _ _)))
  go_wp2
  go_region
  all_goals go_wp2
  go_roundw
  case rel=>
   obtain⟨e1,e2,e3,e4,e5⟩:=HN.out;refine⟨c,swp dk r p,rfl,by have:=H1.out;omega,by rw[size_swp];exact hsk,qA ?_,qA ?_⟩
   {
   have:=HS2.out.swap (nq+1) (i:=r) (j:=p) (by omega) (by omega);rw[HG.out,HG.out]at this;exact this}
   · rw[<-HO.out,sd_left_go (root:=root) ltInt dk (by have:=H1.out;omega) (fun _=>by omega) (by rw[<-e1,<-e2,HG.out,HG.out];exact hl3),e1,e2,e4]
  case measure=>simp[intOf];have:=HN.out;have:=H1.out;omega}}}
theorem SR.swapD{w wr:World}{blk off:Nat}{d:Array Int}(h:SR w wr blk off d){i j:Nat}(hi:i<d.size)(hj:j<d.size):
    SR w ((wr.setCell ⟨blk,off+i,none⟩ (.int .u64 d[j]!)).setCell ⟨blk,off+j,none⟩ (.int .u64 d[i]!)).drew blk off (swp d i j):=by
 have:=h.swap 0 hi hj;exact this.drewN 1
theorem aTT{w wr:World}{blk off cap a b n:Nat}{d:Array Int}(h:SR w wr blk off d)(hn:d.size=n)(hab:a<=b)(hb:b<=n)(hsz:n<4611686018427387904):
    Calls Tryz.prog 235 #[.slice (some ⟨blk,off,none⟩) n cap,.int .i64 a,.int .i64 b] wr fun e w' =>e=.returned (.tuple #[])/\SR w w' blk off (heapSort ltInt d a b):=by
 obtain⟨m,hm⟩:∃m:Nat,m=b-a:=⟨_,rfl⟩;obtain⟨k0,hk0⟩:∃k0:Nat,k0=(m-1)/2+1:=⟨_,rfl⟩;have hmi:(b:Int)-(a:Int)=(m:Int):=by omega
 have htd:((m:Int)-1).tdiv 2=(k0:Int)-1:=by {
 have:=half_start hab;rw[hmi,<-hm]at this;rw[this,hk0]};have hk0m:k0<=m+1:=by omega
 have hkm:k0<=m∨m=0:=by omega
 have HE:=qA (show heapSort ltInt d a b=heapPop ltInt a m (heapBuild ltInt m a k0 d) by unfold heapSort;rw[<-hm,<-hk0]);have ham:a+m<=n:=by omega
 clear hm hk0;have HS:=qA h;clear h;go_enter Tryz.func235,Tryz.ntmps235
 go_wp2
 go_loopw [9] (fun vi wr=>∃(k:Nat) (dk:Array Int),vi=.int .i64 ((k:Int)-1)/\k<=k0/\dk.size=n/\Hid (SR w wr blk off dk)/\Hid (heapBuild ltInt m a k dk=heapBuild ltInt m a k0 d)) (fun vi _=>(intOf vi+1).toNat)
 case atStart=>exact⟨k0,d,rfl,qK _,hn,HS,qA rfl⟩
 case round=>
  clear HS;obtain⟨k,dk,rfl,hk,hsk,HS,HB⟩:=hrel;cases k with
  | succ k=>{
  have e1:((k+1:Nat):Int)-1=(k:Int):=by omega
  rw[e1];have hd:decide ((k:Int)≥0)=true:=qG (by omega);have hkm2:k<=m:=by omega
  have HC:=qA (aLF (cap:=cap) HS.out hsk hkm2 ham hsz);go_wp2_with fail
  refine HC.out.mono ?_;rintro _ w2 ⟨rfl,h2⟩;have HS2:=qA h2;clear h2;go_wp2
  go_roundw
  case rel=>exact⟨k,_,rfl,by omega,by rw[size_siftDown _ _ _ (m-k) _ _ (qK _)];exact hsk,HS2,qA (by rw[<-HB.out];rfl)⟩
  case measure=>simp[intOf]}
  | zero=>{
  rw[show(((0:Nat):Int)-1)=-1 from rfl];have HB2:=qA (show dk=heapBuild ltInt m a k0 d from HB.out);go_wp2
  go_loopw [10] (fun vi wr=>∃(k:Nat) (dj:Array Int),vi=.int .i64 ((k:Int)-1)/\k<=m/\dj.size=n/\Hid (SR w wr blk off dj)/\Hid (heapPop ltInt a k dj=heapPop ltInt a m dk)) (fun vi _=>(intOf vi+1).toNat)
  case atStart=>exact⟨m,dk,rfl,qK _,hsk,HS,qA rfl⟩
  case round=>
   clear HS;obtain⟨k,dj,rfl,hk,hsj,HS,HP⟩:=hrel;cases k with
   | succ k=>{
   have e1:((k+1:Nat):Int)-1=(k:Int):=by omega
   rw[e1];have hd:decide ((k:Int)≥0)=true:=qG (by omega);obtain⟨p,hp⟩:∃p:Nat,p=a+k:=⟨_,rfl⟩;have wp:IntKind.i64.wrap ((a:Int)+k)=(p:Int):=jF (by omega) (by omega);obtain⟨G,hG⟩:∃G:Nat->Int,∀t,dj[t]! =G t:=⟨fun t=>dj[t]!,fun _=>rfl⟩;have ca:wr.cell? ⟨blk,off+a,none⟩=some (.int .u64 (G a)):=by rw[HS.out.cell (by omega),hG]
   have fa:wr.frozen? ⟨blk,off+a,none⟩=false:=HS.out.frozen _;have an:(a:Int)<n:=by omega
   have hsw:SR w ((wr.setCell ⟨blk,off+a,none⟩ (.int .u64 (G p))).setCell ⟨blk,off+p,none⟩ (.int .u64 (G a))).drew blk off (swp dj a p):=by {
   have:=HS.out.swapD (i:=a) (j:=p) (by omega) (by omega);rw[hG,hG]at this;exact this};have HSw:=qA hsw;clear hsw;have hkm2:0<=k:=by omega
   have hak:a+k<=n:=by omega
   have HC:=qA (fun(w2:World) (h:SR w w2 blk off (swp dj a p))=>aLF (cap:=cap) (lo:=0) h (by rw[size_swp];exact hsj) hkm2 hak hsz);have HP2:=qA (show heapPop ltInt a k (siftDown ltInt k a 0 (swp dj a p))=heapPop ltInt a m dk by rw[<-HP.out,hp];rfl);by_cases hk0:k=0
   {
   subst hk0;obtain rfl:p=a:=by omega
   clear hp;go_wp2
   go_region
   all_goals go_wp2_with fail
   refine(HC.out _ (HSw.out)).mono ?_;rintro _ w2 ⟨rfl,h2⟩;have HS2:=qA h2;clear h2;go_wp2
   go_roundw
   case rel=>exact⟨0,_,rfl,by omega,by rw[size_siftDown _ _ _ 0 _ _ (qK _),size_swp];exact hsj,HS2,HP2⟩
   case measure=>simp[intOf]}
   {
   have ne1:a≠p:=by omega
   have ne2:p≠a:=by omega
   have cp:wr.cell? ⟨blk,off+p,none⟩=some (.int .u64 (G p)):=by rw[HS.out.cell (by omega),hG]
   have fp:wr.frozen? ⟨blk,off+p,none⟩=false:=HS.out.frozen _;have pn:(p:Int)<n:=by omega
   clear hp;go_wp2
   go_region
   all_goals go_wp2_with fail
   refine(HC.out _ (HSw.out)).mono ?_;rintro _ w2 ⟨rfl,h2⟩;have HS2:=qA h2;clear h2;go_wp2
   go_roundw
   case rel=>exact⟨k,_,rfl,by omega,by rw[size_siftDown _ _ _ (k-0) _ _ (qK _),size_swp];exact hsj,HS2,HP2⟩
   case measure=>simp[intOf]}}
   | zero=>{
   rw[show(((0:Nat):Int)-1)=-1 from rfl];go_wp2
   go_end0
   exact⟨rfl,by rw[HE.out,<-HB2.out,<-HP.out];exact HS.out⟩}}
theorem aWZ{w wr:World}{blk off cap a b n:Nat}{d:Array Int}(h:SR w wr blk off d)(hn:d.size=n)(hab:a<=b)(hb:b<=n)(hsz:n<4611686018427387904):
    Calls Tryz.prog 238 #[.slice (some ⟨blk,off,none⟩) n cap,.int .i64 a,.int .i64 b] wr fun e w' =>e=.returned (.tuple #[])/\SR w w' blk off (reverseRange d a b):=by
 have HS:=qA h;clear h;go_enter Tryz.func238,Tryz.ntmps238
 go_wp2
 go_loopw [6,7] (fun vi vj wr=>∃(i:Nat) (j:Int) (dk:Array Int),vi=.int .i64 i/\vj=.int .i64 j/\a<=i/\ -1<=j/\j<b/\(i:Int)<=b/\dk.size=n/\Hid (SR w wr blk off dk)/\Hid (reverseLoop i j.toNat dk=reverseRange d a b)) (fun vi vj _=>(intOf vj-intOf vi).toNat)
 case atStart=>exact⟨a,(b:Int)-1,d,rfl,rfl,qK _,by omega,by omega,by omega,hn,HS,qA (by unfold reverseRange;congr 1;omega)⟩
 case round=>
  clear HS;obtain⟨i,j,dk,rfl,rfl,hai,hj1,hjb,hib,hsk,HS,HR⟩:=hrel;by_cases hlt:(i:Int)<j
  {
  obtain⟨j,rfl⟩:∃k:Nat,j=k:=⟨j.toNat,by omega⟩;have ne1:i≠j:=by omega
  have ne2:j≠i:=by omega
  obtain⟨G,hG⟩:∃G:Nat->Int,∀t,dk[t]! =G t:=⟨fun t=>dk[t]!,fun _=>rfl⟩;have ci:wr.cell? ⟨blk,off+i,none⟩=some (.int .u64 (G i)):=by rw[HS.out.cell (by omega),hG]
  have cj:wr.cell? ⟨blk,off+j,none⟩=some (.int .u64 (G j)):=by rw[HS.out.cell (by omega),hG]
  have fi:wr.frozen? ⟨blk,off+i,none⟩=false:=HS.out.frozen _;have fj:wr.frozen? ⟨blk,off+j,none⟩=false:=HS.out.frozen _;have i_n:(i:Int)<n:=by omega
  have j_n:(j:Int)<n:=by omega
  have hsw:SR w ((wr.setCell ⟨blk,off+i,none⟩ (.int .u64 (G j))).setCell ⟨blk,off+j,none⟩ (.int .u64 (G i))).drew blk off (swp dk i j):=by {
  have:=HS.out.swapD (i:=i) (j:=j) (by omega) (by omega);rw[hG,hG]at this;exact this};have HSw:=qA hsw;clear hsw;have HR2:=qA (show reverseLoop (i+1) (j-1) (swp dk i j)=reverseRange d a b by rw[<-HR.out,reverseLoop.eq_1 i _ dk,qD (by omega)];simp);go_wp2
  go_region
  all_goals go_wp2
  go_roundw
  case rel=>exact⟨i+1,(j:Int)-1,_,by go_num,rfl,by omega,by omega,by omega,by omega,by rw[size_swp];exact hsk,qA (HSw.out),qA (by rw[<-HR2.out];congr 1;omega)⟩
  case measure=>simp[intOf];omega}
  {
  go_wp2
  go_end0
  refine⟨rfl,?_⟩;rw[<-HR.out,reverseLoop.eq_1,qC (by omega)];exact HS.out}
theorem aX{x y:Int}{r:Bool}(h:ltInt x y=r)(w:World):Calls Tryz.prog 240 #[.int .u64 x,.int .u64 y] w fun e w' =>e=.returned (.bool r)/\w' =w:=h▸eC x y w
structure SM (w wr:World) (blk off:Nat) (d:Array Int) (sb s:Nat):Prop where
  sr:SR w wr blk off d
  cnt:Blk wr sb 3 [.int .i64 s]
  ne:sb≠blk
  new:w.heap.size<=sb
section
variable {w wr:World} {blk off:Nat} {d:Array Int} {sb s:Nat}
theorem SM.drewN(h:SM w wr blk off d sb s)(q:Nat):SM w (wr.drewN q) blk off d sb s:=⟨h.sr.drewN q,h.cnt.drewN q,h.ne,h.new⟩
theorem SM.bump(h:SM w wr blk off d sb s)(t:Nat):SM w (wr.setCell ⟨sb,0,none⟩ (.int .i64 t)) blk off d sb t:=⟨h.sr.other _ h.new h.ne,h.cnt.set 0 _,h.ne,h.new⟩
theorem uD{cap a b n:Nat}(h:SM w wr blk off d sb s)(hn:d.size=n)(ha:a<n)(hb:b<n)(hs:s<1000):
    Calls Tryz.prog 252 #[.slice (some ⟨blk,off,none⟩) n cap,.int .i64 a,.int .i64 b,.pointer (some ⟨sb,0,none⟩)] wr fun e w' =>
      e=.returned (.tuple #[.int .i64 (order2 ltInt d a b s).1,.int .i64 (order2 ltInt d a b s).2.1])/\SM w w' blk off d sb (order2 ltInt d a b s).2.2:=by
 obtain⟨G,hG⟩:∃G:Nat->Int,∀t,d[t]! =G t:=⟨fun t=>d[t]!,fun _=>rfl⟩;have ca:wr.cell? ⟨blk,off+a,none⟩=some (.int .u64 (G a)):=by rw[h.sr.cell (by omega),hG]
 have cb:wr.cell? ⟨blk,off+b,none⟩=some (.int .u64 (G b)):=by rw[h.sr.cell (by omega),hG]
 have c0:=h.cnt.cell 0;have f0:=h.cnt.frozen 0;simp only[zJ]at c0;have an:(a:Int)<n:=by omega
 have bn:(b:Int)<n:=by omega
 have HS:=qA h;clear h;cases hl:ltInt (G b) (G a) with
 | true=>{
 have e1:order2 ltInt d a b s=(b,a,s+1):=by unfold order2;rw[hG,hG,hl];rfl
 rw[e1];clear e1;have HG:=qA hG;clear hG;go_enter Tryz.func252,Tryz.ntmps252
 go_wp2
 go_quiet (first|(go_at_call 240;refine qJ (aX hl _)))
 go_wp2
 go_ret2;exact⟨rfl,(HS.out.drewN nq).bump (s+1)⟩}
 | false=>{
 have e1:order2 ltInt d a b s=(a,b,s):=by unfold order2;rw[hG,hG,hl];rfl
 rw[e1];clear e1;have HG:=qA hG;clear hG;go_enter Tryz.func252,Tryz.ntmps252
 go_wp2
 go_quiet (first|(go_at_call 240;refine qJ (aX hl _)))
 go_wp2
 go_ret2;exact⟨rfl,HS.out.drewN nq⟩}
theorem uE{cap a b c n:Nat}(h:SM w wr blk off d sb s)(hn:d.size=n)(ha:a<n)(hb:b<n)(hc:c<n)(hs:s<900):
    Calls Tryz.prog 248 #[.slice (some ⟨blk,off,none⟩) n cap,.int .i64 a,.int .i64 b,.int .i64 c,.pointer (some ⟨sb,0,none⟩)] wr fun e w' =>
      e=.returned (.int .i64 (median ltInt d a b c s).1)/\SM w w' blk off d sb (median ltInt d a b c s).2:=by
 have e0:median ltInt d a b c s=((order2 ltInt d (order2 ltInt d a b s).1 (order2 ltInt d (order2 ltInt d a b s).2.1 c (order2 ltInt d a b s).2.2).1 (order2 ltInt d (order2 ltInt d a b s).2.1 c (order2 ltInt d a b s).2.2).2.2).2.1,(order2 ltInt d (order2 ltInt d a b s).1 (order2 ltInt d (order2 ltInt d a b s).2.1 c (order2 ltInt d a b s).2.2).1 (order2 ltInt d (order2 ltInt d a b s).2.1 c (order2 ltInt d a b s).2.2).2.2).2.2):=rfl;rw[e0];clear e0;have H1:=qA (uD (cap:=cap) h hn ha hb (by omega));obtain⟨a1,a2⟩:=order2_lt d s ha hb;have s1:=order2_swaps d a b s;generalize order2 ltInt d a b s=r1 at *;have H2:=qA (fun(w2:World) (h:SM w w2 blk off d sb r1.2.2)=>uD (cap:=cap) h hn a2 hc (by omega));obtain⟨b1,b2⟩:=order2_lt d r1.2.2 a2 hc;have s2:=order2_swaps d r1.2.1 c r1.2.2;generalize order2 ltInt d r1.2.1 c r1.2.2=r2 at *;have H3:=qA (fun(w2:World) (h:SM w w2 blk off d sb r2.2.2)=>uD (cap:=cap) h hn a1 b1 (by omega));generalize order2 ltInt d r1.1 r2.1 r2.2.2=r3 at *;obtain⟨x1,y1,z1⟩:=r1;obtain⟨x2,y2,z2⟩:=r2;obtain⟨x3,y3,z3⟩:=r3;clear h;go_enter Tryz.func248,Tryz.ntmps248
 go_wp2_with fail
 refine H1.out.mono ?_;rintro _ w1 ⟨rfl,h1⟩;have K1:=qA h1;clear h1;go_wp2_with fail
 refine(H2.out _ K1.out).mono ?_;rintro _ w2 ⟨rfl,h2⟩;have K2:=qA h2;clear h2;go_wp2_with fail
 refine(H3.out _ K2.out).mono ?_;rintro _ w3 ⟨rfl,h3⟩;have K3:=qA h3;clear h3;go_wp2
 go_ret;exact⟨rfl,K3.out⟩
theorem wD(d:Array Int){a b c n:Nat}(s:Nat)(ha:a<n)(hb:b<n)(hc:c<n):(median ltInt d a b c s).1<n/\(median ltInt d a b c s).2<=s+3:=by
 have e0:median ltInt d a b c s=((order2 ltInt d (order2 ltInt d a b s).1 (order2 ltInt d (order2 ltInt d a b s).2.1 c (order2 ltInt d a b s).2.2).1 (order2 ltInt d (order2 ltInt d a b s).2.1 c (order2 ltInt d a b s).2.2).2.2).2.1,(order2 ltInt d (order2 ltInt d a b s).1 (order2 ltInt d (order2 ltInt d a b s).2.1 c (order2 ltInt d a b s).2.2).1 (order2 ltInt d (order2 ltInt d a b s).2.1 c (order2 ltInt d a b s).2.2).2.2).2.2):=rfl;rw[e0];obtain⟨a1,a2⟩:=order2_lt d s ha hb;have s1:=order2_swaps d a b s;generalize order2 ltInt d a b s=r1 at *;obtain⟨b1,b2⟩:=order2_lt d r1.2.2 a2 hc;have s2:=order2_swaps d r1.2.1 c r1.2.2;generalize order2 ltInt d r1.2.1 c r1.2.2=r2 at *;obtain⟨c1,c2⟩:=order2_lt d r2.2.2 a1 b1;have s3:=order2_swaps d r1.1 r2.1 r2.2.2;dsimp only
 omega
theorem aLG{cap a n:Nat}(h:SM w wr blk off d sb s)(hn:d.size=n)(ha0:1<=a)(ha:a+1<n)(hs:s<900)(hsz:n<4611686018427387904):
    Calls Tryz.prog 247 #[.slice (some ⟨blk,off,none⟩) n cap,.int .i64 a,.pointer (some ⟨sb,0,none⟩)] wr fun e w' =>
      e=.returned (.int .i64 (medianAdjacent ltInt d a s).1)/\SM w w' blk off d sb (medianAdjacent ltInt d a s).2:=by
 have H1:=qA (uE (cap:=cap) h hn (show a-1<n by omega) (show a<n by omega) ha hs);clear h;have e1:(a:Int)-1=((a-1:Nat):Int):=by omega
 have e2:(a:Int)+1=((a+1:Nat):Int):=by omega
 have e3:medianAdjacent ltInt d a s=median ltInt d (a-1) a (a+1) s:=rfl;rw[e3];clear e3;generalize median ltInt d (a-1) a (a+1) s=r at *;generalize a-1=a0 at *;generalize a+1=a1 at *;go_enter Tryz.func247,Tryz.ntmps247
 go_wp2_with fail
 refine H1.out.mono ?_;rintro _ w1 ⟨rfl,h1⟩;have K1:=qA h1;clear h1;go_wp2
 go_ret;exact⟨rfl,K1.out⟩
theorem nZ(d:Array Int){a n:Nat}(s:Nat)(ha:a+1<n):(medianAdjacent ltInt d a s).1<n/\(medianAdjacent ltInt d a s).2<=s+3:=
  wD d s (show a-1<n by omega) (show a<n by omega) ha
end
theorem yU(d:Array Int){a b q:Nat}(hq:q=(b-a)/4)(h:¬8<=b-a):choosePivot ltInt d a b=(a+q*2,.increasing):=by
 subst hq;unfold choosePivot;simp only[ge_iff_le];rw[qC h];rfl
theorem aEH(d:Array Int){a b q:Nat}(hq:q=(b-a)/4)(h:8<=b-a)(h2:¬50<=b-a):choosePivot ltInt d a b=
    ((median ltInt d (a+q*1) (a+q*2) (a+q*3) 0).1,if (median ltInt d (a+q*1) (a+q*2) (a+q*3) 0).2=0 then .increasing else if (median ltInt d (a+q*1) (a+q*2) (a+q*3) 0).2=12 then .decreasing else .unknown):=by
 subst hq;unfold choosePivot;simp only[ge_iff_le];rw[qD h,qC h2]
def big(d:Array Int)(i j k:Nat):Nat×Nat:=
  median ltInt d (medianAdjacent ltInt d i 0).1 (medianAdjacent ltInt d j (medianAdjacent ltInt d i 0).2).1 (medianAdjacent ltInt d k (medianAdjacent ltInt d j (medianAdjacent ltInt d i 0).2).2).1 (medianAdjacent ltInt d k (medianAdjacent ltInt d j (medianAdjacent ltInt d i 0).2).2).2
theorem aEI(d:Array Int){a b q:Nat}(hq:q=(b-a)/4)(h:8<=b-a)(h2:50<=b-a):choosePivot ltInt d a b=
    ((big d (a+q*1) (a+q*2) (a+q*3)).1,if (big d (a+q*1) (a+q*2) (a+q*3)).2=0 then .increasing else if (big d (a+q*1) (a+q*2) (a+q*3)).2=12 then .decreasing else .unknown):=by
 subst hq;unfold choosePivot big;simp only[ge_iff_le];rw[qD h,qD h2]
theorem aQC{w wr:World}{blk off:Nat}{d:Array Int}{cap a b n:Nat}(h:SR w wr blk off d)(hn:d.size=n)(hab:a<b)(hb:b<=n)(hsz:n<4611686018427387904):
    Calls Tryz.prog 237 #[.slice (some ⟨blk,off,none⟩) n cap,.int .i64 a,.int .i64 b] wr fun e w' =>
      e=.returned (.tuple #[.int .i64 (choosePivot ltInt d a b).1,.int .i64 (hintCode (choosePivot ltInt d a b).2)])/\SR w w' blk off d:=by
 obtain⟨m,hm⟩:∃m:Nat,m=b-a:=⟨_,rfl⟩;obtain⟨q,hq⟩:∃q:Nat,q=(b-a)/4:=⟨_,rfl⟩;have hmi:(b:Int)-(a:Int)=(m:Int):=by omega
 have hqi:((m:Int)).tdiv 4=(q:Int):=by rw[Int.tdiv_eq_ediv_of_nonneg (by omega)];omega
 have hsm0:SM w (wr.alloc (.cells #[.int .i64 0] 3)) blk off d wr.heap.size 0:=
   ⟨h.alloc _,Blk.new wr [.int .i64 0] 3,by have:=h.lt;omega,h.fr.size⟩
 have K0:=qA hsm0;clear hsm0;have HQ:=qA hq;have hqb:8<=m->a+q*3+1<b:=by omega
 have hq2:8<=m->2<=q:=by omega
 have HM:=qA hm;obtain⟨i,hi⟩:∃i:Nat,i=a+q*1:=⟨_,rfl⟩;obtain⟨j,hj⟩:∃j:Nat,j=a+q*2:=⟨_,rfl⟩;obtain⟨k,hk⟩:∃k:Nat,k=a+q*3:=⟨_,rfl⟩;have hii:(a:Int)+q=(i:Int):=by omega
 have hji:(a:Int)+q*2=(j:Int):=by omega
 have hki:(a:Int)+q*3=(k:Int):=by omega
 have hq3:a+q*3<=n:=by omega
 by_cases h8:8<=m
 {
 by_cases h50:50<=m
 {
 have hres:=aEI d HQ.out (by omega) (by omega);rw[<-hi,<-hj,<-hk]at hres;have b1:1<=i/\i+1<n/\1<=j/\j+1<n/\1<=k/\k+1<n:=by have:=hq2 h8;have:=hqb h8;omega
 have A1:=qA (aLG (cap:=cap) K0.out hn b1.1 b1.2.1 (by omega) hsz);have B1:=nZ d 0 b1.2.1;unfold big at hres;generalize medianAdjacent ltInt d i 0=r1 at *;have A2:=qA (fun(w2:World) (h:SM w w2 blk off d wr.heap.size r1.2)=>aLG (cap:=cap) h hn b1.2.2.1 b1.2.2.2.1 (by omega) hsz);have B2:=nZ d r1.2 b1.2.2.2.1;generalize medianAdjacent ltInt d j r1.2=r2 at *;have A3:=qA (fun(w2:World) (h:SM w w2 blk off d wr.heap.size r2.2)=>aLG (cap:=cap) h hn b1.2.2.2.2.1 b1.2.2.2.2.2 (by omega) hsz);have B3:=nZ d r2.2 b1.2.2.2.2.2;generalize medianAdjacent ltInt d k r2.2=r3 at *;have A4:=qA (fun(w2:World) (h:SM w w2 blk off d wr.heap.size r3.2)=>uE (cap:=cap) h hn B1.1 B2.1 B3.1 (by omega));generalize median ltInt d r1.1 r2.1 r3.1 r3.2=r4 at *;obtain⟨p1,s1⟩:=r1;obtain⟨p2,s2⟩:=r2;obtain⟨p3,s3⟩:=r3;obtain⟨jj,ss⟩:=r4;have hres1:ss=0->choosePivot ltInt d a b=(jj,.increasing):=fun e=>by rw[hres];simp[e]
 have hres2:ss≠0->ss=12->choosePivot ltInt d a b=(jj,.decreasing):=fun e e2=>by rw[hres];simp[e2]
 have hres3:ss≠0->ss≠12->choosePivot ltInt d a b=(jj,.unknown):=fun e e2=>by rw[hres];simp[e,e2]
 have hsw:ss=0∨(ss≠0/\ss=12)∨(ss≠0/\ss≠12):=by omega
 clear hres hq hi hj hk hm B1 B2 B3 b1 hq2 hqb h;go_enter Tryz.func237,Tryz.ntmps237
 go_wp2_with fail
 refine A1.out.mono ?_;rintro _ w1 ⟨rfl,k1⟩;have K1:=qA k1;clear k1 A1;go_wp2_with fail
 refine(A2.out _ K1.out).mono ?_;rintro _ w2 ⟨rfl,k2⟩;have K2:=qA k2;clear k2 A2;go_wp2_with fail
 refine(A3.out _ K2.out).mono ?_;rintro _ w3 ⟨rfl,k3⟩;have K3:=qA k3;clear k3 A3;go_wp2_with fail
 refine(A4.out _ K3.out).mono ?_;rintro _ w4 ⟨rfl,k4⟩;have K4:=qA k4;clear k4 A4;have c0:=K4.out.cnt.cell 0;simp only[zJ]at c0;rcases hsw with h0|⟨h0,h12⟩|⟨h0,h12⟩
 {
 have t0:((ss:Int) == 0)=true:=beq_iff_eq.2 (by omega);have HH:=qA (hres1 h0);clear h0 hres1 hres2 hres3;go_wp2
 go_ret2;exact⟨by rw[HH.out];rfl,K4.out.sr⟩}
 {
 have t0:((ss:Int) == 0)=false:=qR.2 (by omega);have t1:((ss:Int) == 12)=true:=beq_iff_eq.2 (by omega);have HH:=qA (hres2 h0 h12);clear h0 h12 hres1 hres2 hres3;go_wp2
 go_ret2;exact⟨by rw[HH.out];rfl,K4.out.sr⟩}
 {
 have t0:((ss:Int) == 0)=false:=qR.2 (by omega);have t1:((ss:Int) == 12)=false:=qR.2 (by omega);have HH:=qA (hres3 h0 h12);clear h0 h12 hres1 hres2 hres3;go_wp2
 go_ret2;exact⟨by rw[HH.out];rfl,K4.out.sr⟩}}
 {
 have hres:=aEH d HQ.out (by omega) (by omega);rw[<-hi,<-hj,<-hk]at hres;have b1:i<n/\j<n/\k<n:=by have:=hqb h8;omega
 have A4:=qA (uE (cap:=cap) K0.out hn b1.1 b1.2.1 b1.2.2 (by omega));generalize median ltInt d i j k 0=r4 at *;obtain⟨jj,ss⟩:=r4;have hres1:ss=0->choosePivot ltInt d a b=(jj,.increasing):=fun e=>by rw[hres];simp[e]
 have hres2:ss≠0->ss=12->choosePivot ltInt d a b=(jj,.decreasing):=fun e e2=>by rw[hres];simp[e2]
 have hres3:ss≠0->ss≠12->choosePivot ltInt d a b=(jj,.unknown):=fun e e2=>by rw[hres];simp[e,e2]
 have hsw:ss=0∨(ss≠0/\ss=12)∨(ss≠0/\ss≠12):=by omega
 clear hres hq hi hj hk hm b1 hq2 hqb h;go_enter Tryz.func237,Tryz.ntmps237
 go_wp2_with fail
 refine A4.out.mono ?_;rintro _ w4 ⟨rfl,k4⟩;have K4:=qA k4;clear k4 A4;have c0:=K4.out.cnt.cell 0;simp only[zJ]at c0;rcases hsw with h0|⟨h0,h12⟩|⟨h0,h12⟩
 {
 have t0:((ss:Int) == 0)=true:=beq_iff_eq.2 (by omega);have HH:=qA (hres1 h0);clear h0 hres1 hres2 hres3;go_wp2
 go_ret2;exact⟨by rw[HH.out];rfl,K4.out.sr⟩}
 {
 have t0:((ss:Int) == 0)=false:=qR.2 (by omega);have t1:((ss:Int) == 12)=true:=beq_iff_eq.2 (by omega);have HH:=qA (hres2 h0 h12);clear h0 h12 hres1 hres2 hres3;go_wp2
 go_ret2;exact⟨by rw[HH.out];rfl,K4.out.sr⟩}
 {
 have t0:((ss:Int) == 0)=false:=qR.2 (by omega);have t1:((ss:Int) == 12)=false:=qR.2 (by omega);have HH:=qA (hres3 h0 h12);clear h0 h12 hres1 hres2 hres3;go_wp2
 go_ret2;exact⟨by rw[HH.out];rfl,K4.out.sr⟩}}}
 {
 have hres:=yU d HQ.out (by omega);rw[<-hj]at hres;rw[hres];have c0:=K0.out.cnt.cell 0;simp only[zJ]at c0;clear hres hq hi hj hk hm hq2 hqb h;go_enter Tryz.func237,Tryz.ntmps237
 go_wp2
 go_ret2;exact⟨rfl,K0.out.sr⟩}
def Tryz.laysLen_ren:Go.Shelf.Ren:=⟨fun|125=>147|128=>193|129=>194|n=>n,fun|46=>27|3=>3|51=>23|53=>36|4=>4|5=>5|9=>9|n=>n,fun|n=>n⟩
theorem Tryz.laysLen:Go.Proofs.Lays.n125 Tryz.prog Tryz.laysLen_ren:={
  mixed:=by kernel_rfl
  f125:=Tryz.func147.trans (congrArg some (by kernel_rfl))
  f128:=Tryz.func193.trans (congrArg some (by kernel_rfl))
  f129:=Tryz.func194.trans (congrArg some (by kernel_rfl))
  t3:=Tryz.underlying3
  a3:=Tryz.isAgg3
  z3:=Tryz.sizeOf3
  v3:=Tryz.zeroValue3
  t4:=Tryz.underlying4
  a4:=Tryz.isAgg4
  z4:=Tryz.sizeOf4
  v4:=Tryz.zeroValue4
  t5:=Tryz.underlying5
  a5:=Tryz.isAgg5
  z5:=Tryz.sizeOf5
  v5:=Tryz.zeroValue5
  t9:=Tryz.underlying9
  a9:=Tryz.isAgg9
  z9:=Tryz.sizeOf9
  v9:=Tryz.zeroValue9
  t46:=Tryz.underlying27
  a46:=Tryz.isAgg27
  z46:=Tryz.sizeOf27
  v46:=Tryz.zeroValue27
  t51:=Tryz.underlying23
  a51:=Tryz.isAgg23
  z51:=Tryz.sizeOf23
  v51:=Tryz.zeroValue23
  t53:=Tryz.underlying36
  a53:=Tryz.isAgg36
  z53:=Tryz.sizeOf36
  v53:=Tryz.zeroValue36 }
theorem aSW(n:Nat)(hn:n<4611686018427387904)(w:World):Calls Tryz.prog 147 #[.int .u64 (n:Int)] w fun e w' =>e=.returned (.int .i64 (bitsLen n:Nat))/\w' =w:=by
 have h:=Any.bits_Len Tryz.laysLen (n:Int) w (by omega) (by omega);rwa[zD,bitLen_eq _ (by omega)]at h
theorem aXA(n:Nat)(hn:n<4611686018427387904)(w:World):
    Calls Tryz.prog 216 #[.int .i64 n] w fun e w' =>e=.returned (.int .u64 ((1 <<< bitsLen n:Nat):Int))/\w' =w:=by
 have hk:bitsLen n<=62:=(bitsLen_le_iff n 62).2 (by omega);have hp:=wrap_two_pow (bitsLen n) hk;have HL:=qA (aSW n hn w);generalize (1 <<< bitsLen n:Nat)=M at *;generalize bitsLen n=k at *;go_enter Tryz.func216,Tryz.ntmps216
 go_wp2_with (first|(go_at_call 147;refine HL.out.mono ?_;rintro e w' ⟨rfl,rfl⟩))
 go_ret;exact⟨rfl,rfl⟩
structure SX (w wr:World) (blk off:Nat) (d:Array Int) (rb R:Nat):Prop where
  sr:SR w wr blk off d
  cnt:Blk wr rb 292 [.int .u64 R]
  ne:rb≠blk
  new:w.heap.size<=rb
section
variable {w wr:World} {blk off:Nat} {d:Array Int} {rb R:Nat}
theorem SX.drewN(h:SX w wr blk off d rb R)(q:Nat):SX w (wr.drewN q) blk off d rb R:=⟨h.sr.drewN q,h.cnt.drewN q,h.ne,h.new⟩
theorem SX.bump(h:SX w wr blk off d rb R)(t:Nat):SX w (wr.setCell ⟨rb,0,none⟩ (.int .u64 t)) blk off d rb t:=⟨h.sr.other _ h.new h.ne,h.cnt.set 0 _,h.ne,h.new⟩
theorem SX.swapD(h:SX w wr blk off d rb R){i j:Nat}(hi:i<d.size)(hj:j<d.size):
    SX w ((wr.setCell ⟨blk,off+i,none⟩ (.int .u64 d[j]!)).setCell ⟨blk,off+j,none⟩ (.int .u64 d[i]!)).drew blk off (swp d i j) rb R:=
  ⟨h.sr.swapD hi hj,((h.cnt.other _ _ h.ne).other _ _ h.ne).drewN 1,h.ne,h.new⟩
theorem aTU(h:SX w wr blk off d rb R)(hR:R<18446744073709551616):
    Calls Tryz.prog 217 #[.pointer (some ⟨rb,0,none⟩)] wr fun e w' =>e=.returned (.int .u64 (xorNextN R:Nat))/\SX w w' blk off d rb (xorNextN R):=by
 obtain⟨x,hx⟩:∃x:Nat,x=R ^^^ (R*8192%18446744073709551616):=⟨_,rfl⟩;obtain⟨y,hy⟩:∃y:Nat,y=x ^^^ (x/128):=⟨_,rfl⟩;obtain⟨z,hz⟩:∃z:Nat,z=y ^^^ (y*131072%18446744073709551616):=⟨_,rfl⟩;have lx:x<18446744073709551616:=by rw[hx];exact Nat.xor_lt_two_pow (n:=64) (by omega) (by omega)
 have ly:y<18446744073709551616:=by rw[hy];exact Nat.xor_lt_two_pow (n:=64) (by omega) (by omega)
 have q1:bits .xor .u64 (R:Int) (IntKind.u64.wrap ((R:Int)*8192))=(x:Int):=by rw[IntKind.wrap_u64,show((R:Int)*8192%18446744073709551616)=((R*8192%18446744073709551616:Nat):Int) by omega,bits_xor_u64_nat _ _ hR (by omega),hx]
 have q2:bits .xor .u64 (x:Int) ((x:Int)/128)=(y:Int):=by rw[show((x:Int)/128)=((x/128:Nat):Int) by omega,bits_xor_u64_nat _ _ lx (by omega),hy]
 have q3:bits .xor .u64 (y:Int) (IntKind.u64.wrap ((y:Int)*131072))=(z:Int):=by rw[IntKind.wrap_u64,show((y:Int)*131072%18446744073709551616)=((y*131072%18446744073709551616:Nat):Int) by omega,bits_xor_u64_nat _ _ ly (by omega),hz]
 have hv:xorNextN R=z:=by unfold xorNextN;simp only[];rw[<-hx,<-hy,<-hz]
 rw[hv];clear hx hy hz hv;have c0:=h.cnt.cell 0;have f0:=h.cnt.frozen 0;simp only[zJ]at c0;have hss:∀v v', (wr.setCell ⟨rb,0,none⟩ v).setCell ⟨rb,0,none⟩ v' =wr.setCell ⟨rb,0,none⟩ v' :=setCell_setCell wr rb 0;have HS:=qA h;clear h;go_enter Tryz.func217,Tryz.ntmps217
 go_wp2
 go_region
 all_goals go_wp2
 all_goals go_region
 all_goals go_wp2
 all_goals go_region
 all_goals go_wp2
 go_ret;exact⟨rfl,(HS.out.bump z).drewN 3⟩
end
theorem aQD{w wr:World}{blk off cap a b n:Nat}{d:Array Int}(h:SR w wr blk off d)(hn:d.size=n)(hab:a<=b)(hb:b<=n)(hsz:n<4611686018427387904):
    Calls Tryz.prog 236 #[.slice (some ⟨blk,off,none⟩) n cap,.int .i64 a,.int .i64 b] wr fun e w' =>e=.returned (.tuple #[])/\SR w w' blk off (breakPatterns d a b):=by
 obtain⟨m,hm⟩:∃m:Nat,m=b-a:=⟨_,rfl⟩;have hmi:(b:Int)-(a:Int)=(m:Int):=by omega
 by_cases h8:8<=m
 {
 obtain⟨q,hq⟩:∃q:Nat,q=m/4:=⟨_,rfl⟩;have hqi:((m:Int)).tdiv 4=(q:Int):=by rw[Int.tdiv_eq_ediv_of_nonneg (by omega)];omega
 obtain⟨M,hM⟩:∃M:Nat,M=1 <<< bitsLen m:=⟨_,rfl⟩;have hM1:1<=M:=by rw[hM,Nat.one_shiftLeft];exact Nat.two_pow_pos _
 have hM2:M<=2*m:=by rw[hM,Nat.one_shiftLeft];exact two_pow_bitsLen_le (by omega)
 have hNP:∀w,Calls Tryz.prog 216 #[.int .i64 (m:Int)] w fun e w' =>e=.returned (.int .u64 (M:Int))/\w' =w:=by rw[hM];exact fun w=>aXA m (by omega) w
 obtain⟨i0,hi0⟩:∃i0:Nat,i0=a+q*2-1:=⟨_,rfl⟩;have HE:=qA (show breakPatterns d a b=bpRest a m M i0 3 0 (UInt64.ofNat m,d) by
   rw[show b=a+m by omega,breakPatterns_eq d a m h8,hM,hi0,hq])
 have hsx:SX w (wr.alloc (.cells #[.int .u64 (m:Int)] 292)) blk off d wr.heap.size (UInt64.ofNat m).toNat:=by {
 have e:(UInt64.ofNat m).toNat=m:=by simp;omega
 rw[e];exact⟨h.alloc _,Blk.new wr [.int .u64 (m:Int)] 292,by have:=h.lt;omega,h.fr.size⟩};have HX:=qA hsx;clear hsx;have HNP:=qA hNP;clear hNP;have hi0i:(a:Int)+q*2-1=(i0:Int):=by omega
 have hend:(a:Int)+q*2+1=(i0:Int)+2:=by omega
 have hamn:a+m<=n:=by omega
 have hi0n:i0+3<=a+m:=by omega
 have hq2:a+q*2+1<=n:=by omega
 have ham0:a<=i0:=by omega
 clear hM hm hq hi0 h;go_enter Tryz.func236,Tryz.ntmps236
 go_wp2_with fail
 refine(HNP.out _).mono ?_;rintro _ _ ⟨rfl,rfl⟩;go_wp2
 go_loopw [9] (fun vi wr2=>∃(t:Nat) (r:UInt64) (dk:Array Int),vi=.int .i64 ((i0+t:Nat):Int)/\t<=3/\dk.size=n/\Hid (SX w wr2 blk off dk wr.heap.size r.toNat) /\
   Hid (bpRest a m M i0 (3-t) t (r,dk)=bpRest a m M i0 3 0 (UInt64.ofNat m,d))) (fun vi _=>i0+3-(intOf vi).toNat)
 case atStart=>exact⟨0,UInt64.ofNat m,d,rfl,by omega,hn,HX,qA rfl⟩
 case round=>
  clear HX;obtain⟨t,r,dk,rfl,ht,hsk,HX,HR⟩:=hrel;obtain⟨it,hit⟩:∃it:Nat,it=i0+t:=⟨_,rfl⟩;rw[<-hit];by_cases ht3:t<3
  {
  have hd:decide ((it:Int)<=(i0:Int)+2)=true:=qG (by omega);obtain⟨R', hR'⟩:∃R' :Nat,R' =xorNextN r.toNat:=⟨_,rfl⟩;have lR' :R' < 18446744073709551616:=by rw[hR'];exact xorNextN_lt _ r.toNat_lt
  have HNx:=aTU HX.out r.toNat_lt;rw[<-hR']at HNx;have HNx:=qA HNx;obtain⟨O,hO⟩:∃O:Nat,O=R' &&& (M-1):=⟨_,rfl⟩;have lO:O<=M-1:=by rw[hO];exact Nat.and_le_right
  have eAnd:bits .and .u64 (R' :Int) ((M:Int)-1)=(O:Int):=by rw[show((M:Int)-1)=((M-1:Nat):Int) by omega,bits_and_u64_nat _ _ lR' (by omega),hO]
  have eR:R' =(xorNext r).toNat:=by rw[hR', xorNext_toNat]
  have hOx:O=(xorNext r).toNat &&& (M-1):=by rw[hO,eR]
  have hfin:∃o:Nat,o<m/\(if O≥m then O-m else O)=o:=by {
  refine⟨_,?_,rfl⟩;split<;>omega};obtain⟨o,hom,hoe⟩:=hfin;obtain⟨p,hp⟩:∃p:Nat,p=a+o:=⟨_,rfl⟩;have wp:IntKind.i64.wrap ((a:Int)+o)=(p:Int):=jF (by omega) (by omega);have HRn:=qA (show bpRest a m M i0 (3-(t+1)) (t+1) (xorNext r,swp dk it p)=bpRest a m M i0 3 0 (UInt64.ofNat m,d) by
    rw[<-HR.out,bp_step a m M i0 t r dk o ht3 (by rw[<-hOx];exact hoe),hit,hp])
  have HeR:=qA eR;have hpn:p<n:=by omega
  have hitn:it<n:=by omega
  have Hit:=qA hit;have hoc:(m<=O/\(O:Int)-m=(o:Int))∨(¬m<=O/\O=o):=by {
  by_cases hc:m<=O
  · rw[qD hc]at hoe;exact .inl ⟨hc,by omega⟩
  · rw[qC hc]at hoe;exact .inr ⟨hc,hoe⟩};clear hR' hO hOx eR hoe hp hit;have pn:(p:Int)<n:=by omega
  have itn:(it:Int)<n:=by omega
  go_wp2_with fail
  refine HNx.out.mono ?_;rintro _ w2 ⟨rfl,hX2⟩;obtain⟨G,hG⟩:∃G:Nat->Int,∀x,dk[x]! =G x:=⟨fun x=>dk[x]!,fun _=>rfl⟩;have cp:w2.cell? ⟨blk,off+p,none⟩=some (.int .u64 (G p)):=by rw[hX2.sr.cell (by omega),hG]
  have ci:w2.cell? ⟨blk,off+it,none⟩=some (.int .u64 (G it)):=by rw[hX2.sr.cell (by omega),hG]
  have fp:w2.frozen? ⟨blk,off+p,none⟩=false:=hX2.sr.frozen _;have fi:w2.frozen? ⟨blk,off+it,none⟩=false:=hX2.sr.frozen _;have hsw:=hX2.swapD (i:=it) (j:=p) (by omega) (by omega);rw[hG,hG]at hsw;have HSw:=qA hsw;clear hsw hX2 hG;rcases hoc with⟨hc1,hc2⟩|⟨hc1,rfl⟩
  {
  by_cases hEq:it=p
  {
  subst hEq;go_wp2
  go_region
  all_goals go_wp2
  go_roundw
  case rel=>exact⟨t+1,xorNext r,_,by rw[Hit.out];go_num,by omega,by rw[size_swp];exact hsk,qA (by rw[<-HeR.out];exact HSw.out),HRn⟩
  case measure=>simp[intOf];have:=Hit.out;omega}
  {
  have hEq2:p≠it:=fun e=>hEq e.symm;go_wp2
  go_region
  all_goals go_wp2
  go_roundw
  case rel=>exact⟨t+1,xorNext r,_,by rw[Hit.out];go_num,by omega,by rw[size_swp];exact hsk,qA (by rw[<-HeR.out];exact HSw.out),HRn⟩
  case measure=>simp[intOf];have:=Hit.out;omega}}
  {
  by_cases hEq:it=p
  {
  subst hEq;go_wp2
  go_region
  all_goals go_wp2
  go_roundw
  case rel=>exact⟨t+1,xorNext r,_,by rw[Hit.out];go_num,by omega,by rw[size_swp];exact hsk,qA (by rw[<-HeR.out];exact HSw.out),HRn⟩
  case measure=>simp[intOf];have:=Hit.out;omega}
  {
  have hEq2:p≠it:=fun e=>hEq e.symm;go_wp2
  go_region
  all_goals go_wp2
  go_roundw
  case rel=>exact⟨t+1,xorNext r,_,by rw[Hit.out];go_num,by omega,by rw[size_swp];exact hsk,qA (by rw[<-HeR.out];exact HSw.out),HRn⟩
  case measure=>simp[intOf];have:=Hit.out;omega}}}
  {
  have hd:decide ((it:Int)<=(i0:Int)+2)=false:=qF (by omega);obtain rfl:t=3:=by omega
  clear hit;go_wp2
  go_end0
  exact⟨rfl,by rw[HE.out,<-HR.out];exact HX.out.sr⟩}}
 {
 have e:breakPatterns d a b=d:=by unfold breakPatterns;rw[qC (by omega)]
 rw[e];have HS:=qA h;clear h e;go_enter Tryz.func236,Tryz.ntmps236
 go_wp2
 go_end0
 exact⟨rfl,HS.out⟩}
theorem aXB{w wr:World}{blk off cap a b pivot n:Nat}{d:Array Int}(h:SR w wr blk off d)(hn:d.size=n)(hap:a<=pivot)(hpb:pivot<b)(hb:b<=n)(hsz:n<4611686018427387904):
    Calls Tryz.prog 241 #[.slice (some ⟨blk,off,none⟩) n cap,.int .i64 a,.int .i64 b,.int .i64 pivot] wr fun e w' =>e=.returned (.int .i64 (partitionEqual ltInt d a b pivot).1)/\SR w w' blk off (partitionEqual ltInt d a b pivot).2:=by
 obtain⟨G,hG⟩:∃G:Nat->Int,∀t,d[t]! =G t:=⟨fun t=>d[t]!,fun _=>rfl⟩;have ca:wr.cell? ⟨blk,off+a,none⟩=some (.int .u64 (G a)):=by rw[h.cell (by omega),hG]
 have fa:wr.frozen? ⟨blk,off+a,none⟩=false:=h.frozen _;have cp:wr.cell? ⟨blk,off+pivot,none⟩=some (.int .u64 (G pivot)):=by rw[h.cell (by omega),hG]
 have fp:wr.frozen? ⟨blk,off+pivot,none⟩=false:=h.frozen _;have an:(a:Int)<n:=by omega
 have pn:(pivot:Int)<n:=by omega
 have hsw:=h.swapD (i:=a) (j:=pivot) (by omega) (by omega);rw[hG,hG]at hsw;have HS:=qA hsw;clear hsw h hG;have HL:Hid (partEqLoop ltInt a (a+1) (b-1) (swp d a pivot)=partitionEqual ltInt d a b pivot):=qA rfl;generalize partitionEqual ltInt d a b pivot=res at *;go_enter Tryz.func241,Tryz.ntmps241
 go_wp2
 by_cases hEq:a=pivot
 case' pos=>
  subst hEq;go_region
  all_goals go_wp2
  have hsz0:(swp d a a).size=n:=by rw[size_swp];exact hn
  generalize swp d a a=d0 at *;generalize ((wr.setCell ⟨blk,off+a,none⟩ (.int .u64 (G a))).setCell ⟨blk,off+a,none⟩ (.int .u64 (G a))).drew=w1 at *
 case' neg=>
  have ne1:pivot≠a:=fun e=>hEq e.symm;go_region
  all_goals go_wp2
  have hsz0:(swp d a pivot).size=n:=by rw[size_swp];exact hn
  generalize swp d a pivot=d0 at *;generalize ((wr.setCell ⟨blk,off+a,none⟩ (.int .u64 (G pivot))).setCell ⟨blk,off+pivot,none⟩ (.int .u64 (G a))).drew=w1 at *
 all_goals
  clear ca fa cp fp;go_loopw [9,10] (fun vi vj wr=>∃(i j:Nat) (dk:Array Int),vi=.int .i64 i/\vj=.int .i64 j/\a+1<=i/\i<=j+1/\j<b/\dk.size=n/\Hid (SR w wr blk off dk)/\Hid (partEqLoop ltInt a i j dk=res)) (fun vi vj _=>(intOf vj+1-intOf vi).toNat)
  case atStart=>exact⟨a+1,b-1,d0,by go_num,by congr 1;omega,by omega,by omega,by omega,hsz0,HS,HL⟩
  case round=>
   clear HS HL;obtain⟨i,j,dk,rfl,rfl,hai,hij1,hjb,hsk,HS,HL⟩:=hrel;obtain⟨G,hG⟩:∃G:Nat->Int,∀t,dk[t]! =G t:=⟨fun t=>dk[t]!,fun _=>rfl⟩;have HG:=qA hG;clear hG;go_wp2
   go_loopw [9] (fun vi wr2=>∃(i2:Nat),vi=.int .i64 i2/\i<=i2/\i2<=j+1/\Hid (SR w wr2 blk off dk)/\Hid (scanUp (fun x=> !ltInt dk[a]! x) dk j i2=scanUp (fun x=> !ltInt dk[a]! x) dk j i)) (fun vi _=>j+1-(intOf vi).toNat)
   case atStart=>exact⟨i,rfl,qK _,by omega,HS,qA rfl⟩
   case round=>
    clear HS;obtain⟨i2,rfl,hi2a,hi2b,HS,HU⟩:=hrel;by_cases hij:i2<=j
    case' pos=>
     have hd:decide (i2<=j)=true:=qG hij;have an:(a:Int)<n:=by omega
     have in2:(i2:Int)<n:=by omega
     have ci:wr.cell? ⟨blk,off+i2,none⟩=some (.int .u64 (G i2)):=by rw[HS.out.cell (by omega),HG.out]
     have ca:wr.cell? ⟨blk,off+a,none⟩=some (.int .u64 (G a)):=by rw[HS.out.cell (by omega),HG.out]
     cases hl:ltInt (G a) (G i2)
     case false=>
      have HU2:=qA (show scanUp (fun x=> !ltInt dk[a]! x) dk j (i2+1)=scanUp (fun x=> !ltInt dk[a]! x) dk j i by rw[<-HU.out,scanUp_go (fun x=> !ltInt dk[a]! x) dk j i2 hij (by simp only[HG.out,hl];rfl)]);go_wp2
      go_quiet (first|(go_at_call 240;refine qJ (aX hl _)))
      go_wp2
      go_roundw
      case rel=>exact⟨i2+1,by go_num,by omega,by omega,qA (HS.out.drewN nq),HU2⟩
      case measure=>simp[intOf];omega
     have hI:i2=scanUp (fun x=> !ltInt dk[a]! x) dk j i:=by rw[<-HU.out,scanUp_end (fun x=> !ltInt dk[a]! x) dk j i2 (.inr (by simp only[HG.out,hl];rfl))]
     have HI:=qA hI;clear hI;go_wp2
     go_quiet (first|(go_at_call 240;refine qJ (aX hl _)))
     go_wp2
     have HS:=qA (HS.out.drewN nq);generalize wr.drewN nq=wq at *;clear hl ci ca hd
    case' neg=>
     have hd:decide (i2<=j)=false:=qF hij;have hI:i2=scanUp (fun x=> !ltInt dk[a]! x) dk j i:=by rw[<-HU.out,scanUp_end (fun x=> !ltInt dk[a]! x) dk j i2 (.inl hij)]
     have HI:=qA hI;clear hI;go_wp2
     go_quiet (first|(go_at_call 240;refine qJ (aX rfl _)))
     go_wp2
     have HS:=qA (HS.out.drewN nq);generalize wr.drewN nq=wq at *;clear hd hij
    all_goals
     go_loopw [10] (fun vj wr3=>∃(j2:Nat),vj=.int .i64 j2/\i2<=j2+1/\j2<=j/\Hid (SR w wr3 blk off dk)/\Hid (scanDown (fun x=>ltInt dk[a]! x) dk i2 j2=scanDown (fun x=>ltInt dk[a]! x) dk i2 j)) (fun vj _=>(intOf vj).toNat)
     case atStart=>exact⟨j,rfl,by omega,qK _,HS,qA rfl⟩
     case round=>
      clear HS;obtain⟨j2,rfl,hj2a,hj2b,HS,HD⟩:=hrel;by_cases hij:i2<=j2
      {
      have hd:decide (i2<=j2)=true:=qG hij;have an:(a:Int)<n:=by omega
      have jn:(j2:Int)<n:=by omega
      have ci:wr.cell? ⟨blk,off+j2,none⟩=some (.int .u64 (G j2)):=by rw[HS.out.cell (by omega),HG.out]
      have ca:wr.cell? ⟨blk,off+a,none⟩=some (.int .u64 (G a)):=by rw[HS.out.cell (by omega),HG.out]
      cases hl:ltInt (G a) (G j2) with
      | true=>{
      have HD2:=qA (show scanDown (fun x=>ltInt dk[a]! x) dk i2 (j2-1)=scanDown (fun x=>ltInt dk[a]! x) dk i2 j by rw[<-HD.out,scanDown_go (fun x=>ltInt dk[a]! x) dk i2 j2 hij (by omega) (by simp only[HG.out,hl])]);go_wp2
      go_quiet (first|(go_at_call 240;refine qJ (aX hl _)))
      go_wp2
      go_roundw
      case rel=>exact⟨j2-1,by congr 1;omega,by omega,by omega,qA (HS.out.drewN nq),HD2⟩
      case measure=>simp[intOf];omega}
      | false=>{
      have hJ:j2=scanDown (fun x=>ltInt dk[a]! x) dk i2 j:=by rw[<-HD.out,scanDown_end (fun x=>ltInt dk[a]! x) dk i2 j2 (.inr (by simp only[HG.out,hl]))]
      have HJ:=qA hJ;clear hJ;have fi:wr.frozen? ⟨blk,off+j2,none⟩=false:=HS.out.frozen _;have fi2:wr.frozen? ⟨blk,off+i2,none⟩=false:=HS.out.frozen _;have ci2:wr.cell? ⟨blk,off+i2,none⟩=some (.int .u64 (G i2)):=by rw[HS.out.cell (by omega),HG.out]
      have in2:(i2:Int)<n:=by omega
      have hne:i2<j2:=scans_lt ltInt a i j dk (by omega) HI.out HJ.out hij;have ne1:i2≠j2:=by omega
      have ne2:j2≠i2:=by omega
      have hgt:decide (i2>j2)=false:=qF (by omega);go_wp2
      go_quiet (first|(go_at_call 240;refine qJ (aX hl _)))
      go_wp2
      go_region
      all_goals go_wp2
      go_roundw
      case rel=>
       refine⟨i2+1,j2-1,swp dk i2 j2,by go_num,by congr 1;omega,by omega,by omega,by omega,by rw[size_swp];exact hsk,qA ?_,qA ?_⟩
       {
       have:=HS.out.swap (nq+1) (i:=i2) (j:=j2) (by omega) (by omega);rw[HG.out,HG.out]at this;exact this}
       · rw[<-HL.out,partEq_go ltInt a i j dk HI.out HJ.out (by omega)]
      case measure=>simp[intOf];omega}}
      {
      have hd:decide (i2<=j2)=false:=qF hij;have hJ:j2=scanDown (fun x=>ltInt dk[a]! x) dk i2 j:=by rw[<-HD.out,scanDown_end (fun x=>ltInt dk[a]! x) dk i2 j2 (.inl hij)]
      have HJ:=qA hJ;clear hJ;have hgt:decide (i2>j2)=true:=qG (by omega);go_wp2
      go_quiet (first|(go_at_call 240;refine qJ (aX rfl _)))
      go_wp2
      go_ret;exact⟨by rw[<-HL.out,partEq_break ltInt a i j dk HI.out HJ.out (by omega)];rfl,by rw[<-HL.out,partEq_break ltInt a i j dk HI.out HJ.out (by omega)];exact HS.out.drewN nq⟩}
theorem aTV{w wr:World}{blk off cap a b pivot n:Nat}{d:Array Int}(h:SR w wr blk off d)(hn:d.size=n)(hap:a<=pivot)(hpb:pivot<b)(hb:b<=n)(hsz:n<4611686018427387904):
    Calls Tryz.prog 242 #[.slice (some ⟨blk,off,none⟩) n cap,.int .i64 a,.int .i64 b,.int .i64 pivot] wr fun e w' =>
      e=.returned (.tuple #[.int .i64 (partition ltInt d a b pivot).1,.bool (partition ltInt d a b pivot).2.1])/\SR w w' blk off (partition ltInt d a b pivot).2.2:=by
 obtain⟨G,hG⟩:∃G:Nat->Int,∀t,d[t]! =G t:=⟨fun t=>d[t]!,fun _=>rfl⟩;have ca:wr.cell? ⟨blk,off+a,none⟩=some (.int .u64 (G a)):=by rw[h.cell (by omega),hG]
 have fa:wr.frozen? ⟨blk,off+a,none⟩=false:=h.frozen _;have cp:wr.cell? ⟨blk,off+pivot,none⟩=some (.int .u64 (G pivot)):=by rw[h.cell (by omega),hG]
 have fp:wr.frozen? ⟨blk,off+pivot,none⟩=false:=h.frozen _;have an:(a:Int)<n:=by omega
 have pn:(pivot:Int)<n:=by omega
 have hsw:=h.swapD (i:=a) (j:=pivot) (by omega) (by omega);rw[hG,hG]at hsw;have HS:=qA hsw;clear hsw h hG;obtain⟨i,hi⟩:∃i:Nat,i=a+1:=⟨_,rfl⟩;obtain⟨j,hj⟩:∃j:Nat,j=b-1:=⟨_,rfl⟩;have hii:(a:Int)+1=(i:Int):=by omega
 have hji:(b:Int)-1=(j:Int):=by omega
 have hai:a+1<=i:=by omega
 have hij1:i<=j+1:=by omega
 have hjb:j<b:=by omega
 have Hij:=qA (zI hi hj);clear hi hj;obtain⟨res,hres⟩:∃res,partition ltInt d a b pivot=res:=⟨_,rfl⟩;rw[hres];have HR0:=qA hres;clear hres;go_enter Tryz.func242,Tryz.ntmps242
 go_wp2
 by_cases hEq:a=pivot
 case' pos=>
  have HEq:=qA hEq;rw[<-hEq]at HS cp fp ⊢;clear hEq;go_region
  all_goals go_wp2
  obtain⟨dk,hdk⟩:∃dk,dk=swp d a pivot:=⟨_,rfl⟩;have hsk:dk.size=n:=by rw[hdk,size_swp];exact hn
  have Hdk:=qA hdk;rw[<-HEq.out]at hdk;rw[<-hdk]at HS;clear hdk;generalize ((wr.setCell ⟨blk,off+a,none⟩ (.int .u64 (G a))).setCell ⟨blk,off+a,none⟩ (.int .u64 (G a))).drew=w1 at *
 case' neg=>
  have ne1:pivot≠a:=fun e=>hEq e.symm;go_region
  all_goals go_wp2
  obtain⟨dk,hdk⟩:∃dk,dk=swp d a pivot:=⟨_,rfl⟩;have hsk:dk.size=n:=by rw[hdk,size_swp];exact hn
  have Hdk:=qA hdk;rw[<-hdk]at HS;clear hdk;generalize ((wr.setCell ⟨blk,off+a,none⟩ (.int .u64 (G pivot))).setCell ⟨blk,off+pivot,none⟩ (.int .u64 (G a))).drew=w1 at *
 all_goals
  clear ca fa cp fp;obtain⟨G,hG⟩:∃G:Nat->Int,∀t,dk[t]! =G t:=⟨fun t=>dk[t]!,fun _=>rfl⟩;have HG:=qA hG;clear hG;go_loopw [10] (fun vi wr2=>∃(i2:Nat),vi=.int .i64 i2/\i<=i2/\i2<=j+1/\Hid (SR w wr2 blk off dk)/\Hid (scanUp (fun x=>ltInt x dk[a]!) dk j i2=scanUp (fun x=>ltInt x dk[a]!) dk j i)) (fun vi _=>j+1-(intOf vi).toNat)
  case atStart=>exact⟨i,rfl,qK _,by omega,HS,qA rfl⟩
  case round=>
   clear HS;obtain⟨i2,rfl,hi2a,hi2b,HS,HU⟩:=hrel;by_cases hij:i2<=j
   case' pos=>
    have hd:decide (i2<=j)=true:=qG hij;have an:(a:Int)<n:=by omega
    have in2:(i2:Int)<n:=by omega
    have ci:wr.cell? ⟨blk,off+i2,none⟩=some (.int .u64 (G i2)):=by rw[HS.out.cell (by omega),HG.out]
    have ca:wr.cell? ⟨blk,off+a,none⟩=some (.int .u64 (G a)):=by rw[HS.out.cell (by omega),HG.out]
    cases hl:ltInt (G i2) (G a)
    case true=>
     have HU2:=qA (show scanUp (fun x=>ltInt x dk[a]!) dk j (i2+1)=scanUp (fun x=>ltInt x dk[a]!) dk j i by rw[<-HU.out,scanUp_go (fun x=>ltInt x dk[a]!) dk j i2 hij (by simp only[HG.out,hl])]);go_wp2
     go_quiet (first|(go_at_call 240;refine qJ (aX hl _)))
     go_wp2
     go_roundw
     case rel=>exact⟨i2+1,by go_num,by omega,by omega,qA (HS.out.drewN nq),HU2⟩
     case measure=>simp[intOf];omega
    have hI:i2=scanUp (fun x=>ltInt x dk[a]!) dk j i:=by rw[<-HU.out,scanUp_end (fun x=>ltInt x dk[a]!) dk j i2 (.inr (by simp only[HG.out,hl]))]
    have HI:=qA hI;clear hI;go_wp2
    go_quiet (first|(go_at_call 240;refine qJ (aX hl _)))
    go_wp2
    have HS:=qA (HS.out.drewN nq);generalize wr.drewN nq=wq at *;clear hl ci ca hd
   case' neg=>
    have hd:decide (i2<=j)=false:=qF hij;have hI:i2=scanUp (fun x=>ltInt x dk[a]!) dk j i:=by rw[<-HU.out,scanUp_end (fun x=>ltInt x dk[a]!) dk j i2 (.inl hij)]
    have HI:=qA hI;clear hI;go_wp2
    go_quiet (first|(go_at_call 240;refine qJ (aX rfl _)))
    go_wp2
    have HS:=qA (HS.out.drewN nq);generalize wr.drewN nq=wq at *;clear hd hij
   all_goals
    go_loopw [11] (fun vj wr3=>∃(j2:Nat),vj=.int .i64 j2/\i2<=j2+1/\j2<=j/\Hid (SR w wr3 blk off dk)/\Hid (scanDown (fun x=> !ltInt x dk[a]!) dk i2 j2=scanDown (fun x=> !ltInt x dk[a]!) dk i2 j)) (fun vj _=>(intOf vj).toNat)
    case atStart=>exact⟨j,rfl,by omega,qK _,HS,qA rfl⟩
    case round=>
     clear HS;obtain⟨j2,rfl,hj2a,hj2b,HS,HD⟩:=hrel;by_cases hij:i2<=j2
     {
     have hd:decide (i2<=j2)=true:=qG hij;have an:(a:Int)<n:=by omega
     have jn:(j2:Int)<n:=by omega
     have ci:wr.cell? ⟨blk,off+j2,none⟩=some (.int .u64 (G j2)):=by rw[HS.out.cell (by omega),HG.out]
     have ca:wr.cell? ⟨blk,off+a,none⟩=some (.int .u64 (G a)):=by rw[HS.out.cell (by omega),HG.out]
     cases hl:ltInt (G j2) (G a) with
     | false=>{
     have HD2:=qA (show scanDown (fun x=> !ltInt x dk[a]!) dk i2 (j2-1)=scanDown (fun x=> !ltInt x dk[a]!) dk i2 j by rw[<-HD.out,scanDown_go (fun x=> !ltInt x dk[a]!) dk i2 j2 hij (by omega) (by simp only[HG.out,hl];rfl)]);go_wp2
     go_quiet (first|(go_at_call 240;refine qJ (aX hl _)))
     go_wp2
     go_roundw
     case rel=>exact⟨j2-1,by congr 1;omega,by omega,by omega,qA (HS.out.drewN nq),HD2⟩
     case measure=>simp[intOf];omega}
     | true=>{
     have hJ:j2=scanDown (fun x=> !ltInt x dk[a]!) dk i2 j:=by rw[<-HD.out,scanDown_end (fun x=> !ltInt x dk[a]!) dk i2 j2 (.inr (by simp only[HG.out,hl];rfl))]
     have HJ:=qA hJ;clear hJ;have fi:wr.frozen? ⟨blk,off+j2,none⟩=false:=HS.out.frozen _;have fi2:wr.frozen? ⟨blk,off+i2,none⟩=false:=HS.out.frozen _;have ci2:wr.cell? ⟨blk,off+i2,none⟩=some (.int .u64 (G i2)):=by rw[HS.out.cell (by omega),HG.out]
     have in2:(i2:Int)<n:=by omega
     have hne:i2<j2:=part_scans_lt ltInt a i j dk (by omega) HI.out HJ.out hij;have ne1:i2≠j2:=by omega
     have ne2:j2≠i2:=by omega
     have hgt:decide (i2>j2)=false:=qF (by omega);go_wp2
     go_quiet (first|(go_at_call 240;refine qJ (aX hl _)))
     go_wp2
     go_region
     all_goals go_wp2
     have hfirst:=part_first_go ltInt d a b pivot Hij.out.1 Hij.out.2 Hdk.out HI.out HJ.out (show ¬i2>j2 by omega);obtain⟨rl,hrl⟩:∃rl,partLoop ltInt a (i2+1) (j2-1) (swp dk i2 j2)=rl:=⟨_,rfl⟩;rw[hrl,HR0.out]at hfirst;have HFirst:=qA hfirst;clear hfirst;have HLr:=qA hrl;clear hrl;have HSw:Hid (SR w (((wr.drewN (nq+1)).setCell ⟨blk,off+i2,none⟩ (.int .u64 (G j2))).setCell ⟨blk,off+j2,none⟩ (.int .u64 (G i2))) blk off (swp dk i2 j2)):=qA (by
       have:=HS.out.swap (nq+1) (i:=i2) (j:=j2) (by omega) (by omega);rw[HG.out,HG.out]at this;exact this)
     generalize ((wr.drewN (nq+1)).setCell ⟨blk,off+i2,none⟩ (.int .u64 (G j2))).setCell ⟨blk,off+j2,none⟩ (.int .u64 (G i2))=ws at *;go_loopw [10,11] (fun vi vj wr=>∃(i j:Nat) (dk:Array Int),vi=.int .i64 i/\vj=.int .i64 j/\a+1<=i/\i<=j+1/\j<b/\dk.size=n/\Hid (SR w wr blk off dk)/\Hid (partLoop ltInt a i j dk=rl)) (fun vi vj _=>(intOf vj+1-intOf vi).toNat)
     case atStart=>exact⟨i2+1,j2-1,swp dk i2 j2,by go_num,by congr 1;omega,by omega,by omega,by omega,by rw[size_swp];exact hsk,HSw,HLr⟩
     case round=>
      clear HSw HLr HS HI HJ HD HU HG;obtain⟨i,j,dk,rfl,rfl,hai,hij1,hjb,hsk,HS,HL⟩:=hrel;obtain⟨G,hG⟩:∃G:Nat->Int,∀t,dk[t]! =G t:=⟨fun t=>dk[t]!,fun _=>rfl⟩;have HG:=qA hG;clear hG;go_wp2
      go_loopw [10] (fun vi wr2=>∃(i2:Nat),vi=.int .i64 i2/\i<=i2/\i2<=j+1/\Hid (SR w wr2 blk off dk)/\Hid (scanUp (fun x=>ltInt x dk[a]!) dk j i2=scanUp (fun x=>ltInt x dk[a]!) dk j i)) (fun vi _=>j+1-(intOf vi).toNat)
      case atStart=>exact⟨i,rfl,qK _,by omega,HS,qA rfl⟩
      case round=>
       clear HS;obtain⟨i2,rfl,hi2a,hi2b,HS,HU⟩:=hrel;by_cases hij:i2<=j
       case' pos=>
        have hd:decide (i2<=j)=true:=qG hij;have an:(a:Int)<n:=by omega
        have in2:(i2:Int)<n:=by omega
        have ci:wr.cell? ⟨blk,off+i2,none⟩=some (.int .u64 (G i2)):=by rw[HS.out.cell (by omega),HG.out]
        have ca:wr.cell? ⟨blk,off+a,none⟩=some (.int .u64 (G a)):=by rw[HS.out.cell (by omega),HG.out]
        cases hl:ltInt (G i2) (G a)
        case true=>
         have HU2:=qA (show scanUp (fun x=>ltInt x dk[a]!) dk j (i2+1)=scanUp (fun x=>ltInt x dk[a]!) dk j i by rw[<-HU.out,scanUp_go (fun x=>ltInt x dk[a]!) dk j i2 hij (by simp only[HG.out,hl])]);go_wp2
         go_quiet (first|(go_at_call 240;refine qJ (aX hl _)))
         go_wp2
         go_roundw
         case rel=>exact⟨i2+1,by go_num,by omega,by omega,qA (HS.out.drewN nq),HU2⟩
         case measure=>simp[intOf];omega
        have hI:i2=scanUp (fun x=>ltInt x dk[a]!) dk j i:=by rw[<-HU.out,scanUp_end (fun x=>ltInt x dk[a]!) dk j i2 (.inr (by simp only[HG.out,hl]))]
        have HI:=qA hI;clear hI;go_wp2
        go_quiet (first|(go_at_call 240;refine qJ (aX hl _)))
        go_wp2
        have HS:=qA (HS.out.drewN nq);generalize wr.drewN nq=wq at *;clear hl ci ca hd
       case' neg=>
        have hd:decide (i2<=j)=false:=qF hij;have hI:i2=scanUp (fun x=>ltInt x dk[a]!) dk j i:=by rw[<-HU.out,scanUp_end (fun x=>ltInt x dk[a]!) dk j i2 (.inl hij)]
        have HI:=qA hI;clear hI;go_wp2
        go_quiet (first|(go_at_call 240;refine qJ (aX rfl _)))
        go_wp2
        have HS:=qA (HS.out.drewN nq);generalize wr.drewN nq=wq at *;clear hd hij
       all_goals
        go_loopw [11] (fun vj wr3=>∃(j2:Nat),vj=.int .i64 j2/\i2<=j2+1/\j2<=j/\Hid (SR w wr3 blk off dk)/\Hid (scanDown (fun x=> !ltInt x dk[a]!) dk i2 j2=scanDown (fun x=> !ltInt x dk[a]!) dk i2 j)) (fun vj _=>(intOf vj).toNat)
        case atStart=>exact⟨j,rfl,by omega,qK _,HS,qA rfl⟩
        case round=>
         clear HS;obtain⟨j2,rfl,hj2a,hj2b,HS,HD⟩:=hrel;by_cases hij:i2<=j2
         {
         have hd:decide (i2<=j2)=true:=qG hij;have an:(a:Int)<n:=by omega
         have jn:(j2:Int)<n:=by omega
         have ci:wr.cell? ⟨blk,off+j2,none⟩=some (.int .u64 (G j2)):=by rw[HS.out.cell (by omega),HG.out]
         have ca:wr.cell? ⟨blk,off+a,none⟩=some (.int .u64 (G a)):=by rw[HS.out.cell (by omega),HG.out]
         cases hl:ltInt (G j2) (G a) with
         | false=>{
         have HD2:=qA (show scanDown (fun x=> !ltInt x dk[a]!) dk i2 (j2-1)=scanDown (fun x=> !ltInt x dk[a]!) dk i2 j by rw[<-HD.out,scanDown_go (fun x=> !ltInt x dk[a]!) dk i2 j2 hij (by omega) (by simp only[HG.out,hl];rfl)]);go_wp2
         go_quiet (first|(go_at_call 240;refine qJ (aX hl _)))
         go_wp2
         go_roundw
         case rel=>exact⟨j2-1,by congr 1;omega,by omega,by omega,qA (HS.out.drewN nq),HD2⟩
         case measure=>simp[intOf];omega}
         | true=>{
         have hJ:j2=scanDown (fun x=> !ltInt x dk[a]!) dk i2 j:=by rw[<-HD.out,scanDown_end (fun x=> !ltInt x dk[a]!) dk i2 j2 (.inr (by simp only[HG.out,hl];rfl))]
         have HJ:=qA hJ;clear hJ;have fi:wr.frozen? ⟨blk,off+j2,none⟩=false:=HS.out.frozen _;have fi2:wr.frozen? ⟨blk,off+i2,none⟩=false:=HS.out.frozen _;have ci2:wr.cell? ⟨blk,off+i2,none⟩=some (.int .u64 (G i2)):=by rw[HS.out.cell (by omega),HG.out]
         have in2:(i2:Int)<n:=by omega
         have hne:i2<j2:=part_scans_lt ltInt a i j dk (by omega) HI.out HJ.out hij;have ne1:i2≠j2:=by omega
         have ne2:j2≠i2:=by omega
         have hgt:decide (i2>j2)=false:=qF (by omega);go_wp2
         go_quiet (first|(go_at_call 240;refine qJ (aX hl _)))
         go_wp2
         go_region
         all_goals go_wp2
         go_roundw
         case rel=>
          refine⟨i2+1,j2-1,swp dk i2 j2,by go_num,by congr 1;omega,by omega,by omega,by omega,by rw[size_swp];exact hsk,qA ?_,qA ?_⟩
          {
          have:=HS.out.swap (nq+1) (i:=i2) (j:=j2) (by omega) (by omega);rw[HG.out,HG.out]at this;exact this}
          · rw[<-HL.out,part_go ltInt a i j dk HI.out HJ.out (by omega)]
         case measure=>simp[intOf];omega}}
         {
         have hd:decide (i2<=j2)=false:=qF hij;have hJ:j2=scanDown (fun x=> !ltInt x dk[a]!) dk i2 j:=by rw[<-HD.out,scanDown_end (fun x=> !ltInt x dk[a]!) dk i2 j2 (.inl hij)]
         have HJ:=qA hJ;clear hJ;have hgt:decide (i2>j2)=true:=qG (by omega);go_wp2
         go_quiet (first|(go_at_call 240;refine qJ (aX rfl _)))
         go_wp2
         have hja:a<=j2:=by omega
         have an:(a:Int)<n:=by omega
         have jn:(j2:Int)<n:=by omega
         have cj:wr.cell? ⟨blk,off+j2,none⟩=some (.int .u64 (G j2)):=by rw[HS.out.cell (by omega),HG.out]
         have fj:wr.frozen? ⟨blk,off+j2,none⟩=false:=HS.out.frozen _;have ca:wr.cell? ⟨blk,off+a,none⟩=some (.int .u64 (G a)):=by rw[HS.out.cell (by omega),HG.out]
         have fa:wr.frozen? ⟨blk,off+a,none⟩=false:=HS.out.frozen _;have hsw:SR w (((wr.drewN (nq+1)).setCell ⟨blk,off+j2,none⟩ (.int .u64 (G a))).setCell ⟨blk,off+a,none⟩ (.int .u64 (G j2))) blk off (swp dk j2 a):=by {
         have:=HS.out.swap (nq+1) (i:=j2) (j:=a) (by omega) (by omega);rw[HG.out,HG.out]at this;exact this};have HSw:=qA hsw;clear hsw;have HRes:=qA (show res=(j2,false,swp dk j2 a) by rw[HFirst.out,<-HL.out,part_break ltInt a i j dk HI.out HJ.out (by omega)]);by_cases hEq:j2=a
         {
         rw[hEq]at HSw HRes ⊢;clear cj fj;go_region
         all_goals go_wp2
         go_ret2;exact⟨by rw[HRes.out];rfl,by rw[HRes.out];exact HSw.out⟩}
         {
         have ne2:a≠j2:=fun e=>hEq e.symm;go_region
         all_goals go_wp2
         go_ret2;exact⟨by rw[HRes.out];rfl,by rw[HRes.out];exact HSw.out⟩}}}}
     {
     have hd:decide (i2<=j2)=false:=qF hij;have hJ:j2=scanDown (fun x=> !ltInt x dk[a]!) dk i2 j:=by rw[<-HD.out,scanDown_end (fun x=> !ltInt x dk[a]!) dk i2 j2 (.inl hij)]
     have HJ:=qA hJ;clear hJ;have hgt:decide (i2>j2)=true:=qG (by omega);go_wp2
     go_quiet (first|(go_at_call 240;refine qJ (aX rfl _)))
     go_wp2
     have hja:a<=j2:=by omega
     have an:(a:Int)<n:=by omega
     have jn:(j2:Int)<n:=by omega
     have cj:wr.cell? ⟨blk,off+j2,none⟩=some (.int .u64 (G j2)):=by rw[HS.out.cell (by omega),HG.out]
     have fj:wr.frozen? ⟨blk,off+j2,none⟩=false:=HS.out.frozen _;have ca:wr.cell? ⟨blk,off+a,none⟩=some (.int .u64 (G a)):=by rw[HS.out.cell (by omega),HG.out]
     have fa:wr.frozen? ⟨blk,off+a,none⟩=false:=HS.out.frozen _;have hsw:SR w (((wr.drewN (nq+1)).setCell ⟨blk,off+j2,none⟩ (.int .u64 (G a))).setCell ⟨blk,off+a,none⟩ (.int .u64 (G j2))) blk off (swp dk j2 a):=by {
     have:=HS.out.swap (nq+1) (i:=j2) (j:=a) (by omega) (by omega);rw[HG.out,HG.out]at this;exact this};have HSw:=qA hsw;clear hsw;have HRes:=qA (show res=(j2,true,swp dk j2 a) by rw[<-HR0.out];exact part_first_break ltInt d a b pivot Hij.out.1 Hij.out.2 Hdk.out HI.out HJ.out (by omega));by_cases hEq:j2=a
     {
     rw[hEq]at HSw HRes ⊢;clear cj fj;go_region
     all_goals go_wp2
     go_ret2;exact⟨by rw[HRes.out];rfl,by rw[HRes.out];exact HSw.out⟩}
     {
     have ne2:a≠j2:=fun e=>hEq e.symm;go_region
     all_goals go_wp2
     go_ret2;exact⟨by rw[HRes.out];rfl,by rw[HRes.out];exact HSw.out⟩}}
theorem aTW{w wr:World}{blk off cap a b n:Nat}{d:Array Int}(h:SR w wr blk off d)(hn:d.size=n)(hab:a<b)(hb:b<=n)(hsz:n<4611686018427387904):
    Calls Tryz.prog 239 #[.slice (some ⟨blk,off,none⟩) n cap,.int .i64 a,.int .i64 b] wr fun e w' =>
      e=.returned (.bool (partialInsertionSort ltInt d a b).2)/\SR w w' blk off (partialInsertionSort ltInt d a b).1:=by
 have HS:=qA h;clear h;obtain⟨res,hres⟩:∃res,partialInsertionSort ltInt d a b=res:=⟨_,rfl⟩;rw[hres];have HR0:Hid (partialIns ltInt a b 5 (a+1) d=res):=qA hres;clear hres;go_enter Tryz.func239,Tryz.ntmps239
 go_wp2
 go_loopw [7,8] (fun vi vs wr=>∃(i s:Nat) (dk:Array Int),vi=.int .i64 i/\vs=.int .i64 s/\s<=5/\a<i/\i<=b/\dk.size=n/\Hid (SR w wr blk off dk)/\Hid (partialIns ltInt a b (5-s) i dk=res)) (fun _ vs _=>5-(intOf vs).toNat)
 case atStart=>exact⟨a+1,0,d,by go_num,rfl,by omega,by omega,by omega,hn,HS,HR0⟩
 case round=>
  clear HS HR0;obtain⟨i,s,dk,rfl,rfl,hs,hai,hib,hsk,HS,HP⟩:=hrel;by_cases hs5:s<5
  {
  go_wp2
  go_loopw [7] (fun vk wr=>∃(k:Nat),vk=.int .i64 k/\a<k/\k<=b/\Hid (SR w wr blk off dk)/\Hid (scanSorted ltInt dk b k=scanSorted ltInt dk b i)) (fun vk _=>b-(intOf vk).toNat)
  case atStart=>exact⟨i,rfl,by omega,by omega,HS,qA rfl⟩
  case round=>
   clear HS;obtain⟨k,rfl,hka,hkb,HS,HSc⟩:=hrel;by_cases hk:k<b
   {
   obtain⟨G,hG⟩:∃G:Nat->Int,∀t,dk[t]! =G t:=⟨fun t=>dk[t]!,fun _=>rfl⟩;have HG:=qA hG;clear hG;obtain⟨k0,hk0⟩:∃k0:Nat,k0=k-1:=⟨_,rfl⟩;have wk0:IntKind.i64.wrap ((k:Int)-1)=(k0:Int):=jF (by omega) (by omega);have ek0:(k:Int)-1=(k0:Int):=by omega
   have nk:(k:Int)<n:=by omega
   have nk0:(k0:Int)<n:=by omega
   have nek:k≠k0:=by omega
   have nek0:k0≠k:=by omega
   have ck:wr.cell? ⟨blk,off+k,none⟩=some (.int .u64 (G k)):=by rw[HS.out.cell (by omega),HG.out]
   have ck0:wr.cell? ⟨blk,off+k0,none⟩=some (.int .u64 (G k0)):=by rw[HS.out.cell (by omega),HG.out]
   have fk:wr.frozen? ⟨blk,off+k,none⟩=false:=HS.out.frozen _;have fk0:wr.frozen? ⟨blk,off+k0,none⟩=false:=HS.out.frozen _;have Hk0:=qA hk0;clear hk0;cases hl:ltInt (G k) (G k0) with
   | false=>{
   have HSc2:=qA (show scanSorted ltInt dk b (k+1)=scanSorted ltInt dk b i by rw[<-HSc.out,scanSorted_go ltInt dk b k hk (by rw[<-Hk0.out,HG.out,HG.out];exact hl)]);go_wp2
   go_quiet (first|(go_at_call 240;refine qJ (aX hl _)))
   go_wp2
   go_roundw
   case rel=>exact⟨k+1,by go_num,by omega,by omega,qA (HS.out.drewN nq),HSc2⟩
   case measure=>simp[intOf];omega}
   | true=>{
   have HK:=qA (show scanSorted ltInt dk b i=k by rw[<-HSc.out,scanSorted_stop ltInt dk b k (.inr (by rw[<-Hk0.out,HG.out,HG.out];exact hl))]);have hkb2:((k:Int) == (b:Int))=false:=qR.2 (by omega);by_cases h50:b-a<50
   {
   have hd50:decide ((b:Int)-a<50)=true:=qG (by omega);have HRs:=qA (pi_short ltInt a b s i dk hs5 (by rw[HK.out];omega) h50);go_wp2
   go_quiet (first|(go_at_call 240;refine qJ (aX hl _)))
   go_wp2
   go_ret;exact⟨by rw[<-HP.out,HRs.out];rfl,by rw[<-HP.out,HRs.out];exact HS.out.drewN nq⟩}
   {
   have hd50:decide ((b:Int)-a<50)=false:=qF (by omega);by_cases hia:2<=k-a
   {
   by_cases hbi:2<=b-k
   {
   have hda:decide (2<=(k:Int)-a)=true:=qG (by omega);have hdb:decide (2<=(b:Int)-k)=true:=qG (by omega);have hsw:∀q,SR w (((wr.drewN q).setCell ⟨blk,off+k,none⟩ (.int .u64 (G k0))).setCell ⟨blk,off+k0,none⟩ (.int .u64 (G k))) blk off (swp dk k k0):=fun q=>by
     have:=HS.out.swap q (i:=k) (j:=k0) (by omega) (by omega);rw[HG.out,HG.out]at this;exact this
   have HSw:=qA hsw;clear hsw;go_wp2
   go_quiet (first|(go_at_call 240;refine qJ (aX hl _)))
   go_wp2
   go_region
   all_goals go_wp2
   have HS:=qA (HSw.out (nq+1));generalize ((wr.drewN (nq+1)).setCell ⟨blk,off+k,none⟩ (.int .u64 (G k0))).setCell ⟨blk,off+k0,none⟩ (.int .u64 (G k))=wq at *;obtain⟨d1,hd1⟩:∃d1,d1=swp dk k k0:=⟨_,rfl⟩;have hs1:d1.size=n:=by rw[hd1,size_swp];exact hsk
   have H1:=qA (show swp dk k (k-1)=d1 by rw[hd1,Hk0.out]);rw[<-hd1]at HS;clear hd1 HSw ck ck0 fk fk0 hl hkb2;go_loopw [9] (fun vj wr=>∃(j:Nat) (dj:Array Int),vj=.int .i64 j/\j<k/\dj.size=n/\Hid (SR w wr blk off dj)/\Hid (shiftDown ltInt j dj=shiftDown ltInt (k-1) d1)) (fun vj _=>(intOf vj).toNat)
   case atStart=>exact⟨k-1,d1,by congr 1;omega,by omega,hs1,HS,qA rfl⟩
   case round=>
    clear HS;obtain⟨j,dj,rfl,hj1,hsx,HS,HDn⟩:=hrel;by_cases hjb:1<=j
    case' pos=>
     obtain⟨G,hG⟩:∃G:Nat->Int,∀t,dj[t]! =G t:=⟨fun t=>dj[t]!,fun _=>rfl⟩;have HG:=qA hG;clear hG;obtain⟨j0,hj0⟩:∃j0:Nat,j0=j-1:=⟨_,rfl⟩;have wj0:IntKind.i64.wrap ((j:Int)-1)=(j0:Int):=jF (by omega) (by omega);have ej0:(j:Int)-1=(j0:Int):=by omega
     have nj:(j:Int)<n:=by omega
     have nj0:(j0:Int)<n:=by omega
     have nej:j≠j0:=by omega
     have nej0:j0≠j:=by omega
     have cj:wr.cell? ⟨blk,off+j,none⟩=some (.int .u64 (G j)):=by rw[HS.out.cell (by omega),HG.out]
     have cj0:wr.cell? ⟨blk,off+j0,none⟩=some (.int .u64 (G j0)):=by rw[HS.out.cell (by omega),HG.out]
     have fj:wr.frozen? ⟨blk,off+j,none⟩=false:=HS.out.frozen _;have fj0:wr.frozen? ⟨blk,off+j0,none⟩=false:=HS.out.frozen _;have Hj0:=qA hj0;clear hj0;cases hl:ltInt (G j) (G j0)
     case true=>
      have HDn2:=qA (show shiftDown ltInt j0 (swp dj j j0)=shiftDown ltInt (k-1) d1 by rw[<-HDn.out,shiftDown_go ltInt j dj hjb (by rw[<-Hj0.out,HG.out,HG.out];exact hl),Hj0.out]);go_wp2
      go_quiet (first|(go_at_call 240;refine qJ (aX hl _)))
      go_wp2
      go_region
      all_goals go_wp2
      go_roundw
      case rel=>
       refine⟨j0,swp dj j j0,rfl,by omega,by rw[size_swp];exact hsx,qA ?_,HDn2⟩;have:=HS.out.swap (nq+1) (i:=j) (j:=j0) (by omega) (by omega);rw[HG.out,HG.out]at this;exact this
      case measure=>simp[intOf];omega
     have HX:=qA (show fixDown ltInt a k (swp dk k (k-1))=dj by rw[H1.out];unfold fixDown;rw[qD (by omega),<-HDn.out,shiftDown_stop ltInt j dj (.inr (by rw[<-Hj0.out,HG.out,HG.out];exact hl))]);go_wp2
     go_quiet (first|(go_at_call 240;refine qJ (aX hl _)))
     go_wp2
     have HS:=qA (HS.out.drewN nq);generalize wr.drewN nq=wq at *;clear cj cj0 fj fj0 hl
    case' neg=>
     obtain rfl:j=0:=by omega
     have HX:=qA (show fixDown ltInt a k (swp dk k (k-1))=dj by rw[H1.out];unfold fixDown;rw[qD (by omega),<-HDn.out,shiftDown_stop ltInt 0 dj (.inl rfl)]);go_wp2
    all_goals
     obtain⟨dx,hdx⟩:∃dx,dx=dj:=⟨_,rfl⟩;rw[<-hdx]at HS HX hsx;clear hdx;go_loopw [10] (fun vj wr=>∃(j:Nat) (dj:Array Int),vj=.int .i64 j/\k+1<=j/\j<=b/\dj.size=n/\Hid (SR w wr blk off dj)/\Hid (shiftUp ltInt b j dj=shiftUp ltInt b (k+1) dx)) (fun vj _=>b-(intOf vj).toNat)
     case atStart=>exact⟨k+1,dx,by go_num,by omega,by omega,hsx,HS,qA rfl⟩
     case round=>
      clear HS;obtain⟨j,dj,rfl,hj1,hj2,hsj,HS,HUp⟩:=hrel;by_cases hjb:j<b
      {
      obtain⟨G,hG⟩:∃G:Nat->Int,∀t,dj[t]! =G t:=⟨fun t=>dj[t]!,fun _=>rfl⟩;have HG:=qA hG;clear hG;obtain⟨j0,hj0⟩:∃j0:Nat,j0=j-1:=⟨_,rfl⟩;have wj0:IntKind.i64.wrap ((j:Int)-1)=(j0:Int):=jF (by omega) (by omega);have ej0:(j:Int)-1=(j0:Int):=by omega
      have nj:(j:Int)<n:=by omega
      have nj0:(j0:Int)<n:=by omega
      have nej:j≠j0:=by omega
      have nej0:j0≠j:=by omega
      have cj:wr.cell? ⟨blk,off+j,none⟩=some (.int .u64 (G j)):=by rw[HS.out.cell (by omega),HG.out]
      have cj0:wr.cell? ⟨blk,off+j0,none⟩=some (.int .u64 (G j0)):=by rw[HS.out.cell (by omega),HG.out]
      have fj:wr.frozen? ⟨blk,off+j,none⟩=false:=HS.out.frozen _;have fj0:wr.frozen? ⟨blk,off+j0,none⟩=false:=HS.out.frozen _;have Hj0:=qA hj0;clear hj0;cases hl:ltInt (G j) (G j0) with
      | true=>{
      have HUp2:=qA (show shiftUp ltInt b (j+1) (swp dj j j0)=shiftUp ltInt b (k+1) dx by rw[<-HUp.out,shiftUp_go ltInt b j dj hjb (by rw[<-Hj0.out,HG.out,HG.out];exact hl),Hj0.out]);go_wp2
      go_quiet (first|(go_at_call 240;refine qJ (aX hl _)))
      go_wp2
      go_region
      all_goals go_wp2
      go_roundw
      case rel=>
       refine⟨j+1,swp dj j j0,by go_num,by omega,by omega,by rw[size_swp];exact hsj,qA ?_,HUp2⟩;have:=HS.out.swap (nq+1) (i:=j) (j:=j0) (by omega) (by omega);rw[HG.out,HG.out]at this;exact this
      case measure=>simp[intOf];omega}
      | false=>{
      go_wp2
      go_quiet (first|(go_at_call 240;refine qJ (aX hl _)))
      go_wp2
      go_roundw
      case rel=>exact⟨k,s+1,_,rfl,by go_num,by omega,by omega,by omega,hsj,qA (HS.out.drewN nq),qA (by rw[<-HP.out,pi_go ltInt a b s i k dk hs5 HK.out (by omega) (by omega)];rw[show fixUp ltInt b k (fixDown ltInt a k (swp dk k (k-1)))=dj by rw[HX.out];unfold fixUp;rw[qD (by omega),<-HUp.out,shiftUp_stop ltInt b j dj (.inr (by rw[<-Hj0.out,HG.out,HG.out];exact hl))]])⟩
      case measure=>simp[intOf];omega}}
      {
      go_wp2
      go_roundw
      case rel=>exact⟨k,s+1,_,rfl,by go_num,by omega,by omega,by omega,hsj,HS,qA (by rw[<-HP.out,pi_go ltInt a b s i k dk hs5 HK.out (by omega) (by omega)];rw[show fixUp ltInt b k (fixDown ltInt a k (swp dk k (k-1)))=dj by rw[HX.out];unfold fixUp;rw[qD (by omega),<-HUp.out,shiftUp_stop ltInt b j dj (.inl hjb)]])⟩
      case measure=>simp[intOf];omega}}
   {
   have hda:decide (2<=(k:Int)-a)=true:=qG (by omega);have hdb:decide (2<=(b:Int)-k)=false:=qF (by omega);have hsw:∀q,SR w (((wr.drewN q).setCell ⟨blk,off+k,none⟩ (.int .u64 (G k0))).setCell ⟨blk,off+k0,none⟩ (.int .u64 (G k))) blk off (swp dk k k0):=fun q=>by
     have:=HS.out.swap q (i:=k) (j:=k0) (by omega) (by omega);rw[HG.out,HG.out]at this;exact this
   have HSw:=qA hsw;clear hsw;go_wp2
   go_quiet (first|(go_at_call 240;refine qJ (aX hl _)))
   go_wp2
   go_region
   all_goals go_wp2
   have HS:=qA (HSw.out (nq+1));generalize ((wr.drewN (nq+1)).setCell ⟨blk,off+k,none⟩ (.int .u64 (G k0))).setCell ⟨blk,off+k0,none⟩ (.int .u64 (G k))=wq at *;obtain⟨d1,hd1⟩:∃d1,d1=swp dk k k0:=⟨_,rfl⟩;have hs1:d1.size=n:=by rw[hd1,size_swp];exact hsk
   have H1:=qA (show swp dk k (k-1)=d1 by rw[hd1,Hk0.out]);rw[<-hd1]at HS;clear hd1 HSw ck ck0 fk fk0 hl hkb2;go_loopw [9] (fun vj wr=>∃(j:Nat) (dj:Array Int),vj=.int .i64 j/\j<k/\dj.size=n/\Hid (SR w wr blk off dj)/\Hid (shiftDown ltInt j dj=shiftDown ltInt (k-1) d1)) (fun vj _=>(intOf vj).toNat)
   case atStart=>exact⟨k-1,d1,by congr 1;omega,by omega,hs1,HS,qA rfl⟩
   case round=>
    clear HS;obtain⟨j,dj,rfl,hj1,hsx,HS,HDn⟩:=hrel;by_cases hjb:1<=j
    case' pos=>
     obtain⟨G,hG⟩:∃G:Nat->Int,∀t,dj[t]! =G t:=⟨fun t=>dj[t]!,fun _=>rfl⟩;have HG:=qA hG;clear hG;obtain⟨j0,hj0⟩:∃j0:Nat,j0=j-1:=⟨_,rfl⟩;have wj0:IntKind.i64.wrap ((j:Int)-1)=(j0:Int):=jF (by omega) (by omega);have ej0:(j:Int)-1=(j0:Int):=by omega
     have nj:(j:Int)<n:=by omega
     have nj0:(j0:Int)<n:=by omega
     have nej:j≠j0:=by omega
     have nej0:j0≠j:=by omega
     have cj:wr.cell? ⟨blk,off+j,none⟩=some (.int .u64 (G j)):=by rw[HS.out.cell (by omega),HG.out]
     have cj0:wr.cell? ⟨blk,off+j0,none⟩=some (.int .u64 (G j0)):=by rw[HS.out.cell (by omega),HG.out]
     have fj:wr.frozen? ⟨blk,off+j,none⟩=false:=HS.out.frozen _;have fj0:wr.frozen? ⟨blk,off+j0,none⟩=false:=HS.out.frozen _;have Hj0:=qA hj0;clear hj0;cases hl:ltInt (G j) (G j0)
     case true=>
      have HDn2:=qA (show shiftDown ltInt j0 (swp dj j j0)=shiftDown ltInt (k-1) d1 by rw[<-HDn.out,shiftDown_go ltInt j dj hjb (by rw[<-Hj0.out,HG.out,HG.out];exact hl),Hj0.out]);go_wp2
      go_quiet (first|(go_at_call 240;refine qJ (aX hl _)))
      go_wp2
      go_region
      all_goals go_wp2
      go_roundw
      case rel=>
       refine⟨j0,swp dj j j0,rfl,by omega,by rw[size_swp];exact hsx,qA ?_,HDn2⟩;have:=HS.out.swap (nq+1) (i:=j) (j:=j0) (by omega) (by omega);rw[HG.out,HG.out]at this;exact this
      case measure=>simp[intOf];omega
     have HX:=qA (show fixDown ltInt a k (swp dk k (k-1))=dj by rw[H1.out];unfold fixDown;rw[qD (by omega),<-HDn.out,shiftDown_stop ltInt j dj (.inr (by rw[<-Hj0.out,HG.out,HG.out];exact hl))]);go_wp2
     go_quiet (first|(go_at_call 240;refine qJ (aX hl _)))
     go_wp2
     have HS:=qA (HS.out.drewN nq);generalize wr.drewN nq=wq at *;clear cj cj0 fj fj0 hl
    case' neg=>
     obtain rfl:j=0:=by omega
     have HX:=qA (show fixDown ltInt a k (swp dk k (k-1))=dj by rw[H1.out];unfold fixDown;rw[qD (by omega),<-HDn.out,shiftDown_stop ltInt 0 dj (.inl rfl)]);go_wp2
    all_goals
     obtain⟨dx,hdx⟩:∃dx,dx=dj:=⟨_,rfl⟩;rw[<-hdx]at HS HX hsx;clear hdx;go_roundw
     case rel=>exact⟨k,s+1,_,rfl,by go_num,by omega,by omega,by omega,hsx,HS,qA (by rw[<-HP.out,pi_go ltInt a b s i k dk hs5 HK.out (by omega) (by omega)];rw[show fixUp ltInt b k (fixDown ltInt a k (swp dk k (k-1)))=dx by rw[HX.out];unfold fixUp;rw[qC (by omega)]])⟩
     case measure=>simp[intOf];omega}}
   {
   by_cases hbi:2<=b-k
   {
   have hda:decide (2<=(k:Int)-a)=false:=qF (by omega);have hdb:decide (2<=(b:Int)-k)=true:=qG (by omega);have hsw:∀q,SR w (((wr.drewN q).setCell ⟨blk,off+k,none⟩ (.int .u64 (G k0))).setCell ⟨blk,off+k0,none⟩ (.int .u64 (G k))) blk off (swp dk k k0):=fun q=>by
     have:=HS.out.swap q (i:=k) (j:=k0) (by omega) (by omega);rw[HG.out,HG.out]at this;exact this
   have HSw:=qA hsw;clear hsw;go_wp2
   go_quiet (first|(go_at_call 240;refine qJ (aX hl _)))
   go_wp2
   go_region
   all_goals go_wp2
   have HS:=qA (HSw.out (nq+1));generalize ((wr.drewN (nq+1)).setCell ⟨blk,off+k,none⟩ (.int .u64 (G k0))).setCell ⟨blk,off+k0,none⟩ (.int .u64 (G k))=wq at *;obtain⟨d1,hd1⟩:∃d1,d1=swp dk k k0:=⟨_,rfl⟩;have hs1:d1.size=n:=by rw[hd1,size_swp];exact hsk
   have H1:=qA (show swp dk k (k-1)=d1 by rw[hd1,Hk0.out]);rw[<-hd1]at HS;clear hd1 HSw ck ck0 fk fk0 hl hkb2;have HX:=qA (show fixDown ltInt a k (swp dk k (k-1))=d1 by rw[H1.out];unfold fixDown;rw[qC (by omega)]);obtain⟨dx,hdx⟩:∃dx,dx=d1:=⟨_,rfl⟩;have hsx:dx.size=n:=by rw[hdx];exact hs1
   rw[<-hdx]at HS HX;clear hdx;go_loopw [10] (fun vj wr=>∃(j:Nat) (dj:Array Int),vj=.int .i64 j/\k+1<=j/\j<=b/\dj.size=n/\Hid (SR w wr blk off dj)/\Hid (shiftUp ltInt b j dj=shiftUp ltInt b (k+1) dx)) (fun vj _=>b-(intOf vj).toNat)
   case atStart=>exact⟨k+1,dx,by go_num,by omega,by omega,hsx,HS,qA rfl⟩
   case round=>
    clear HS;obtain⟨j,dj,rfl,hj1,hj2,hsj,HS,HUp⟩:=hrel;by_cases hjb:j<b
    {
    obtain⟨G,hG⟩:∃G:Nat->Int,∀t,dj[t]! =G t:=⟨fun t=>dj[t]!,fun _=>rfl⟩;have HG:=qA hG;clear hG;obtain⟨j0,hj0⟩:∃j0:Nat,j0=j-1:=⟨_,rfl⟩;have wj0:IntKind.i64.wrap ((j:Int)-1)=(j0:Int):=jF (by omega) (by omega);have ej0:(j:Int)-1=(j0:Int):=by omega
    have nj:(j:Int)<n:=by omega
    have nj0:(j0:Int)<n:=by omega
    have nej:j≠j0:=by omega
    have nej0:j0≠j:=by omega
    have cj:wr.cell? ⟨blk,off+j,none⟩=some (.int .u64 (G j)):=by rw[HS.out.cell (by omega),HG.out]
    have cj0:wr.cell? ⟨blk,off+j0,none⟩=some (.int .u64 (G j0)):=by rw[HS.out.cell (by omega),HG.out]
    have fj:wr.frozen? ⟨blk,off+j,none⟩=false:=HS.out.frozen _;have fj0:wr.frozen? ⟨blk,off+j0,none⟩=false:=HS.out.frozen _;have Hj0:=qA hj0;clear hj0;cases hl:ltInt (G j) (G j0) with
    | true=>{
    have HUp2:=qA (show shiftUp ltInt b (j+1) (swp dj j j0)=shiftUp ltInt b (k+1) dx by rw[<-HUp.out,shiftUp_go ltInt b j dj hjb (by rw[<-Hj0.out,HG.out,HG.out];exact hl),Hj0.out]);go_wp2
    go_quiet (first|(go_at_call 240;refine qJ (aX hl _)))
    go_wp2
    go_region
    all_goals go_wp2
    go_roundw
    case rel=>
     refine⟨j+1,swp dj j j0,by go_num,by omega,by omega,by rw[size_swp];exact hsj,qA ?_,HUp2⟩;have:=HS.out.swap (nq+1) (i:=j) (j:=j0) (by omega) (by omega);rw[HG.out,HG.out]at this;exact this
    case measure=>simp[intOf];omega}
    | false=>{
    go_wp2
    go_quiet (first|(go_at_call 240;refine qJ (aX hl _)))
    go_wp2
    go_roundw
    case rel=>exact⟨k,s+1,_,rfl,by go_num,by omega,by omega,by omega,hsj,qA (HS.out.drewN nq),qA (by rw[<-HP.out,pi_go ltInt a b s i k dk hs5 HK.out (by omega) (by omega)];rw[show fixUp ltInt b k (fixDown ltInt a k (swp dk k (k-1)))=dj by rw[HX.out];unfold fixUp;rw[qD (by omega),<-HUp.out,shiftUp_stop ltInt b j dj (.inr (by rw[<-Hj0.out,HG.out,HG.out];exact hl))]])⟩
    case measure=>simp[intOf];omega}}
    {
    go_wp2
    go_roundw
    case rel=>exact⟨k,s+1,_,rfl,by go_num,by omega,by omega,by omega,hsj,HS,qA (by rw[<-HP.out,pi_go ltInt a b s i k dk hs5 HK.out (by omega) (by omega)];rw[show fixUp ltInt b k (fixDown ltInt a k (swp dk k (k-1)))=dj by rw[HX.out];unfold fixUp;rw[qD (by omega),<-HUp.out,shiftUp_stop ltInt b j dj (.inl hjb)]])⟩
    case measure=>simp[intOf];omega}}
   {
   exfalso
   omega}}}}}
   {
   obtain rfl:k=b:=by omega
   have HK:=qA (show scanSorted ltInt dk k i=k by rw[<-HSc.out,scanSorted_stop ltInt dk k k (.inl hk)]);have HRs:=qA (pi_true ltInt a k s i dk hs5 HK.out);go_wp2
   go_quiet (first|(go_at_call 240;refine qJ (aX rfl _)))
   go_wp2
   go_ret;exact⟨by rw[<-HP.out,HRs.out];rfl,by rw[<-HP.out,HRs.out];exact HS.out.drewN nq⟩}}
  {
  obtain rfl:s=5:=by omega
  go_wp2
  go_ret;exact⟨by rw[<-HP.out,pi_end];rfl,by rw[<-HP.out,pi_end];exact HS.out⟩}
end Go.Proofs.YtjdgpcjbgjnahaaGreatDoor
