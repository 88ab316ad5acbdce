/- A plain model of an intern table: the ids with their indexes, in the order in which they came; the free indexes, the last one first; how many indexes were given out. -/
import Derived.Sort.QuietTacIn
import Derived.RangeFuncNested
import Derived.Test.YtjdgpcjbgjnahaaGreatDoorG1
import Derived.RangeFuncBound
import Derived.RangeFuncCalls
import Derived.RangeFuncLeaves
import Derived.Shelf.Abstract
import Derived.Shelf.RegionOpen
import Derived.OwnWalkIn
import Derived.TacticsInMore
import Derived.LoopNIn
import Derived.LoopIn
set_option maxRecDepth 4000
set_option maxHeartbeats 400000
set_option linter.unusedSimpArgs false
set_option linter.unusedVariables false
/- A region that draws its order and only reads, inside the round of a loop over a range-function: one walk in the order of the text serves. -/
namespace Go.Proofs.YtjdgpcjbgjnahaaGreatDoor
open Go.RowKit
section
variable {F:Fence} {n:Nat} {P:Program} {ops:Array Oper} {md:Region.Mode} {C:World->Prop}
theorem semAt_plain(ro:Option Nat)(ρ:Operand->Value)(o:Oper)(h:∀c,o.op≠.defer c):Oper.semAt ro ρ o=execOp ρ o:=by
 cases ro with
 | none=>exact Oper.semAt_none ρ o
 | some l=>exact Oper.semAt_some l ρ o h
theorem aHP{o:Oper}{a:Act}{K:Act->Prop}{K' :Act->World->Prop}{Q' :Exit->Act->World->Prop}{w:World}(hd:∀c,o.op≠.defer c)(hw:C w)(h:∀a w', C w' -> K a->K' a w')
    (ha:o.askedIn F P a C) (hh:o.quietIn F n P a C K):o.wpIn F n P a w K' Q' :=by
 obtain⟨v,h1,h2⟩:=hh;have h3:=h1 w hw;unfold Oper.quietAtIn at h3;refine⟨ha w hw,?_⟩;rw[semAt_plain _ _ _ hd];generalize (execOp a.eval o).run P w=r at *;cases r with
 | halt x w' =>exact h3.elim
 | ok x w' =>{
 cases x with
 | value u=>obtain⟨rfl,rfl⟩:=h3;exact h _ _ hw h2
 | skip=>obtain⟨rfl,rfl⟩:=h3;exact h _ _ hw h2
 | enter f args=>obtain⟨rfl,hd,hc⟩:=h3;exact⟨hd,hc.mono fun e w'' ⟨he,hw''⟩=>by subst he;exact h _ _ hw'' h2⟩
 | _=>exact h3.elim}
theorem aBT{i:Nat}{a:Act}{K:Act->Prop}{K' :Act->World->Prop}{Q' :Exit->Act->World->Prop}{w:World}(hd:∀o∈ops.toList,∀c,o.op≠.defer c)(hC:C w)(h:∀a w', C w' -> K a->K' a w')
    (hh:qOpIn F n P ops C i K a):wpOpIn F n P ops Q' i K' a w:=by
 unfold qOpIn at hh;unfold wpOpIn;split
 · rename_i ho;simp only[ho]at hh;exact h _ _ hC hh
 {
 rename_i o ho;simp only[ho]at hh;obtain⟨ha,hh⟩:=hh;have hm:o∈ops.toList:=by rw[Array.mem_toList_iff];exact Array.mem_of_getElem? ho
 split
 · rename_i hw;simp only[hw,if_true]at hh;exact aHP (hd o hm) hC h ha hh
 · rename_i hw;simp only[hw]at hh;exact⟨ha w hC,h _ _ hC hh⟩}
theorem vB{Q:Act->Prop}{Q' :Exit->Act->World->Prop}(hd:∀o∈ops.toList,∀c,o.op≠.defer c)(hQ:∀a w,C w->Q a->Q' .normal a w):∀(fuel:Nat) (listed:Array Bool) (a:Act) (w:World),C w ->
    wpAnyQIn F n P md ops C Q fuel listed a->wpAnyIn F n P md ops Q' fuel listed a w
  | 0,_,_,_,hw,h=>⟨h.1,hQ _ _ hw h.2⟩
  | fuel+1,_,_,_,hw,h=>⟨fun h0=>hQ _ _ hw (h.1 h0),fun i hi=>aBT hd hw (fun a' w' hw' =>vB hd hQ fuel _ a' w' hw') (h.2 i hi)⟩
def aDS(o:Oper):Bool:=match o.op with
  | .defer _=>false
  | _=>true
theorem wO{id:Nat}{Q:Exit->Act->World->Prop}{a:Act}{w:World}{l:List Oper}(hm:P.follows .mixedOrders=true)(hB:Region.lexB .any l.toArray=true)(hd:l.all aDS=true)
    (h:wpQuietIn F n P l.toArray (fun w' =>∃n,w' =w.drewN n) (fun a' =>∀w', (∃n,w' =w.drewN n)->Q .normal a' w') l a):(Code.region id l.toArray true).wpIn F n P Q a w:=by
 simp only[Region.lexB,qW]at hB;have hd' :∀o∈l.toArray.toList,∀c,o.op≠.defer c:=by {
 intro o ho c e;have:=List.all_eq_true.1 hd o (by simpa using ho);simp[aDS,e]at this};refine wpIn_region_any hm (vB (Q:=fun a' =>∀w', (∃n,w' =w.drewN n)->Q .normal a' w') (C:=fun w' =>∃n,w' =w.drewN n) hd' (fun _ w' hw' h=>h w' hw') _ _ _ _ ⟨1,rfl⟩ ?_);have:=wpAnyQIn_lex (F:=F) (n:=n) (C:=fun w' =>∃n,w' =w.drewN n) (md:=.any) hB.1 l 0 (Array.replicate l.toArray.size false) a (by simp) (by simpa using hB.2) h;simpa using this
end
end Go.Proofs.YtjdgpcjbgjnahaaGreatDoor
namespace Go.Proofs.YtjdgpcjbgjnahaaGreatDoor
open Go.RowKit Go.Shelf
attribute [local go_sem] Oper.semAt_some
theorem pS(W:World)(n:Nat):KeepsOthers W (W.drewN n):=⟨qJ _,fun _ _ h _=>h⟩
structure nV (B:Nat) (w:World) (pt gc n cap:Nat) (C:Nat->Nat) (v:Value):Prop where
  hpt:pt<B
  hgc:gc<B
  h3:w.cell? ⟨pt,3,none⟩=some (.slice (some ⟨gc,0,none⟩) n cap)
  h2:w.cell? ⟨pt,2,none⟩=some v
  hC:∀c,c<n->w.cell? ⟨gc,c,none⟩=some (.int .i64 (C c))
theorem nV.below{B:Nat}{w w' :World}{pt gc n cap:Nat}{C:Nat->Nat}{v:Value}(h:nV B w pt gc n cap C v)(hb:Below B w w'):nV B w' pt gc n cap C v:=
  ⟨h.hpt,h.hgc,(hb.cell (p:=⟨pt,3,none⟩) h.hpt).trans h.h3,(hb.cell (p:=⟨pt,2,none⟩) h.hpt).trans h.h2,fun c hc=>(hb.cell (p:=⟨gc,c,none⟩) h.hgc).trans (h.hC c hc)⟩
theorem nV.mono{B B' :Nat}{w:World}{pt gc n cap:Nat}{C:Nat->Nat}{v:Value}(h:nV B w pt gc n cap C v)(hb:B<=B'):nV B' w pt gc n cap C v:=
  ⟨Nat.lt_of_lt_of_le h.hpt hb,Nat.lt_of_lt_of_le h.hgc hb,h.h3,h.h2,h.hC⟩
abbrev Prb(n m:Nat):={ x:Nat×Nat // x.1<n/\x.2<=m }
def prb(n m:Nat)(C:Nat->Nat)(hC:∀c,c<n->C c<=m)(hn:0<n)(h0 k:Nat):Prb n m:=⟨((h0+k)%n,C ((h0+k)%n)),Nat.mod_lt _ hn,hC _ (Nat.mod_lt _ hn)⟩
def mK(n m:Nat)(C:Nat->Nat)(hC:∀c,c<n->C c<=m)(hn:0<n)(h0 k:Nat):List (Prb n m):=(List.range k).map (prb n m C hC hn h0)
theorem vC(n m:Nat)(C:Nat->Nat)(hC:∀c,c<n->C c<=m)(hn:0<n)(h0 k:Nat):mK n m C hC hn h0 (k+1)=mK n m C hC hn h0 k++[prb n m C hC hn h0 k]:=by
 simp[mK,List.range_succ]
theorem yO(n m:Nat)(C:Nat->Nat)(hC:∀c,c<n->C c<=m)(hn:0<n)(h0 k:Nat)(hk:k<=n):mK n m C hC hn h0 k <+: mK n m C hC hn h0 n:=by
 refine⟨((List.range n).drop k).map (prb n m C hC hn h0),?_⟩;unfold mK;rw[<-List.map_append];congr 1
 have:List.range k=(List.range n).take k:=by rw[List.take_range,Nat.min_eq_left hk]
 rw[this,List.take_append_drop]
theorem aHQ(pt id:Nat)(w:World):
    CallsIn Fence.wide 9 Tryz.prog 206 #[ptr pt,.int .u64 id] w fun e w' =>e=.returned (.func (.func 229) #[] #[.pointer (some ⟨w.heap.size,0,none⟩),.pointer (some ⟨w.heap.size+1,0,none⟩)])/\w' =(w.alloc (.cells #[ptr pt] 142)).alloc (.cells #[.int .u64 id] 36):=by
 refine callsIn_of_wp Tryz.func206 rfl trivial ?_ rfl;simp only[Tryz.ntmps206,List.size_toArray,qY,List.length_nil,Nat.reduceAdd,Nat.reduceSub,Array.replicate_succ,Array.replicate_zero,List.push_toArray,List.append_toArray,List.nil_append,zB];gi_wp2
 go_ret;exact⟨rfl,rfl⟩
theorem aFF(nf l Bt Bi B pt gc n cap m id:Nat)(C:Nat->Nat)(v:Value)(hC:∀c,c<n->C c<=m)(hM:uF n)(_hmm:m<=65536)(hid:id<18446744073709551616)(hnf:2<=nf)(hBt:Bt<B)(_hBi:Bi<B)
    (J Jx:List (Prb n m)->World->Prop)
    (hY:∀pre x W,J pre W->pre.length<n->YieldAt Fence.wide (nf-1) Tryz.prog l #[.int .i64 x.1.1,.int .i64 x.1.2] W fun e W' =>
      (e=.returned (.bool true)/\J (pre++[x]) W' /\ Below B W W')∨(e=.returned (.bool false)/\Jx (pre++[x]) W'))
    (W:World) (hR:nV B W pt gc n cap C v) (hct:W.cell? ⟨Bt,0,none⟩=some (ptr pt)) (hci:W.cell? ⟨Bi,0,none⟩=some (.int .u64 id)) (h0:J [] W):
    CallsIn Fence.wide nf Tryz.prog 229 #[.func (.yield l) #[] #[],.pointer (some ⟨Bt,0,none⟩),.pointer (some ⟨Bi,0,none⟩)] W fun e W' =>(∃v,e=.returned v) /\
      ((∃ys,ys=mK n m C hC (by have:=hM.pos;omega) (hm n id) n/\J ys W')∨(∃pre,pre <+: mK n m C hC (by have:=hM.pos;omega) (hm n id) n/\Jx pre W')):=by
 have hn:=hM.pos;have hn2:=hM.le;have hi:=hM.i64;have HR:=qA hR;clear hR;have c3:=HR.out.h3;have hh:=sE (show 0<n by omega) id;refine callsIn_of_wp Tryz.func229 rfl trivial ?_ rfl;simp only[Tryz.ntmps229,List.size_toArray,qY,List.length_nil,Nat.reduceAdd,Nat.reduceSub,Array.replicate_succ,Array.replicate_zero,List.push_toArray,List.append_toArray,List.nil_append,zB];gi_wp2_with (refine⟨trivial,fun _=>by omega,?_⟩;gi_at_call 222;refine(callsIn_wide.2 (aBS pt gc n cap id _ c3 hid hM)).mono ?_;rintro e w' ⟨rfl,rfl⟩)
 gi_loopw [4,13] (fun c i wr=>∃k c0:Nat,k<=n/\c0<n/\Hid (c0=(hm n id+k)%n)/\c=.int .i64 c0/\i=.int .i64 k/\Below B W wr/\J (mK n m C hC (by omega) (hm n id) k) wr) (fun _ i _=>n-(intOf i).toNat)
 case atStart=>exact⟨0,hm n id,qR _,hh,qA (by rw[Nat.add_zero,Nat.mod_eq_of_lt hh]),rfl,rfl,Below.refl _ _,h0⟩
 case round=>
  obtain⟨k,c0,hk,hc0,Hc,rfl,rfl,hB,hJ⟩:=hrel;by_cases hlt:k<n
  {
  have hRw:=HR.out.below hB;have r3:=hRw.h3;have rC:=hRw.hC c0 hc0;have rt:=(hB.cell (p:=⟨Bt,0,none⟩) hBt).trans hct;have HR2:=qA hRw;clear hRw;obtain⟨fn,tmps,assign,body,hy,hRd⟩:=hY (mK n m C hC (by omega) (hm n id) k) (prb n m C hC (by omega) (hm n id) k) wr hJ (by simp[mK];exact hlt);have e0:(prb n m C hC (by omega) (hm n id) k).1.1=c0:=Hc.out.symm;have e1:(prb n m C hC (by omega) (hm n id) k).1.2=C c0:=by simp only[prb];rw[<-Hc.out]
  rw[e0,e1]at hy;clear e0 e1;gi_wp2
  refine⟨fun _=>by omega,?_⟩;refine hRd.mono ?_;rintro e W3 (⟨rfl,hJ3,hk3⟩|⟨rfl,hJx3⟩)
  {
  have hR3:=HR2.out.below hk3;have r33:=hR3.h3;have rt3:=(hk3.cell (p:=⟨Bt,0,none⟩) hBt).trans rt;clear hR3 rC r3 rt;gi_wp2
  go_roundw
  case rel=>exact⟨k+1,(c0+1)%n,by omega,Nat.mod_lt _ (by omega),qA (by rw[Hc.out,Nat.mod_add_mod,Nat.add_assoc]),by go_num,by go_num,hB.trans hk3,by rw[vC];exact hJ3⟩
  case measure=>simp[intOf];omega}
  {
  gi_wp2
  refine bodyPost_ret (results_none rfl _ _ _) rfl ?_;exact⟨⟨_,rfl⟩,.inr ⟨_,by rw[<-vC];exact yO n m C hC (by omega) (hm n id) (k+1) (by omega),hJx3⟩⟩}}
  {
  gi_wp2
  go_end0
  have:k=n:=by omega
  subst this;exact⟨⟨_,rfl⟩,.inl ⟨_,rfl,hJ⟩⟩}
def yP(n:Nat)(C ids:Nat->Nat)(id c:Nat)(b:Bool):Prop:=
  ∃k,k<n/\c=(hm n id+k)%n/\(∀j,j<k->C ((hm n id+j)%n)≠0/\ids (C ((hm n id+j)%n)-1)≠id) /\
    ((b=false/\C c=0)∨(b=true/\C c≠0/\ids (C c-1)=id))
def W6(w:World)(pt id:Nat):World:=(((((w.alloc (.cells #[ptr pt] 142)).alloc (.cells #[.int .u64 id] 36)).alloc (.cells #[.int .i64 0] 3)).alloc (.cells #[.bool false] 4)).alloc (.cells #[ptr pt] 142)).alloc (.cells #[.int .u64 id] 36)
theorem aLY(w:World)(pt id:Nat):(W6 w pt id).heap.size=w.heap.size+6:=by simp[W6]
theorem aHR(w:World)(pt id:Nat):Below w.heap.size w (W6 w pt id):=
  ((((((Below.refl _ w).alloc (qJ _) _).alloc (by simp) _).alloc (by simp;omega) _).alloc (by simp;omega) _).alloc (by simp;omega) _).alloc (by simp;omega) _
theorem aPO(w:World)(pt id:Nat):Blk (W6 w pt id) w.heap.size 142 [ptr pt]/\Blk (W6 w pt id) (w.heap.size+1) 36 [.int .u64 id]/\Blk (W6 w pt id) (w.heap.size+2) 3 [.int .i64 0]/\Blk (W6 w pt id) (w.heap.size+3) 4 [.bool false] /\
    Blk (W6 w pt id) (w.heap.size+4) 142 [ptr pt]/\Blk (W6 w pt id) (w.heap.size+5) 36 [.int .u64 id]:=by
 have a0:=Blk.new w [ptr pt] 142;have a1:=Blk.new (w.alloc (.cells #[ptr pt] 142)) [.int .u64 id] 36;have a2:=Blk.new ((w.alloc (.cells #[ptr pt] 142)).alloc (.cells #[.int .u64 id] 36)) [.int .i64 0] 3;have a3:=Blk.new (((w.alloc (.cells #[ptr pt] 142)).alloc (.cells #[.int .u64 id] 36)).alloc (.cells #[.int .i64 0] 3)) [.bool false] 4;have a4:=Blk.new ((((w.alloc (.cells #[ptr pt] 142)).alloc (.cells #[.int .u64 id] 36)).alloc (.cells #[.int .i64 0] 3)).alloc (.cells #[.bool false] 4)) [ptr pt] 142;have a5:=Blk.new (((((w.alloc (.cells #[ptr pt] 142)).alloc (.cells #[.int .u64 id] 36)).alloc (.cells #[.int .i64 0] 3)).alloc (.cells #[.bool false] 4)).alloc (.cells #[ptr pt] 142)) [.int .u64 id] 36;simp only[World.size_alloc]at a1 a2 a3 a4 a5;exact⟨((((a0.alloc _).alloc _).alloc _).alloc _).alloc _,(((a1.alloc _).alloc _).alloc _).alloc _,((a2.alloc _).alloc _).alloc _,(a3.alloc _).alloc _,a4.alloc _,a5⟩
theorem aPP(pt gc n cap m id:Nat)(C ids:Nat->Nat)(v:Value)(w:World)(hC:∀c,c<n->C c<=m)(hM:uF n)(hmm:m<=65536)(hid:id<18446744073709551616)
    (hR:nV w.heap.size w pt gc n cap C v) (hz:∃c,c<n/\C c=0)
    (hv:∀i,i<m->∃gi cap,v=.slice (some ⟨gi,0,none⟩) m cap/\gi<w.heap.size/\w.cell? ⟨gi,i,none⟩=some (.int .u64 (ids i))):
    Calls Tryz.prog 171 #[ptr pt,.int .u64 id] w fun e w' =>∃(c:Nat) (b:Bool),e=.returned (.tuple #[.int .i64 c,.bool b])/\yP n C ids id c b/\Below w.heap.size w w' :=by
 have hn:=hM.pos;have hn2:=hM.le;refine(callsIn_wide (n:=9)).1 ?_;refine callsIn_of_wp_marks Tryz.func171 rfl trivial ?_ rfl;simp only[Tryz.ntmps171,List.size_toArray,qY,List.length_nil,Nat.reduceAdd,Nat.reduceSub,Array.replicate_succ,Array.replicate_zero,List.push_toArray,List.append_toArray,List.nil_append,zB];have HR:=qA hR;clear hR;have HV:=qA hv;clear hv;have HZ:=qA hz;clear hz;have HC:=qA hC;gi_wp2_with (refine⟨trivial,?_⟩;gi_at_call 206;refine(callsIn_wide.2 (callsIn_wide.1 (aHQ pt id _))).mono ?_;rintro e w' ⟨rfl,rfl⟩)
 change Code.wpIn _ _ _ _ _ _ (W6 w pt id);have hsz:=aLY w pt id;have hB0:=aHR w pt id;obtain⟨b0,b1,b2,b3,b4,b5⟩:=aPO w pt id;have hR6:nV (W6 w pt id).heap.size (W6 w pt id) pt gc n cap C v:=(HR.out.below hB0).mono hB0.size;generalize W6 w pt id=W0 at *;have hs0:∀k,k<6->w.heap.size+k<W0.heap.size:=by omega
 refine wpIn_rangeFunc_ownF rfl (by decide) (α := Prb n m) (gf := 229) (lb := #[.pointer (some ⟨w.heap.size + 4, 0, none⟩), .pointer (some ⟨w.heap.size + 5, 0, none⟩)]) rfl trivial (enters_of Tryz.func229 (by kernel_rfl) rfl)
   (encs:=fun x=>#[.int .i64 x.1.1,.int .i64 x.1.2]) (Kp:=Below W0.heap.size) (S:=fun ys=>ys=mK n m C hC (by omega) (hm n id) n) (Sp:=fun pre=>pre <+: mK n m C hC (by omega) (hm n id) n) (N:=n) (w0:=W0)
   (fun l J Jx W hW _ _ hY h0=>aFF 8 l (w.heap.size+4) (w.heap.size+5) W0.heap.size pt gc n cap m id C v hC hM hmm hid (by decide) (hs0 4 (by decide)) (hs0 5 (by decide)) J Jx hY W (hR6.below hW) ((hW.cell (p:=⟨w.heap.size+4,0,none⟩) (hs0 4 (by decide))).trans (b4.cell 0)) ((hW.cell (p:=⟨w.heap.size+5,0,none⟩) (hs0 5 (by decide))).trans (b5.cell 0)) h0)
   belowK_t (belowK_b (qJ _)) (Below.refl _ _) (fun _=>rfl)
   (fun pre W=>((∀y∈pre,y.1.2≠0/\ids (y.1.2-1)≠id)/\W.cell? ⟨w.heap.size,0,none⟩=some (ptr pt)/\W.cell? ⟨w.heap.size+1,0,none⟩=some (.int .u64 id)/\(W.cell? ⟨w.heap.size+2,0,none⟩=some (.int .i64 0)/\W.frozen? ⟨w.heap.size+2,0,none⟩=false)/\W.cell? ⟨w.heap.size+3,0,none⟩=some (.bool false)/\W.frozen? ⟨w.heap.size+3,0,none⟩=false)/\Below w.heap.size w W)
   (fun c pre W=>(c=.ret/\∃pre' x b,pre=pre' ++ [x]/\(∀y∈pre', y.1.2≠0/\ids (y.1.2-1)≠id)/\((b=false/\x.1.2=0)∨(b=true/\x.1.2≠0/\ids (x.1.2-1)=id))/\W.cell? ⟨w.heap.size+2,0,none⟩=some (.int .i64 x.1.1)/\W.cell? ⟨w.heap.size+3,0,none⟩=some (.bool b))/\Below w.heap.size w W)
   (OwnFrom.and (Own.from (fun s A B row hs hg hr=>⟨hs.1,cell_kept hs.2.1 hg hr,cell_kept hs.2.2.1 hg hr,⟨cell_kept hs.2.2.2.1.1 hg hr,(frozen_kept hs.2.2.2.1.1 hg hr).trans hs.2.2.2.1.2⟩,cell_kept hs.2.2.2.2.1 hg hr,(frozen_kept hs.2.2.2.2.1 hg hr).trans hs.2.2.2.2.2⟩) _) (ownFrom_below (qJ _) (by omega)))
   (fun c=>OwnFrom.and (Own.from (fun s A B row hs hg hr=>by
     obtain⟨h1,pre', x,b,h2,h3,h4,h5,h6⟩:=hs;exact⟨h1,pre', x,b,h2,h3,h4,cell_kept h5 hg hr,cell_kept h6 hg hr⟩) _) (ownFrom_below (qJ _) (by omega)))
   ⟨⟨by simp,b0.cell 0,b1.cell 0,⟨b2.cell 0,b2.frozen 0⟩,b3.cell 0,b3.frozen 0⟩,hB0⟩
   (fun x=>{ tmps:=#[ptr pt,.int .u64 id,ptr w.heap.size,ptr (w.heap.size+1),ptr (w.heap.size+2),ptr (w.heap.size+3),.int .i64 x.1.1,.int .i64 x.1.2,ptr pt,.int .u64 id,.func (.func 229) #[] #[ptr (w.heap.size+4),ptr (w.heap.size+5)],.int .i64 x.1.1,.int .i64 x.1.2,undef,undef,undef,undef,undef,undef,undef,undef,undef,undef,undef,undef,undef,undef],defers:=[] }) ?assign ?body ?done ?stop
 case assign=>
  intro l x W K hK;gi_wp2
  exact hK
 case body=>
  rintro l pre x W ⟨⟨hp,hct,hci,⟨hcr,hfr⟩,hcb,hfb⟩,hB⟩ _;have HP:=qA hp;clear hp;obtain⟨⟨c0,i0⟩,hx1,hx2⟩:=x;dsimp only at hx1 hx2 ⊢
  by_cases hi0:i0=0
  {
  subst hi0;gi_wp2
  refine⟨(KeepsOthers.setCell _ _ _).trans (KeepsOthers.setCell _ _ _),⟨rfl,pre,⟨(c0,0),hx1,hx2⟩,false,rfl,HP.out,.inl ⟨rfl,rfl⟩,?_,?_⟩,(hB.setCell (p:=⟨w.heap.size+2,0,none⟩) (by simp) _).setCell (p:=⟨w.heap.size+3,0,none⟩) (by simp) _⟩
  · rw[World.cell?_setCell_other _ _ _ _ (by simp)];exact World.cell?_setCell_same' _ _ _ (by rw[hcr];rfl)
  · exact World.cell?_setCell_same' _ _ _ (by rw[World.cell?_setCell_other _ _ _ _ (by simp),hcb];rfl)}
  {
  obtain⟨i1,rfl⟩:∃i1,i0=i1+1:=⟨i0-1,by omega⟩;clear hi0;have hb0:(((i1:Int)+1) == 0)=false:=qQ.2 (by omega);obtain⟨gi,cap,rfl,hgi,hci'⟩:=HV.out i1 (by omega);have r2:=(hB.cell (p:=⟨pt,2,none⟩) HR.out.hpt).trans HR.out.h2;have ri:=(hB.cell (p:=⟨gi,i1,none⟩) hgi).trans hci';have hw1:IntKind.i64.wrap (i1:Int)=i1:=zF _ (by omega);have hi1:i1<m:=by omega
  have hi2:(i1:Int)<m:=by omega
  clear hci';gi_wp2
  refine wO (by kernel_rfl) (by kernel_rfl) (by kernel_rfl) ?_;repeat (quiet_step_in (fail))
  refine wpQuietIn_nil ?_;rintro _ ⟨nq,rfl⟩;gi_wp2
  {
  have hx : ids i1 = id := by have h : ((ids i1 : Int) == (id : Int)) = true := by assumption
                              have:=eq_of_beq h;omega
  refine⟨((pS _ _).trans (KeepsOthers.setCell _ _ _)).trans (KeepsOthers.setCell _ _ _),⟨rfl,pre,⟨(c0,i1+1),hx1,hx2⟩,true,rfl,HP.out,.inr ⟨rfl,by simp,hx⟩,?_,?_⟩,((below_drewN hB _).setCell (p:=⟨w.heap.size+2,0,none⟩) (by simp) _).setCell (p:=⟨w.heap.size+3,0,none⟩) (by simp) _⟩
  · rw[World.cell?_setCell_other _ _ _ _ (by simp)];exact World.cell?_setCell_same' _ _ _ (by rw[(Eqv.drewN W nq).cell,hcr];rfl)
  · exact World.cell?_setCell_same' _ _ _ (by rw[World.cell?_setCell_other _ _ _ _ (by simp),(Eqv.drewN W nq).cell,hcb];rfl)}
  {
  have hx : ids i1 ≠ id := by have h : ((ids i1 : Int) == (id : Int)) = false := by assumption
                              have:=qQ.1 h;omega
  refine⟨pS _ _,below_drewN (Below.refl _ _) _,⟨fun y hy=>(qE.1 hy).elim (HP.out y) (fun e=>by cases qH.1 e;exact⟨Nat.succ_ne_zero _,hx⟩),hct,hci,⟨hcr,hfr⟩,hcb,hfb⟩,below_drewN hB _⟩}}
 case done=>
  rintro D ys W hD rfl ⟨⟨hne,_⟩,hB⟩ hK;exfalso
  obtain⟨c,hc,hc0⟩:=HZ.out;have hh:=sE (show 0<n by omega) id;have hq:(hm n id+(c+n-hm n id)%n)%n=c:=by rw[Nat.add_mod_mod,show hm n id+(c+n-hm n id)=c+n by omega,Nat.add_mod_right,Nat.mod_eq_of_lt hc]
  refine(hne (prb n m C hC (by omega) (hm n id) ((c+n-hm n id)%n)) (qV.2 ⟨_,List.mem_range.2 (Nat.mod_lt _ (by omega)),rfl⟩)).1 ?_;simp only[prb];rw[hq];exact hc0
 case stop=>
  rintro D c pre W hD hpre ⟨⟨rfl,pre', x,b,rfl,hskip,hend,hr1,hr2⟩,hB⟩ hK;gi_wp2
  refine⟨by simp,.inl ⟨_,_,rfl,run_takeDeferred hK,?_⟩⟩;have d1:=cell_kept hr1 (grownBy_putObj' _ D (.deferred none)) (fun r e=>by cases e;exact⟨_,hK,rfl⟩);have d2:=cell_kept hr2 (grownBy_putObj' _ D (.deferred none)) (fun r e=>by cases e;exact⟨_,hK,rfl⟩);refine⟨.tuple #[.int .i64 x.1.1,.bool b],by simp[results,Tryz.f171,go_sem,d1,d2],x.1.1,b,rfl,?_,hB.trans (belowK_b (w:=w) (qJ _) W D _ _ (by omega) hK rfl rfl)⟩;obtain⟨rest,hrest⟩:=hpre;have hlen:pre'.length<n:=by {
  have:=congrArg List.length hrest;simp[mK]at this;omega};have hget:∀j (h:j<(pre' ++ [x]).length),(pre' ++ [x])[j]'h=prb n m C hC (by omega) (hm n id) j:=by {
  intro j h;have h2:(mK n m C hC (by omega) (hm n id) n)[j]? =some ((pre' ++ [x])[j]'h):=by rw[<-hrest,List.getElem?_append_left h,qK h]
  simp only[zE,qY,List.length_nil]at h;simp only[mK,List.getElem?_map,List.getElem?_range (show j<n by omega),Option.map_some,qI]at h2;exact h2.symm};have hx:x=prb n m C hC (by omega) (hm n id) pre'.length:=by {
  have:=hget pre'.length (by simp);simpa using this};refine⟨pre'.length,hlen,by rw[hx];rfl,fun j hj=>?_,?_⟩
  {
  have h1:=hget j (by simp;omega);rw[List.getElem_append_left hj]at h1;have h2:=hskip _ (List.getElem_mem hj);rw[h1]at h2;exact h2}
  {
  have e1:C x.1.1=x.1.2:=by rw[hx];rfl
  rw[e1];exact hend}
end Go.Proofs.YtjdgpcjbgjnahaaGreatDoor
namespace Go.Proofs.YtjdgpcjbgjnahaaGreatDoor
def dst(n a b:Nat):Nat:=if a<=b then b-a else b+n-a
def nxt(n c:Nat):Nat:=if c+1=n then 0 else c+1
def fL(f:Nat->Nat)(i x:Nat):Nat->Nat:=fun j=>if j=i then x else f j
theorem bC(f:Nat->Nat)(i x:Nat):fL f i x i=x:=by simp[fL]
theorem aE{f:Nat->Nat}{i x j:Nat}(h:j≠i):fL f i x j=f j:=by simp[fL,h]
theorem aLZ{n c:Nat}(h:c<n):(c+1)%n=nxt n c:=by
 unfold nxt;by_cases e:c+1=n
 · rw[qD e,e,Nat.mod_self]
 · rw[qC e,Nat.mod_eq_of_lt (by omega)]
theorem yQ{n a b:Nat}(ha:a<n)(hb:b<n):((b:Int)-(a:Int))%(n:Int)=(dst n a b:Int):=by
 unfold dst;by_cases h:a<=b
 · rw[qD h,Int.emod_eq_of_lt (by omega) (by omega)];omega
 · rw[qC h,show(b:Int)-a=((b:Int)-a+n)+n*(-1) by omega,Int.add_mul_emod_self_left,Int.emod_eq_of_lt (by omega) (by omega)];omega
theorem aPQ{n h j:Nat}(hh:h<n)(hj:j<n):(h+j)%n<n/\dst n h ((h+j)%n)=j:=by
 refine⟨Nat.mod_lt _ (by omega),?_⟩;unfold dst;by_cases e:h+j<n
 · rw[Nat.mod_eq_of_lt e,qD (by omega)];omega
 {
 rw[Nat.mod_eq_sub_mod (by omega),Nat.mod_eq_of_lt (by omega)];split<;>omega}
theorem aBU{n h q:Nat}(hh:h<n)(hq:q<n):dst n h q<n/\(h+dst n h q)%n=q:=by
 unfold dst;split
 {
 refine⟨by omega,?_⟩;rw[show h+(q-h)=q by omega,Nat.mod_eq_of_lt hq]}
 {
 refine⟨by omega,?_⟩;rw[show h+(q+n-h)=q+n by omega,Nat.add_mod_right,Nat.mod_eq_of_lt hq]}
theorem nW(n h:Nat):dst n h h=0:=by simp[dst]
structure gI (n:Nat) (hf:Nat->Nat) (C ids:Nat->Nat) (U:Nat->Prop):Prop where
  live:∀c,c<n->C c≠0->U (C c-1)
  inj:∀c d,c<n->d<n->C c≠0->C c=C d->c=d
  at_:∀i,U i->∃p,p<n/\C p=i+1/\∀q,q<n->dst n (hf (ids i)) q<dst n (hf (ids i)) p->C q≠0
structure pE (n:Nat) (hf:Nat->Nat) (C ids:Nat->Nat) (U:Nat->Prop) (h c:Nat):Prop where
  hn:h<n
  cn:c<n
  live:∀p,p<n->p≠h->C p≠0->U (C p-1)
  inj:∀p q,p<n->q<n->p≠h->q≠h->C p≠0->C p=C q->p=q
  at_:∀i,U i->∃p,p<n/\p≠h/\C p=i+1/\∀q,q<n->dst n (hf (ids i)) q<dst n (hf (ids i)) p->C q≠0
  nz:C h≠0
  run:∀p,p<n->0<dst n h p->dst n h p<=dst n h c->C p≠0/\dst n (hf (ids (C p-1))) p<dst n h p
theorem pE.start{n:Nat}{hf C ids:Nat->Nat}{U:Nat->Prop}{h i0:Nat}(t:gI n hf C ids U)(hn:h<n)(hc:C h=i0+1):
    pE n hf C ids (fun i=>U i/\i≠i0) h h:=by
 refine⟨hn,hn,fun p hp hne h0=>⟨t.live p hp h0,fun e=>hne (t.inj p h hp hn h0 (by omega))⟩,fun p q hp hq _ _ h0 e=>t.inj p q hp hq h0 e,?_,by omega,?_⟩
 {
 rintro i ⟨hu,hne⟩;obtain⟨p,hp,hpc,hpath⟩:=t.at_ i hu;exact⟨p,hp,fun e=>hne (by subst e;omega),hpc,hpath⟩}
 {
 intro p _ h1 h2;rw[nW]at h2;omega}
section
variable {n:Nat} {hf C ids:Nat->Nat} {U:Nat->Prop} {h c:Nat}
theorem wP(hh:h<n)(_hc:c<n)(hne:nxt n c≠h):dst n h (nxt n c)=dst n h c+1:=by
 unfold nxt at *;by_cases e:c+1=n
 · rw[qD e]at *;unfold dst;rw[qC (by omega)];split<;>omega
 · rw[qC e]at *;unfold dst;(repeat' split)<;>omega
theorem sF(hc:c<n):nxt n c<n:=by unfold nxt;split<;>omega
theorem pE.stay(H:pE n hf C ids U h c)(hne:nxt n c≠h)(h0:C (nxt n c)≠0)(hd:dst n (hf (ids (C (nxt n c)-1))) (nxt n c)<dst n h (nxt n c)):
    pE n hf C ids U h (nxt n c):=by
 refine⟨H.hn,sF H.cn,H.live,H.inj,H.at_,H.nz,fun p hp h1 h2=>?_⟩;have e:=wP H.hn H.cn hne;by_cases hle:dst n h p<=dst n h c
 · exact H.run p hp h1 hle
 {
 have:p=nxt n c:=by {
 have hq:=sF H.cn;have hh:=H.hn;have e2:dst n h p=dst n h (nxt n c):=by omega
 unfold dst at e2;(repeat' split at e2)<;>omega};subst this;exact⟨h0,hd⟩}
theorem pE.move(H:pE n hf C ids U h c)(hf_lt:∀x,hf x<n)(hne:nxt n c≠h)(h0:C (nxt n c)≠0)(hd:dst n h (nxt n c)<=dst n (hf (ids (C (nxt n c)-1))) (nxt n c)):
    pE n hf (fL C h (C (nxt n c))) ids U (nxt n c) (nxt n c):=by
 have hq:=sF H.cn;have hh:=H.hn;refine⟨hq,hq,?_,?_,?_,by rw[aE hne];exact h0,?_⟩
 {
 intro p hp hpn hp0;by_cases e:p=h
 · subst e;rw[bC]at hp0 ⊢;exact H.live _ hq hne hp0
 · rw[aE e]at hp0 ⊢;exact H.live p hp e hp0}
 {
 intro p q hp hqn hpn hqn' hp0 e;by_cases ep:p=h
 {
 by_cases eq:q=h
 · omega
 {
 rw[ep,bC,aE eq]at e;exact absurd (H.inj (nxt n c) q hq hqn hne eq h0 e).symm hqn'}}
 {
 by_cases eq:q=h
 {
 rw[eq,bC,aE ep]at e;rw[aE ep]at hp0;exact absurd (H.inj p (nxt n c) hp hq ep hne hp0 e) hpn}
 {
 rw[aE ep]at hp0 e;rw[aE eq]at e;exact H.inj p q hp hqn ep eq hp0 e}}}
 {
 intro i hu;obtain⟨p,hp,hph,hpc,hpath⟩:=H.at_ i hu;have nz:∀q,C q≠0->fL C h (C (nxt n c)) q≠0:=by {
 intro q hq0;by_cases e:q=h
 · subst e;rw[bC];exact h0
 · rw[aE e];exact hq0};by_cases e:p=nxt n c
 {
 subst e;have hi:C (nxt n c)-1=i:=by omega
 rw[hi]at hd;refine⟨h,hh,fun e=>hne e.symm,by rw[bC];exact hpc,fun q hqn hlt=>nz q (hpath q hqn ?_)⟩;have hfl:=hf_lt (ids i);generalize hf (ids i)=a at *;unfold dst at *;(repeat' split at hd)<;>(repeat' split at hlt)<;>(repeat' split)<;>omega}
 · exact⟨p,hp,e,by rw[aE hph];exact hpc,fun q hqn hlt=>nz q (hpath q hqn hlt)⟩}
 {
 intro p hp h1 h2;rw[nW]at h2;omega}
theorem pE.fin(H:pE n hf C ids U h c)(hf_lt:∀x,hf x<n)(hne:nxt n c≠h)(h0:C (nxt n c)=0):
    gI n hf (fL C h 0) ids U:=by
 have hq:=sF H.cn;have hh:=H.hn;refine⟨?_,?_,?_⟩
 {
 intro p hp hp0;by_cases e:p=h
 · subst e;rw[bC]at hp0;omega
 · rw[aE e]at hp0 ⊢;exact H.live p hp e hp0}
 {
 intro p q hp hqn hp0 e;by_cases ep:p=h
 · subst ep;rw[bC]at hp0;omega
 {
 by_cases eq:q=h
 · subst eq;rw[bC]at e;omega
 · rw[aE ep]at hp0 e;rw[aE eq]at e;exact H.inj p q hp hqn ep eq hp0 e}}
 {
 intro i hu;obtain⟨p,hp,hph,hpc,hpath⟩:=H.at_ i hu;refine⟨p,hp,by rw[aE hph];exact hpc,fun q hqn hlt=>?_⟩;by_cases e:q=h
 {
 exfalso
 subst e;have hfl:=hf_lt (ids i);have hz:¬dst n (hf (ids i)) (nxt n c)<dst n (hf (ids i)) p:=fun hl=>hpath _ hq hl h0;have hpz:p≠nxt n c:=fun e=>by subst e;omega
 by_cases hrun:dst n q p<=dst n q c
 {
 have hr:=(H.run p hp (by unfold dst;split<;>omega) hrun).2;have hi:C p-1=i:=by omega
 rw[hi]at hr;generalize hf (ids i)=a at *;unfold dst at hlt hr;(repeat' split at hlt)<;>(repeat' split at hr)<;>omega}
 {
 have hcn:=H.cn;have e2:=wP hh hcn hne;generalize hf (ids i)=a at *;generalize nxt n c=z at *;unfold dst at *;(repeat' split at hlt)<;>(repeat' split at hz)<;>(repeat' split at hrun)<;>(repeat' split at e2)<;>omega}}
 · rw[aE e];exact hpath q hqn hlt}
end
theorem gI.put{n:Nat}{hf C ids:Nat->Nat}{U:Nat->Prop}{c i id:Nat}(t:gI n hf C ids U)(hc:c<n)(h0:C c=0)(hi:¬U i)
    (hpath:∀q,q<n->dst n (hf id) q<dst n (hf id) c->C q≠0):gI n hf (fL C c (i+1)) (fL ids i id) (fun j=>U j∨j=i):=by
 refine⟨?_,?_,?_⟩
 {
 intro p hp hp0;by_cases e:p=c
 · subst e;rw[bC];exact .inr (by omega)
 · rw[aE e]at hp0 ⊢;exact .inl (t.live p hp hp0)}
 {
 intro p q hp hq hp0 e;by_cases ep:p=c
 {
 by_cases eq:q=c
 · omega
 {
 rw[ep,bC,aE eq]at e;exact absurd (by have:=t.live q hq (by omega);rwa[<-e]at this) hi}}
 {
 by_cases eq:q=c
 {
 rw[eq,bC,aE ep]at e;rw[aE ep]at hp0;exact absurd (by have:=t.live p hp hp0;rwa[e]at this) hi}
 · rw[aE ep]at hp0 e;rw[aE eq]at e;exact t.inj p q hp hq hp0 e}}
 {
 have nz:∀q,C q≠0->fL C c (i+1) q≠0:=by {
 intro q hq0;by_cases e:q=c
 · subst e;rw[bC];omega
 · rw[aE e];exact hq0};intro j hj;by_cases e:j=i
 {
 subst e;rw[bC];exact⟨c,hc,bC _ _ _,fun q hq hl=>nz q (hpath q hq hl)⟩}
 {
 obtain⟨p,hp,hpc,hpp⟩:=t.at_ j (hj.resolve_right e);have epc:p≠c:=by rintro rfl;omega
 rw[aE e];exact⟨p,hp,by rw[aE epc];exact hpc,fun q hq hl=>nz q (hpp q hq hl)⟩}}
theorem gI.congr{n:Nat}{hf C ids ids' :Nat->Nat}{U U' :Nat->Prop}(t:gI n hf C ids U)(hu:∀i,U i↔U' i)(hi:∀i,U i->ids' i=ids i):gI n hf C ids' U' :=by
 refine⟨fun c hc h0=>(hu _).1 (t.live c hc h0),t.inj,fun i hui=>?_⟩;rw[hi i ((hu i).2 hui)];exact t.at_ i ((hu i).2 hui)
end Go.Proofs.YtjdgpcjbgjnahaaGreatDoor
namespace Go.Proofs.YtjdgpcjbgjnahaaGreatDoor
open Go.RowKit
def cC(n:Nat)(f:Nat->Value):List Value:=(List.range n).map f
theorem eL{n:Nat}{f:Nat->Value}{i:Nat}(h:i<n):(cC n f)[i]? =some (f i):=by simp[cC,h]
theorem cT(n:Nat)(f:Nat->Value):(cC n f).length=n:=by simp[cC]
def eF(C:Nat->Nat):Nat->Value:=fun c=>.int .i64 (C c)
def idF(ids:Nat->Nat):Nat->Value:=fun c=>.int .u64 (ids c)
theorem aFG(n:Nat)(C:Nat->Nat)(h x:Nat):(cC n (eF C)).set h (.int .i64 x)=cC n (eF (fL C h x)):=by
 apply List.ext_getElem?;intro i;simp only[List.getElem?_set,cT];by_cases hi:i<n
 {
 rw[eL hi,eL hi];by_cases e:h=i
 · subst e;rw[qD rfl,qD hi];simp[eF,bC]
 · rw[qC e];simp only[eF];rw[aE (fun h=>e h.symm)]}
 {
 have h1:∀f,(cC n f)[i]? =none:=fun f=>zA (by rw[cT];omega);rw[h1,h1];by_cases e:h=i
 · rw[qD e,qC (by omega)]
 · rw[qC e]}
theorem kO(n:Nat)(C:Nat->Nat)(h x:Nat):(cC n (idF C)).set h (.int .u64 x)=cC n (idF (fL C h x)):=by
 apply List.ext_getElem?;intro i;simp only[List.getElem?_set,cT];by_cases hi:i<n
 {
 rw[eL hi,eL hi];by_cases e:h=i
 · subst e;rw[qD rfl,qD hi];simp[idF,bC]
 · rw[qC e];simp only[idF];rw[aE (fun h=>e h.symm)]}
 {
 have h1:∀f,(cC n f)[i]? =none:=fun f=>zA (by rw[cT];omega);rw[h1,h1];by_cases e:h=i
 · rw[qD e,qC (by omega)]
 · rw[qC e]}
def gJ(n:Nat)(C:Nat->Nat)(rst:List Value):List Value:=cC n (eF C)++rst
theorem fE{n:Nat}{C:Nat->Nat}{rst:List Value}{i:Nat}(h:i<n):(gJ n C rst)[i]? =some (eF C i):=by
 unfold gJ;rw[List.getElem?_append_left (by rw[cT];exact h),eL h]
theorem lW{n:Nat}{C:Nat->Nat}{rst:List Value}{h:Nat}(x:Nat)(hh:h<n):(gJ n C rst).set h (.int .i64 x)=gJ n (fL C h x) rst:=by
 unfold gJ;rw[List.set_append_left _ _ (by rw[cT];exact hh),aFG]
theorem aMA{rst:List Value}(pt gc n cpc m h0:Nat)(C ids:Nat->Nat)(U:Nat->Prop)(v:Value)(w:World)(hM:uF n)(hpt:pt≠gc)
    (h3:w.cell? ⟨pt,3,none⟩=some (.slice (some ⟨gc,0,none⟩) n cpc)) (h2:w.cell? ⟨pt,2,none⟩=some v) (hgc:Blk w gc 3 (gJ n C rst))
    (hv:∀i,i<m->∃gi cap,v=.slice (some ⟨gi,0,none⟩) m cap/\gi≠gc/\gi≠pt/\w.cell? ⟨gi,i,none⟩=some (.int .u64 (ids i))/\ids i<18446744073709551616)
    (hU:∀i,U i->i<m) (hmm:m<=65536) (hH:pE n (hm n) C ids U h0 h0) (hz:∃z,z<n/\C z=0):
    Calls Tryz.prog 199 #[ptr pt,.int .i64 h0] w fun e w' =>e=.returned (.tuple #[])/\∃C', Blk w' gc 3 (gJ n C' rst)/\gI n (hm n) C' ids U/\Fr [gc] w w' :=by
 have hn:=hM.pos;have hn2:=hM.le;have hi:=hM.i64;have HV:=qA hv;clear hv;have HZ:=qA hz;clear hz;have HU:=qA hU;clear hU;go_enter Tryz.func199,Tryz.ntmps199
 go_step3
 go_wp2
 refine wp_label ?_;go_wp2
 obtain⟨z,hz1,hz2⟩:=HZ.out;have HZ1:=qA hz1;clear hz1;have HZ2:=qA hz2;clear hz2;clear HZ
 go_loopw [1, 5] (fun a b wr => ∃ (h c : Nat) (D : Nat -> Nat), h < n /\ c < n /\ a = .int .i64 h /\ b = .int .i64 c /\ Blk wr gc 3 (gJ n D rst) /\ Fr [gc] w wr /\ Hid (pE n (hm n) D ids U h c /\ D z = 0 /\ dst n h c < dst n h z))
   (fun _ b _=>dst n (intOf b).toNat z)
 case atStart=>exact⟨h0,h0,C,hH.hn,hH.hn,rfl,rfl,hgc,Fr.refl _ _,qA ⟨hH,HZ2.out,by
   rw[nW];have:h0≠z:=fun e=>hH.nz (by rw[e];exact HZ2.out);have hh:=hH.hn;have hz:=HZ1.out;unfold dst;split<;>omega⟩⟩
 case round=>
  obtain⟨h,c,D,hh,hc,rfl,rfl,hB,hF,HH⟩:=hrel;have r3:=hF.cell h3 (by simpa using hpt);have r2:=hF.cell h2 (by simpa using hpt);have hfr:wr.frozen? ⟨gc,h,none⟩=false:=hB.frozen h;have rH:wr.cell? ⟨gc,h,none⟩=some (.int .i64 (D h)):=(hB.cell h).trans (fE hh);have hnx:((c:Int)+1)%(n:Int)=((nxt n c:Nat):Int):=by rw[<-aLZ hc];simp
  have hc' :=sF (n:=n) hc;have HN:Hid (nxt n c≠h):=by {
  intro e;obtain⟨H1,H2,H3⟩:=HH.out;have hz:=HZ1.out;subst e;unfold nxt at H3;unfold dst at H3
  (repeat' split at H3)<;>omega};have HE:Hid (dst n h (nxt n c)=dst n h c+1):=wP hh hc HN.out;have HD:Hid (nxt n c≠z->dst n h (nxt n c)<dst n h z/\dst n (nxt n c) z<dst n c z):=by {
  intro hne;obtain⟨H1,H2,H3⟩:=HH.out;have hz:=HZ1.out;have e1:=HN.out;have e2:=HE.out;unfold nxt at *;by_cases e:c+1=n
  · rw[qD e]at *;unfold dst at *;(repeat' split at H3)<;>(repeat' split at e2)<;>(repeat' split)<;>omega
  · rw[qC e]at *;unfold dst at *;(repeat' split at H3)<;>(repeat' split at e2)<;>(repeat' split)<;>omega};have rC:wr.cell? ⟨gc,nxt n c,none⟩=some (.int .i64 (D (nxt n c))):=(hB.cell _).trans (fE hc');generalize hcc:nxt n c=c' at *;have HC:=qA hcc;clear hcc;by_cases hD0:D c' =0
  {
  have hb0:((D c' :Int) == 0)=true:=beq_iff_eq.2 (by omega);have hD0' :Hid (D c' =0):=hD0;clear hD0;go_wp2
  simp only[Exit.noGoto];go_end0
  obtain⟨H1,H2,H3⟩:=HH.out;refine⟨rfl,fL D h 0,?_,?_,hF.setCell _ _ (.inl (by simp))⟩
  {
  have:=hB.set h (.int .i64 (0:Nat));rw[lW _ hh]at this;exact this}
  {
  have e:=HC.out;subst e;exact H1.fin (sE (by omega)) HN.out hD0'}}
  {
  obtain⟨i,hi'⟩:∃i,D c' =i+1:=⟨D c' - 1,by omega⟩;rw[hi']at rC;have HI:=qA hi'; clear hi';clear hD0;have hUi:U i:=by {
  have:=HH.out.1.live c' hc' HN.out (by rw[HI.out];omega);rw[HI.out]at this;exact this};have him:=HU.out i hUi;obtain⟨gi,cap,rfl,hg1,hg2,hgi,hid⟩:=HV.out i him;have ri:=hF.cell hgi (by simpa using hg1);have hd1:=yQ (sE (show 0<n by omega) (ids i)) hc';have hd2:=yQ hh hc';have hml:=sE (show 0<n by omega) (ids i);generalize hx1:dst n (hm n (ids i)) c' =d1 at *;generalize hx2:dst n h c' =d2 at *;have HX1:=qA hx1;clear hx1;have HX2:=qA hx2;clear hx2;have hb0:(((i:Int)+1) == 0)=false:=qQ.2 (by omega);by_cases hlt:d1<d2
  {
  go_wp2_with (go_at_call 222;refine(aBS pt gc n cpc (ids i) _ r3 hid hM).mono ?_;rintro e w' ⟨rfl,rfl⟩)
  go_roundw
  case rel=>
   obtain⟨H1,H2,H3⟩:=HH.out;refine⟨h,c', D,hh,hc', rfl,rfl,hB,hF,qA ?_⟩;have e:=HC.out;have hne:nxt n c≠z:=fun e2=>by rw[<-e,e2]at HI;have:=HI.out;omega
   have hD:=HD.out (by rw[<-e];exact hne);refine⟨?_,H2,by rw[HX2.out];exact hD.1⟩;have hst:=H1.stay (by rw[e];exact HN.out) (by rw[e,HI.out];omega) (by rw[e,HI.out,HX2.out];show dst n (hm n (ids i)) c' < d2;rw[HX1.out];exact hlt);rw[e]at hst;exact hst
  case measure=>
   have e:=HC.out;have hne:nxt n c≠z:=fun e2=>by
     obtain⟨H1,H2,H3⟩:=HH.out;rw[<-e,e2]at HI;have:=HI.out;omega
   have hD:=HD.out (by rw[<-e];exact hne);simp[intOf];exact hD.2}
  {
  go_wp2_with (go_at_call 222;refine(aBS pt gc n cpc (ids i) _ r3 hid hM).mono ?_;rintro e w' ⟨rfl,rfl⟩)
  go_roundw
  case rel=>
   obtain⟨H1,H2,H3⟩:=HH.out;have e:=HC.out;have hne:nxt n c≠z:=fun e2=>by rw[<-e,e2]at HI;have:=HI.out;omega
   have hD:=HD.out (by rw[<-e];exact hne);have hhz:h≠z:=fun e=>by rw[e]at H3;unfold dst at H3;(repeat' split at H3)<;>omega
   refine⟨c', c', fL D h (i+1),hc', hc', rfl,rfl,?_,hF.setCell _ _ (.inl (by simp)),qA ⟨?_,by rw[aE (fun e=>hhz e.symm)];exact H2,?_⟩⟩
   {
   have:=hB.set h (.int .i64 ((i+1:Nat):Int));rw[lW _ hh]at this;exact this}
   {
   have hst:=H1.move (sE (by omega)) (by rw[e];exact HN.out) (by rw[e,HI.out];omega) (by rw[e,HI.out,HX2.out];show d2<=dst n (hm n (ids i)) c'; rw[HX1.out];omega);rw[e,HI.out]at hst;exact hst}
   {
   rw[nW];have:=HZ1.out;have hne2:c' ≠ z:=by rw[<-e];exact hne
   unfold dst;split<;>omega}
  case measure=>
   have e:=HC.out;have hne:nxt n c≠z:=fun e2=>by
     obtain⟨H1,H2,H3⟩:=HH.out;rw[<-e,e2]at HI;have:=HI.out;omega
   have hD:=HD.out (by rw[<-e];exact hne);simp[intOf];exact hD.2}}
@[go_sem] theorem aSP(a:Addr)(w:World):(binOp .eql 142 (.pointer (some a)) (.pointer (some a))).run Tryz.prog w=.ok (.bool true) w:=by
 obtain⟨j,hj⟩:=qU.1 (show(Tryz.prog.info? 211).isSome=true by kernel_rfl);exact run_eql_ptr_same w a Tryz.underlying142 hj
@[go_sem] theorem aMB(a:Addr)(w:World):(binOp .eql 142 (.pointer none) (.pointer (some a))).run Tryz.prog w=.ok (.bool false) w:=by
 have h:∀d:Nat,(Op.equalIn (d+1) 142 (.pointer none) (.pointer (some a))).run Tryz.prog w=.ok false w:=fun d=>by
   simp[Op.equalIn,run_underlying Tryz.underlying142]
 simp only[binOp];simp[Op.equal,Op.maxDepth,h 9999]
theorem dA(pt:Nat)(w:World)(hc:w.cell? ⟨pt,0,none⟩=some (ptr pt)):
    Calls Tryz.prog 143 #[ptr pt] w fun e w' =>e=.returned (.bool true)/\w=w' :=by
 go_enter Tryz.func143,Tryz.ntmps143
 go_wp2
 go_ret;exact⟨rfl,rfl⟩
structure Tb where
  A:Ar
  ids:Nat->Nat
def Tb.used(T:Tb)(i:Nat):Prop:=T.A.isUsed i
def cB(w:World)(pt:Nat)(T:Tb)(l:List Nat):Prop:=
  ∃(cpc:Nat) (rst:List Value) (pa gc n:Nat) (vi:Value) (C:Nat->Nat) (la:List Nat),
    Blk w pt 211 [ptr pt,ptr pa,vi,.slice (some ⟨gc,0,none⟩) n cpc]/\aU w pa T.A la /\
    w.ownsRow 0 36 1 vi T.A.begun (cC T.A.begun (idF T.ids))/\Blk w gc 3 (gJ n C rst) /\
    l=pt::gc::(vi.ownBlock.toList++la)/\l.Nodup/\uF n/\2*T.A.slots<=n/\gI n (hm n) C T.ids T.used /\
    (∀i j,T.used i->T.used j->T.ids i=T.ids j->i=j)/\(∀i,i<T.A.begun->T.ids i<18446744073709551616)
theorem cB.same{w w' :World}{pt:Nat}{T:Tb}{l:List Nat}(h:cB w pt T l)(hs:∀b∈l,w'.heap[b]? =w.heap[b]?):cB w' pt T l:=by
 obtain⟨cpc,rst,pa,gc,n,vi,C,la,h1,h2,h3,h4,rfl,r⟩:=h;exact⟨cpc,rst,pa,gc,n,vi,C,la,h1.of_same (hs _ (by simp)),h2.same (fun b hb=>hs b (by simp[hb])),aQ h3 (fun k hk=>hs k (by simp[hk])),h4.of_same (hs _ (by simp)),rfl,r⟩
theorem cB.lt{w:World}{pt:Nat}{T:Tb}{l:List Nat}(h:cB w pt T l):∀b∈l,b<w.heap.size:=by
 obtain⟨cpc,rst,pa,gc,n,vi,C,la,h1,h2,h3,h4,rfl,r⟩:=h;intro b hb;simp only[qB,qE,Option.mem_toList]at hb;rcases hb with rfl|rfl|hb|hb
 · exact h1.lt
 · exact h4.lt
 · exact(h3.lt b hb).2
 · exact h2.lt b hb
theorem cB.fr{w w' :World}{pt:Nat}{T:Tb}{l S:List Nat}(h:cB w pt T l)(hf:Fr S w w')(hd:∀b∈l,b∉S):cB w' pt T l:=
  h.same fun b hb=>hf.keep b (h.lt b hb) (hd b hb)
theorem sG{n:Nat}{C ids:Nat->Nat}{A:Ar}(t:gI n (hm n) C ids A.isUsed)(hok:A.ok)(hn:1<n)(hs:2*A.slots<=n):∃z,z<n/\C z=0:=by
 apply qP;intro hno;have hall:∀z,z<n->C z≠0:=fun z hz h0=>hno ⟨z,hz,h0⟩;have hnd:((List.range n).map (fun z=>C z-1)++A.free).Nodup:=by {
 rw[qM];refine⟨?_,hok.nd,?_⟩
 {
 rw[List.nodup_iff_pairwise_ne,List.pairwise_map];refine List.Pairwise.imp_of_mem ?_ (List.nodup_iff_pairwise_ne.1 List.nodup_range);intro a b ha hb hne e;simp at ha hb;have h1:=hall a ha;have h2:=hall b hb;exact hne (t.inj a b ha hb h1 (by omega))}
 {
 intro a ha b hb e;subst e;simp only[qV,List.mem_range]at ha;obtain⟨z,hz,rfl⟩:=ha;exact(t.live z hz (hall z hz)).2 hb}};have hlen:=jP hnd (n:=A.begun) (by
   intro k hk;simp only[qE,qV,List.mem_range]at hk;rcases hk with⟨z,hz,rfl⟩|hk
   · exact(t.live z hz (hall z hz)).1
   · exact hok.lt k hk)
 simp at hlen;have:=hok.hb;omega
theorem eV{n:Nat}{C ids:Nat->Nat}{U:Nat->Prop}{id c:Nat}(t:gI n (hm n) C ids U)(hn:0<n)(h:yP n C ids id c true):∃i,c<n/\C c=i+1/\U i/\ids i=id:=by
 obtain⟨k,hk,rfl,_,h⟩:=h;rcases h with⟨h,_⟩|⟨_,h0,h⟩
 · cases h
 {
 have hc:=Nat.mod_lt (hm n id+k) hn;exact⟨C ((hm n id+k)%n)-1,hc,by omega,t.live _ hc h0,h⟩}
theorem iG{n:Nat}{C ids:Nat->Nat}{U:Nat->Prop}{id c:Nat}(t:gI n (hm n) C ids U)(hn:0<n)(h:yP n C ids id c false):
    c<n/\C c=0/\(∀i,U i->ids i≠id)/\(∀q,q<n->dst n (hm n id) q<dst n (hm n id) c->C q≠0):=by
 obtain⟨k,hk,rfl,hs,h⟩:=h;rcases h with⟨_,h0⟩|⟨h,_⟩
 {
 have hh:=sE hn id;obtain⟨hc,hd⟩:=aPQ hh hk;have hpath:∀q,q<n->dst n (hm n id) q<dst n (hm n id) ((hm n id+k)%n)->C q≠0/\ids (C q-1)≠id:=by {
 intro q hq hl;rw[hd]at hl;have:=hs _ hl;rw[(aBU hh hq).2]at this;exact this};refine⟨hc,h0,?_,fun q hq hl=>(hpath q hq hl).1⟩;intro i hu e;subst e;obtain⟨p,hp,hpc,hpp⟩:=t.at_ i hu;rcases Nat.lt_trichotomy (dst n (hm n (ids i)) p) (dst n (hm n (ids i)) ((hm n (ids i)+k)%n)) with hl|he|hg
 {
 have:=(hpath p hp hl).2;rw[hpc]at this;exact this rfl}
 {
 have:p=(hm n (ids i)+k)%n:=by {
 have h1:=(aBU hh hp).2;have h2:=(aBU hh hc).2;rw[he,h2]at h1;exact h1.symm};rw[this]at hpc;omega}
 · exact hpp _ hc hg h0}
 · cases h
theorem eW{w:World}{pt pa gc n cpc:Nat}{rst:List Value}{vi:Value}{C:Nat->Nat}{T:Tb}{la:List Nat}(id:Nat)(hid:id<18446744073709551616)
    (h1:Blk w pt 211 [ptr pt,ptr pa,vi,.slice (some ⟨gc,0,none⟩) n cpc]) (h2:aU w pa T.A la)
    (h3:w.ownsRow 0 36 1 vi T.A.begun (cC T.A.begun (idF T.ids))) (h4:Blk w gc 3 (gJ n C rst)) (hM:uF n) (hs:2*T.A.slots<=n) (hT:gI n (hm n) C T.ids T.used):
    Calls Tryz.prog 171 #[ptr pt,.int .u64 id] w fun e w' =>∃(c:Nat) (b:Bool),e=.returned (.tuple #[.int .i64 c,.bool b])/\yP n C T.ids id c b/\Below w.heap.size w w' :=by
 have hok:=h2.ok;have hn:=hM.pos;have hb:=hok.hb;have hss:=hok.hs;refine aPP pt gc n cpc T.A.begun id C T.ids vi w (fun c hc=>?_) hM (by omega) hid ⟨h1.lt,h4.lt,h1.cell 3,h1.cell 2,fun c hc=>(h4.cell c).trans (fE hc)⟩ (sG hT hok hn hs) ?_
 {
 by_cases h0:C c=0
 · omega
 · have:=(hT.live c hc h0).1;omega}
 {
 intro i hi;obtain⟨g,cap,rfl,_,hg,hc,_⟩:=cL h3 hi;exact⟨g,cap,rfl,hg,hc.trans (eL hi)⟩}
theorem aFH{w:World}{pt:Nat}{T:Tb}{l:List Nat}(h:cB w pt T l):
    Calls Tryz.prog 97 #[ptr pt] w fun e w' =>e=.returned (.int .i64 T.A.used)/\w=w' :=by
 obtain⟨cpc,rst,pa,gc,n,vi,C,la,h1,h2,h3,h4,rfl,hnd,hM,hs,hT,hinj,hb64⟩:=h;have c0:=h1.cell 0;have c1:=h1.cell 1;simp only[zI,zJ]at c0 c1;go_enter Tryz.func97,Tryz.ntmps97
 go_wp2_with (first|(go_at_call 143;refine(dA pt _ c0).mono ?_;rintro e w' ⟨rfl,rfl⟩)|(go_at_call 98;refine(uZ h2).mono ?_;rintro e w' ⟨rfl,rfl⟩))
 go_ret;exact⟨rfl,rfl⟩
theorem uG{w:World}{pt:Nat}{T:Tb}{l:List Nat}{id i:Nat}(hid:id<18446744073709551616)(h:cB w pt T l)(hu:T.used i)(hi:T.ids i=id):
    Calls Tryz.prog 133 #[ptr pt,.int .u64 id] w fun e w' =>e=.returned (.tuple #[.int .i64 i,.bool true])/\Below w.heap.size w w' :=by
 obtain⟨cpc,rst,pa,gc,n,vi,C,la,h1,h2,h3,h4,rfl,hnd,hM,hs,hT,hinj,hb64⟩:=h;have c0:=h1.cell 0;have c3:=h1.cell 3;simp only[zI,zJ]at c0 c3;have hpt:=h1.lt;have hn:=hM.pos;have hn2:=hM.le;have hbl:i<65536:=by have:=h2.ok.hs;have:=h2.ok.hb;have:=hu.1;omega
 have hfind:=eW id hid h1 h2 h3 h4 hM hs hT;have HF:=qA hfind;clear hfind;have HI:=qA hi;clear hi;go_enter Tryz.func133,Tryz.ntmps133
 go_wp2_with (go_at_call 143;refine(dA pt _ c0).mono ?_;rintro e w' ⟨rfl,rfl⟩)
 refine HF.out.mono ?_;rintro e w1 ⟨c,b,rfl,hf,hB⟩;have d3:=(hB.cell (p:=⟨pt,3,none⟩) hpt).trans c3;cases b with
 | false=>exact absurd HI.out ((iG hT (by omega) hf).2.2.1 i hu)
 | true=>{
 obtain⟨j,hc,hcj,huj,hej⟩:=eV hT (by omega) hf;obtain rfl:j=i:=hinj j i huj hu (hej.trans HI.out.symm);have dc:w1.cell? ⟨gc,c,none⟩=some (.int .i64 ((j:Int)+1)):=by rw[hB.cell (p:=⟨gc,c,none⟩) h4.lt,h4.cell,fE hc];simp[eF,hcj]
 have H1:=qA hcj;clear hcj;have H2:=qA hej;clear hej;clear hf;go_wp2
 go_ret2;exact⟨rfl,hB⟩}
theorem wQ{w:World}{pt:Nat}{T:Tb}{l:List Nat}{id:Nat}(hid:id<18446744073709551616)(h:cB w pt T l)(hno:∀i,T.used i->T.ids i≠id):
    Calls Tryz.prog 133 #[ptr pt,.int .u64 id] w fun e w' =>e=.returned (.tuple #[.int .i64 0,.bool false])/\Below w.heap.size w w' :=by
 obtain⟨cpc,rst,pa,gc,n,vi,C,la,h1,h2,h3,h4,rfl,hnd,hM,hs,hT,hinj,hb64⟩:=h;have c0:=h1.cell 0;simp only[zI]at c0;have hn:=hM.pos;have hfind:=eW id hid h1 h2 h3 h4 hM hs hT;have HF:=qA hfind;clear hfind;have HN:=qA hno;clear hno;go_enter Tryz.func133,Tryz.ntmps133
 go_wp2_with (go_at_call 143;refine(dA pt _ c0).mono ?_;rintro e w' ⟨rfl,rfl⟩)
 refine HF.out.mono ?_;rintro e w1 ⟨c,b,rfl,hf,hB⟩;cases b with
 | true=>{
 obtain⟨j,hc,hcj,huj,hej⟩:=eV hT (by omega) hf;exact absurd hej (HN.out j huj)}
 | false=>{
 clear hf;go_wp2
 go_ret2;exact⟨rfl,hB⟩}
theorem rM{w:World}{pt:Nat}{T:Tb}{l:List Nat}{id i:Nat}(hid:id<18446744073709551616)(h:cB w pt T l)(hu:T.used i)(hi:T.ids i=id):
    Calls Tryz.prog 173 #[ptr pt,.int .u64 id] w fun e w' =>e=.returned (.tuple #[.int .i64 i,.bool false,.int .i64 0])/\Below w.heap.size w w' :=by
 obtain⟨cpc,rst,pa,gc,n,vi,C,la,h1,h2,h3,h4,rfl,hnd,hM,hs,hT,hinj,hb64⟩:=h;have c0:=h1.cell 0;have c3:=h1.cell 3;simp only[zI,zJ]at c0 c3;have hpt:=h1.lt;have hn:=hM.pos;have hn2:=hM.le;have hbl:i<65536:=by have:=h2.ok.hs;have:=h2.ok.hb;have:=hu.1;omega
 have hfind:=eW id hid h1 h2 h3 h4 hM hs hT;have HF:=qA hfind;clear hfind;have HI:=qA hi;clear hi;go_enter Tryz.func173,Tryz.ntmps173
 go_wp2_with (go_at_call 143;refine(dA pt _ c0).mono ?_;rintro e w' ⟨rfl,rfl⟩)
 refine HF.out.mono ?_;rintro e w1 ⟨c,b,rfl,hf,hB⟩;have d3:=(hB.cell (p:=⟨pt,3,none⟩) hpt).trans c3;cases b with
 | false=>exact absurd HI.out ((iG hT (by omega) hf).2.2.1 i hu)
 | true=>{
 obtain⟨j,hc,hcj,huj,hej⟩:=eV hT (by omega) hf;obtain rfl:j=i:=hinj j i huj hu (hej.trans HI.out.symm);have dc:w1.cell? ⟨gc,c,none⟩=some (.int .i64 ((j:Int)+1)):=by rw[hB.cell (p:=⟨gc,c,none⟩) h4.lt,h4.cell,fE hc];simp[eF,hcj]
 have H1:=qA hcj;clear hcj;have H2:=qA hej;clear hej;clear hf;go_wp2
 go_ret3;exact⟨rfl,hB⟩}
theorem sH{w:World}{pt:Nat}{T:Tb}{l:List Nat}{id:Nat}(hid:id<18446744073709551616)(h:cB w pt T l)(hno:∀i,T.used i->T.ids i≠id)(hfull:T.A.next=none):
    Calls Tryz.prog 173 #[ptr pt,.int .u64 id] w fun e w' =>e=.returned (.tuple #[.int .i64 0,.bool false,.int .i64 4])/\Below w.heap.size w w' :=by
 obtain⟨cpc,rst,pa,gc,n,vi,C,la,h1,h2,h3,h4,rfl,hnd,hM,hs,hT,hinj,hb64⟩:=h;have c0:=h1.cell 0;have c1:=h1.cell 1;simp only[zI,zJ]at c0 c1;have hpt:=h1.lt;have hn:=hM.pos;have hfind:=eW id hid h1 h2 h3 h4 hM hs hT;have HF:=qA hfind;clear hfind;have HN:=qA hno;clear hno;have HX:=qA hfull;clear hfull;go_enter Tryz.func173,Tryz.ntmps173
 go_wp2_with (go_at_call 143;refine(dA pt _ c0).mono ?_;rintro e w' ⟨rfl,rfl⟩)
 refine HF.out.mono ?_;rintro e w1 ⟨c,b,rfl,hf,hB⟩;have d1:=(hB.cell (p:=⟨pt,1,none⟩) hpt).trans c1;cases b with
 | true=>{
 obtain⟨j,hc,hcj,huj,hej⟩:=eV hT (by omega) hf;exact absurd hej (HN.out j huj)}
 | false=>{
 clear hf;have h2' :aU w1 pa T.A la:=h2.same (fun b hb=>hB.block b (h2.lt b hb));go_wp2_with (go_at_call 172;refine(pD h2' HX.out).mono ?_;rintro e w2 ⟨rfl,hE⟩)
 go_ret3;exact⟨rfl,hB.trans ⟨hE.os,hE.tape,hE.output,by rw[hE.heap];exact qJ _,fun k _=>by rw[hE.heap]⟩⟩}
theorem isUsed_alloc{A:Ar}{i:Nat}(hok:A.ok)(hn:A.next=some i):(¬A.isUsed i)/\∀j,A.alloc.isUsed j↔(A.isUsed j∨j=i):=by
 obtain⟨slots,begun,free⟩:=A;cases free with
 | cons k r=>{
 obtain rfl:k=i:=by simpa[Ar.next] using hn
 have hnd:=hok.nd;have hlt:=hok.lt k (by simp);simp only[qN]at hnd;dsimp only at hlt
 refine⟨by simp[Ar.isUsed],fun j=>?_⟩;simp only[Ar.isUsed,Ar.alloc,qB,not_or];constructor
 {
 rintro⟨a,b⟩;by_cases e:j=k
 · exact .inr e
 · exact .inl ⟨a,e,b⟩}
 {
 rintro(⟨a,_,b⟩|rfl)
 · exact⟨a,b⟩
 · exact⟨hlt,hnd.1⟩}}
 | nil=>{
 simp only[Ar.next]at hn;by_cases hb:begun<slots
 {
 rw[qD hb]at hn;obtain rfl:begun=i:=by simpa using hn
 refine⟨by simp[Ar.isUsed],fun j=>?_⟩;simp only[Ar.isUsed,Ar.alloc,List.not_mem_nil,not_false_eq_true,and_true];omega}
 · rw[qC hb]at hn;cases hn}
theorem nB{A:Ar}{i:Nat}(hok:A.ok)(hn:A.next=some i):(i<A.begun/\A.alloc.begun=A.begun)∨(i=A.begun/\A.alloc.begun=A.begun+1):=by
 obtain⟨slots,begun,free⟩:=A;cases free with
 | cons k r=>{
 obtain rfl:k=i:=by simpa[Ar.next] using hn
 exact .inl ⟨hok.lt k (by simp),rfl⟩}
 | nil=>{
 simp only[Ar.next]at hn;by_cases hb:begun<slots
 {
 rw[qD hb]at hn;obtain rfl:begun=i:=by simpa using hn
 exact .inr ⟨rfl,rfl⟩}
 · rw[qC hb]at hn;cases hn}
theorem pT(A:Ar):A.alloc.slots=A.slots:=by
 obtain⟨slots,begun,free⟩:=A;cases free<;>rfl
def Tb.put(T:Tb)(id i:Nat):Tb:={ A:=T.A.alloc,ids:=fL T.ids i id }
theorem aFI(m:Nat)(ids:Nat->Nat)(x:Nat):cC m (idF ids)++[.int .u64 x]=cC (m+1) (idF (fL ids m x)):=by
 simp only[cC,List.range_succ,List.map_append,List.map_cons,List.map_nil];congr 1
 {
 apply List.map_congr_left;intro a ha;simp at ha;simp only[idF];rw[aE (by omega)]}
 · simp[idF,bC]
theorem Tb.put_ok{n:Nat}{C:Nat->Nat}{T:Tb}{id i c:Nat}(hok:T.A.ok)(hid:id<18446744073709551616)(hM:uF n)(hT:gI n (hm n) C T.ids T.used)(hn:T.A.next=some i)
    (hinj:∀i j,T.used i->T.used j->T.ids i=T.ids j->i=j) (hb64:∀i,i<T.A.begun->T.ids i<18446744073709551616) (hf:yP n C T.ids id c false):
    c<n/\gI n (hm n) (fL C c (i+1)) (T.put id i).ids (T.put id i).used/\(∀a b,(T.put id i).used a->(T.put id i).used b->(T.put id i).ids a=(T.put id i).ids b->a=b) /\
      (∀a,a<(T.put id i).A.begun->(T.put id i).ids a<18446744073709551616):=by
 have hpos:=hM.pos;obtain⟨hc,h0,hno,hpath⟩:=iG hT (by omega) hf;obtain⟨hnu,hiff⟩:=isUsed_alloc hok hn;refine⟨hc,?_,?_,?_⟩
 · exact(hT.put hc h0 hnu hpath).congr (fun j=>(hiff j).symm) (fun _ _=>rfl)
 {
 intro a b ha hb e;simp only[Tb.put]at e;rcases(hiff a).1 ha with ha|ha<;>rcases(hiff b).1 hb with hb|hb
 {
 have na:a≠i:=fun e=>hnu (e▸ha);have nb:b≠i:=fun e=>hnu (e▸hb);rw[aE na,aE nb]at e;exact hinj a b ha hb e}
 {
 have na:a≠i:=fun e=>hnu (e▸ha);rw[aE na,hb,bC]at e;exact absurd e (hno a ha)}
 {
 have nb:b≠i:=fun e=>hnu (e▸hb);rw[aE nb,ha,bC]at e;exact absurd e.symm (hno b hb)}
 · omega}
 {
 intro a ha;simp only[Tb.put]at ha ⊢;by_cases e:a=i
 · rw[e,bC];exact hid
 {
 rw[aE e];refine hb64 a ?_;rcases nB hok hn with⟨_,h⟩|⟨_,h⟩<;>omega}}
theorem Tryz.info36:(Tryz.prog.info? 36).map (fun i=>(i.zero,i.size,i.bytes))=some (some (.int .u64 0),1,8):=by kernel_rfl
theorem aFJ{rst:List Value}{T:Tb}(vi:Value)(w2 w3:World)(pt gc n _c g' cap' :Nat)(hd:List Value)(C:Nat->Nat)(m1:Blk w2 pt 211 hd)(m4:Blk w2 gc 3 (gJ n C rst))
    (hown3:w3.ownsRow 0 36 1 (.slice (some ⟨g', 0,none⟩) (T.A.begun+1) cap') (T.A.begun+1) (cC T.A.begun (idF T.ids)++[.int .u64 0]))
    (hgrow3:(w2.alloc (.cells #[.int .u64 0] 36)).grownBy w3 vi.ownBlock) (hg3:vi.ownBlock=some g' ∨ (w2.alloc (.cells #[.int .u64 0] 36)).heap.size<=g')
    (hvq:∀q,vi.ownBlock=some q->q≠pt/\q≠gc/\q<w2.heap.size):
    Blk w3 pt 211 hd/\Blk w3 gc 3 (gJ n C rst)/\g' ≠ pt/\g' ≠ gc/\w3.cell? ⟨g', T.A.begun,none⟩=some (.int .u64 0)/\w3.frozen? ⟨g', T.A.begun,none⟩=false /\
      Fr vi.ownBlock.toList w2 w3/\(vi.ownBlock=some g' ∨ w2.heap.size<=g'):=by
 have hb0:∀k,k<w2.heap.size->vi.ownBlock≠some k->w3.heap[k]? =w2.heap[k]? :=by {
 intro k hk hne;rw[hgrow3.block k (by simp;omega) (fun e=>hne e.symm),Below.heap_alloc _ _ _ hk]};have hg:vi.ownBlock=some g' ∨ w2.heap.size<g' :=by {
 rcases hg3 with h|h
 · exact .inl h
 · simp at h;exact .inr (by omega)};obtain⟨g,cap,e,_,_,hc,hfz⟩:=cL hown3 (Nat.lt_succ_self _);simp only[qO,qI,Addr.mk.injEq,and_true,true_and]at e;obtain⟨rfl,_⟩:=e;refine⟨m1.of_same (hb0 pt m1.lt (fun e=>(hvq pt e).1 rfl)),m4.of_same (hb0 gc m4.lt (fun e=>(hvq gc e).2.1 rfl)),?_,?_,?_,hfz _,⟨hgrow3.os,hgrow3.tape,hgrow3.output,by have:=hgrow3.size;simp at this;omega,fun k hk hn=>hb0 k hk (fun e=>hn (by simp[e]))⟩,?_⟩
 {
 rcases hg with h|h
 · exact(hvq _ h).1
 · have:=m1.lt;omega}
 {
 rcases hg with h|h
 · exact(hvq _ h).2.1
 · have:=m4.lt;omega}
 · rw[hc,List.getElem?_append_right (by rw[cT];exact qJ _)];simp[cT]
 {
 rcases hg with h|h
 · exact .inl h
 · exact .inr (by omega)}
theorem uH{w:World}{pt:Nat}{T:Tb}{l:List Nat}{id i:Nat}(hid:id<18446744073709551616)(h:cB w pt T l)(hno:∀i,T.used i->T.ids i≠id)(hnext:T.A.next=some i):
    Calls Tryz.prog 173 #[ptr pt,.int .u64 id] w fun e w' =>e=.returned (.tuple #[.int .i64 i,.bool true,.int .i64 0]) /\
      ∃l', cB w' pt (T.put id i) l' /\ Fr l w w' /\ ∀b∈l', b∈l∨w.heap.size<=b:=by
 have hltw:=h.lt;obtain⟨cpc,rst,pa,gc,n,vi,C,la,h1,h2,h3,h4,rfl,hnd,hM,hs,hT,hinj,hb64⟩:=h;have hok:=h2.ok;have c0:=h1.cell 0;have c1:=h1.cell 1;have c2:=h1.cell 2;have c3:=h1.cell 3;simp only[zI,zJ]at c0 c1 c2 c3;have hpt:=h1.lt;have hgc:=h4.lt;have hn:=hM.pos;have hn2:=hM.le;have hil:i<65536/\T.A.begun<=65536:=by {
 have:=hok.hs;have:=hok.hb;rcases nB hok hnext with⟨ha,_⟩|⟨ha,hb⟩
 · omega
 {
 have:T.A.begun<T.A.slots:=by {
 obtain⟨A,ids⟩:=T;obtain⟨slots,begun,free⟩:=A;cases free with
 | cons k r=>{
 simp[Ar.next]at hnext;subst hnext;have:=hok.lt k (by simp);dsimp only at this ha;omega}
 | nil=>{
 simp only[Ar.next]at hnext;by_cases hb:begun<slots
 · exact hb
 · rw[qC hb]at hnext;cases hnext}};omega}};obtain⟨hil,hbl⟩:=hil;have hfind:=eW id hid h1 h2 h3 h4 hM hs hT;have HF:=qA hfind;clear hfind;have HN:=qA hno;clear hno;have HX:=qA hnext;clear hnext;have hnd2:pt≠gc/\(∀q,vi.ownBlock=some q->q≠pt/\q≠gc/\q∉la)/\pt∉la/\gc∉la/\la.Nodup:=by {
 simp only[qN,qM,qB,qE,Option.mem_toList,not_or]at hnd;refine⟨hnd.1.1,fun q hq=>⟨fun e=>hnd.1.2.1 (e▸hq),fun e=>hnd.2.1.1 (e▸hq),fun hm=>hnd.2.2.2.2 q (by simpa using hq) q hm rfl⟩,hnd.1.2.2,hnd.2.1.2,hnd.2.2.2.1⟩};obtain⟨hpg,hvq,hpla,hgla,hlnd⟩:=hnd2;go_enter Tryz.func173,Tryz.ntmps173
 go_wp2_with (go_at_call 143;refine(dA pt _ c0).mono ?_;rintro e w' ⟨rfl,rfl⟩)
 refine HF.out.mono ?_;rintro e w1 ⟨c,b,rfl,hf,hB⟩;cases b with
 | true=>{
 obtain⟨j,hc,hcj,huj,hej⟩:=eV hT (by omega) hf;exact absurd hej (HN.out j huj)}
 | false=>{
 have d1:=(hB.cell (p:=⟨pt,1,none⟩) hpt).trans c1;have h2' :aU w1 pa T.A la:=h2.same (fun b hb=>hB.block b (h2.lt b hb));have k1:Blk w1 pt _ _:=h1.of_same (hB.block pt hpt);have k4:Blk w1 gc _ _:=h4.of_same (hB.block gc hgc);have k3:=aQ h3 (fun q hq=>hB.block q (h3.lt q hq).2);have HFd:=qA hf;clear hf;have hBs:=hB.size;go_wp2_with fail
 refine(iV h2' HX.out).mono ?_;rintro e w2 ⟨rfl,la', hA', hFr,hsub⟩;clear d1;have m1:Blk w2 pt _ _:=hFr.blk k1 hpla;have m4:Blk w2 gc _ _:=hFr.blk k4 hgla;have m3:=aQ k3 (fun q hq=>hFr.keep q (k3.lt q hq).2 (hvq q hq).2.2);have e2:=m1.cell 2;have e3:=m1.cell 3;simp only[zI,zJ]at e2 e3;have efr:=m1.frozen;obtain⟨hc,hT', hinj', hb64'⟩:=Tb.put_ok hok hid hM hT HX.out hinj hb64 HFd.out;have ec:=m4.cell c;rw[fE hc]at ec;simp only[eF]at ec;have ecf:=m4.frozen c;have HT' :=qA hT'; clear hT';have Hinj' :=qA hinj'; clear hinj';have Hb64' :=qA hb64'; clear hb64';have Hsub:=qA hsub;clear hsub;have hsz2:=hFr.size;have HA' :=qA hA'; clear hA';rcases nB hok HX.out with⟨hlt,hbe⟩|⟨heq,hbe⟩
 {
 have Hbe:=qA hbe;clear hbe;obtain⟨g,cap,rfl,hcap,hg,hci,hfz⟩:=cL m3 hlt;rw[eL hlt]at hci;simp only[idF]at hci;have hfz' :=hfz i;clear hfz;obtain⟨hgp,hgg,hgla2⟩:=hvq g rfl;have hne:((i:Int) == (T.A.begun:Int))=false:=qQ.2 (by omega);clear c0 c1 c2 c3 hvq;go_wp2
 go_ret3;have hlA:=HA'.out.lt;have hgw:g<w.heap.size:=hltw g (by simp[Value.ownBlock]);refine⟨rfl,pt::gc::([g]++la'),⟨cpc,rst,pa,gc,n,_,fL C c (i+1),la', (m1.other _ _ (fun e=>hgp e.symm)).other _ _ hpg,HA'.out.same ?_,?_,?_,rfl,?_,hM,?_,HT'.out,Hinj'.out,Hb64'.out⟩,?_,?_⟩
 {
 intro b hb;have hb' :=Hsub.out b hb;have n1:b≠g:=by rcases hb' with hb' | hb'; exact fun e=>hgla2 (e▸hb');omega
 have n2:b≠gc:=by rcases hb' with hb' | hb'; exact fun e=>hgla (e▸hb');omega
 rw[Below.heap_setCell _ _ _ _ n2,Below.heap_setCell _ _ _ _ n1]}
 {
 have hx:=bN (iF m3 hlt (.int .u64 id)) ⟨gc,c,none⟩ (.int .i64 (i+1)) (by simp[Value.ownBlock];exact hgg);rw[kO]at hx;show World.ownsRow _ 0 _ 1 _ T.A.alloc.begun (cC T.A.alloc.begun (idF (fL T.ids i id)))
 rw[Hbe.out];exact hx}
 {
 have hx:=(m4.other ⟨g,i,none⟩ (.int .u64 id) (fun e=>hgg e.symm)).set c (.int .i64 ((i+1:Nat):Int));rw[lW _ hc]at hx;exact hx}
 {
 have hla' :la'.Nodup:=by obtain⟨_,_,_,_,_,_,_,_,hq,_⟩:=HA'.out;exact hq
 have q1:∀b∈la', b≠pt/\b≠gc/\b≠g:=by {
 intro b hb;rcases Hsub.out b hb with hb' | hb'
 · exact⟨fun e=>hpla (e▸hb'),fun e=>hgla (e▸hb'),fun e=>hgla2 (e▸hb')⟩
 · exact⟨by omega,by omega,by omega⟩};simp only[qN,qM,qB,qE,List.not_mem_nil,or_false,not_or];exact⟨⟨hpg,fun e=>hgp e.symm,fun hm=>(q1 pt hm).1 rfl⟩,⟨fun e=>hgg e.symm,fun hm=>(q1 gc hm).2.1 rfl⟩,by simp,hla', fun a ha b hb=>by subst ha;exact fun e=>(q1 b hb).2.2 e.symm⟩}
 {
 show 2*T.A.alloc.slots<=n
 rw[pT];exact hs}
 {
 have f1:Fr (pt::gc::((Value.slice (some ⟨g,0,none⟩) T.A.begun cap).ownBlock.toList++la)) w w2:=((Fr.of_below hB).mono (S' :=pt::gc::((Value.slice (some ⟨g,0,none⟩) T.A.begun cap).ownBlock.toList++la)) (by simp)).trans hFr (fun b hb=>.inl (by simp[hb]));exact(f1.setCell _ _ (.inl (by simp[Value.ownBlock]))).setCell _ _ (.inl (by simp))}
 {
 intro b hb;simp only[qB,qE,List.not_mem_nil,or_false]at hb;rcases hb with rfl|rfl|rfl|hb
 · exact .inl (by simp)
 · exact .inl (by simp)
 · exact .inl (by simp[Value.ownBlock])
 {
 rcases Hsub.out b hb with hb' | hb'
 · exact .inl (by simp[hb'])
 · exact .inr (by omega)}}}
 {
 subst heq;have Hbe:=qA hbe;clear hbe;have hvl:∀q,vi.ownBlock=some q->q<w.heap.size:=fun q hq=>hltw q (by simp[hq]);have hpt2:pt<w2.heap.size:=by omega
 have hgc2:gc<w2.heap.size:=by omega
 clear c0 c1 c2 c3;obtain⟨a0,cp0,rfl⟩:=aT m3;go_wp2_with (at_builtin;refine aB rfl _ _ 104 rfl 36 (.int .u64 0) 8 Tryz.underlying104 Tryz.info36 rfl (.slice a0 T.A.begun cp0) T.A.begun _ rfl (m3.alloc _) w2.heap.size (.int .u64 0) rfl (aC _ _ _ _ rfl) rfl (by omega) (by decide) ?_;intro g' cap' w3 hown3 hgrow3 hg3;obtain⟨f1,f2,f3,f4,f5,f6,f8,f9⟩:=aFJ (T:=T) (Value.slice a0 T.A.begun cp0) w2 w3 pt gc n c g' cap' _ C m1 m4 hown3 hgrow3 hg3 (fun q hq=>⟨(hvq q hq).1,(hvq q hq).2.1,by have:=hvl q hq;omega⟩);have HO:=qA hown3;have H9:=qA f9;clear f9;have f7:=f1.frozen;clear hgrow3 hown3 hg3;have g1:=f1.cell 2;have g2:=f1.cell 3;have g3:=f2.cell c;have g4:=f2.frozen c;rw[fE hc]at g3;simp only[eF]at g3;simp only[zI,zJ]at g1 g2)
 go_ret3;have hlA:=HA'.out.lt;have hla' :la'.Nodup:=by obtain⟨_,_,_,_,_,_,_,_,hq,_⟩:=HA'.out;exact hq
 have hgl:∀b∈la', b≠g' :=by {
 intro b hb e;subst e;rcases H9.out with h9|h9
 {
 have:=hvq _ h9;rcases Hsub.out _ hb with hb' | hb'
 · exact this.2.2 hb'
 · have:=hvl _ h9;omega}
 · have:=hlA _ hb;omega};have q1:∀b∈la', b≠pt/\b≠gc:=by {
 intro b hb;rcases Hsub.out b hb with hb' | hb'
 · exact⟨fun e=>hpla (e▸hb'),fun e=>hgla (e▸hb')⟩
 · exact⟨by omega,by omega⟩};refine⟨rfl,pt::gc::([g']++la'),⟨cpc,rst,pa,gc,n,.slice (some ⟨g', 0,none⟩) (T.A.begun+1) cap', fL C c (T.A.begun+1),la', ?_,HA'.out.same ?_,?_,?_,rfl,?_,hM,?_,HT'.out,Hinj'.out,Hb64'.out⟩,?_,?_⟩
 · exact(((f1.set 2 (.slice (some ⟨g', 0,none⟩) (T.A.begun+1) cap')).other ⟨g', T.A.begun,none⟩ (.int .u64 id) (fun e=>f3 e.symm)).other ⟨gc,c,none⟩ (.int .i64 (T.A.begun+1)) hpg)
 {
 intro b hb;rw[Below.heap_setCell _ _ _ _ (q1 b hb).2,Below.heap_setCell _ _ _ _ (hgl b hb),Below.heap_setCell _ _ _ _ (q1 b hb).1];refine f8.keep b (hlA b hb) ?_;intro hm;simp only[Option.mem_toList]at hm;rcases Hsub.out b hb with hb' | hb'
 · exact(hvq b hm).2.2 hb'
 · have:=hvl b hm;omega}
 {
 have hx0:=bN HO.out ⟨pt,2,none⟩ (.slice (some ⟨g', 0,none⟩) (T.A.begun+1) cap') (by simp[Value.ownBlock];exact f3);have hx:=bN (iF hx0 (Nat.lt_succ_self _) (.int .u64 id)) ⟨gc,c,none⟩ (.int .i64 (T.A.begun+1)) (by simp[Value.ownBlock];exact f4);have e0:=aFI T.A.begun T.ids 0;simp only[Int.cast_ofNat_Int]at e0;rw[e0,kO]at hx;have e1:fL (fL T.ids T.A.begun 0) T.A.begun id=fL T.ids T.A.begun id:=by funext j;simp only[fL];split<;>rfl
 rw[e1]at hx;show World.ownsRow _ 0 _ 1 _ T.A.alloc.begun (cC T.A.alloc.begun (idF (fL T.ids T.A.begun id)))
 rw[Hbe.out];exact hx}
 {
 have hx:=((f2.other ⟨pt,2,none⟩ (.slice (some ⟨g', 0,none⟩) (T.A.begun+1) cap') (fun e=>hpg e.symm)).other ⟨g', T.A.begun,none⟩ (.int .u64 id) (fun e=>f4 e.symm)).set c (.int .i64 ((T.A.begun+1:Nat):Int));rw[lW _ hc]at hx;exact hx}
 {
 simp only[qN,qM,qB,qE,List.not_mem_nil,or_false,not_or];exact⟨⟨hpg,fun e=>f3 e.symm,fun hm=>(q1 pt hm).1 rfl⟩,⟨fun e=>f4 e.symm,fun hm=>(q1 gc hm).2 rfl⟩,by simp,hla', fun a ha b hb=>by subst ha;exact fun e=>hgl b hb e.symm⟩}
 {
 show 2*T.A.alloc.slots<=n
 rw[pT];exact hs}
 {
 have p1:Fr (pt::gc::((Value.slice a0 T.A.begun cp0).ownBlock.toList++la)) w w2:=((Fr.of_below hB).mono (S' :=pt::gc::((Value.slice a0 T.A.begun cp0).ownBlock.toList++la)) (by simp)).trans hFr (fun b hb=>.inl (by simp[hb]));have p2:=p1.trans f8 (fun b hb=>.inl (by simp at hb;simp[hb]));refine((p2.setCell _ _ (.inl (by simp))).setCell _ _ ?_).setCell _ _ (.inl (by simp));rcases H9.out with h9|h9
 · exact .inl (by simp[h9])
 · exact .inr (by simp;omega)}
 {
 intro b hb;simp only[qB,qE,List.not_mem_nil,or_false]at hb;rcases hb with rfl|rfl|rfl|hb
 · exact .inl (by simp)
 · exact .inl (by simp)
 {
 rcases H9.out with h9|h9
 · exact .inl (by simp[h9])
 · exact .inr (by omega)}
 {
 rcases Hsub.out b hb with hb' | hb'
 · exact .inl (by simp[hb'])
 · exact .inr (by omega)}}}}
theorem isUsed_put{A:Ar}{k:Nat}(_hu:A.isUsed k)(j:Nat):(A.put k).isUsed j↔(A.isUsed j/\j≠k):=by
 simp only[Ar.isUsed,Ar.put,qB,not_or];constructor
 · rintro⟨a,b,c⟩;exact⟨⟨a,c⟩,b⟩
 · rintro⟨⟨a,c⟩,b⟩;exact⟨a,b,c⟩
def Tb.del(T:Tb)(i:Nat):Tb:={ A:=T.A.put i,ids:=fL T.ids i 0 }
theorem sI{w:World}{pt:Nat}{T:Tb}{l:List Nat}{id:Nat}(hid:id<18446744073709551616)(h:cB w pt T l)(hno:∀i,T.used i->T.ids i≠id):
    Calls Tryz.prog 155 #[ptr pt,.int .u64 id] w fun e w' =>e=.returned (.int .i64 5)/\Below w.heap.size w w' :=by
 obtain⟨cpc,rst,pa,gc,n,vi,C,la,h1,h2,h3,h4,rfl,hnd,hM,hs,hT,hinj,hb64⟩:=h;have c0:=h1.cell 0;simp only[zI]at c0;have hn:=hM.pos;have hfind:=eW id hid h1 h2 h3 h4 hM hs hT;have HF:=qA hfind;clear hfind;have HN:=qA hno;clear hno;go_enter Tryz.func155,Tryz.ntmps155
 go_wp2_with (go_at_call 143;refine(dA pt _ c0).mono ?_;rintro e w' ⟨rfl,rfl⟩)
 refine HF.out.mono ?_;rintro e w1 ⟨c,b,rfl,hf,hB⟩;cases b with
 | true=>{
 obtain⟨j,hc,hcj,huj,hej⟩:=eV hT (by omega) hf;exact absurd hej (HN.out j huj)}
 | false=>{
 clear hf;go_wp2
 go_ret;exact⟨rfl,hB⟩}
theorem aFK{w:World}{pt:Nat}{T:Tb}{l:List Nat}{id i:Nat}(hid:id<18446744073709551616)(h:cB w pt T l)(hu:T.used i)(hi:T.ids i=id):
    Calls Tryz.prog 155 #[ptr pt,.int .u64 id] w fun e w' =>e=.returned (.int .i64 0)/\cB w' pt (T.del i) l/\Fr l w w' :=by
 have hltw:=h.lt;obtain⟨cpc,rst,pa,gc,n,vi,C,la,h1,h2,h3,h4,rfl,hnd,hM,hs,hT,hinj,hb64⟩:=h;have hok:=h2.ok;have hilt:i<T.A.begun:=hu.1;have hbl:T.A.begun<=65536:=by have:=hok.hs;have:=hok.hb;omega
 have c0:=h1.cell 0;have c1:=h1.cell 1;have c3:=h1.cell 3;simp only[zI,zJ]at c0 c1 c3;have hpt:=h1.lt;have hgc:=h4.lt;have hn:=hM.pos;have hn2:=hM.le;have hfind:=eW id hid h1 h2 h3 h4 hM hs hT;have HF:=qA hfind;clear hfind;have HI:=qA hi;clear hi;have hnd2:pt≠gc/\(∀q,vi.ownBlock=some q->q≠pt/\q≠gc/\q∉la)/\pt∉la/\gc∉la:=by {
 simp only[qN,qM,qB,qE,Option.mem_toList,not_or]at hnd;refine⟨hnd.1.1,fun q hq=>⟨fun e=>hnd.1.2.1 (e▸hq),fun e=>hnd.2.1.1 (e▸hq),fun hm=>hnd.2.2.2.2 q (by simpa using hq) q hm rfl⟩,hnd.1.2.2,hnd.2.1.2⟩};obtain⟨hpg,hvq,hpla,hgla⟩:=hnd2;obtain⟨g,cap,rfl,hcap,hg,hci,hfz⟩:=cL h3 hilt;obtain⟨hgp,hgg,hgla2⟩:=hvq g rfl;clear hvq;go_enter Tryz.func155,Tryz.ntmps155
 go_wp2_with (go_at_call 143;refine(dA pt _ c0).mono ?_;rintro e w' ⟨rfl,rfl⟩)
 refine HF.out.mono ?_;rintro e w1 ⟨c,b,rfl,hf,hB⟩;cases b with
 | false=>exact absurd HI.out ((iG hT (by omega) hf).2.2.1 i hu)
 | true=>{
 obtain⟨j,hc,hcj,huj,hej⟩:=eV hT (by omega) hf;obtain rfl:j=i:=hinj j i huj hu (hej.trans HI.out.symm);have d1:=(hB.cell (p:=⟨pt,1,none⟩) hpt).trans c1;have d3:=(hB.cell (p:=⟨pt,3,none⟩) hpt).trans c3;have dc:w1.cell? ⟨gc,c,none⟩=some (.int .i64 ((j:Int)+1)):=by rw[hB.cell (p:=⟨gc,c,none⟩) h4.lt,h4.cell,fE hc];simp[eF,hcj]
 have H1:=qA hcj;clear hcj;have H2:=qA hej;clear hej;have h2' :aU w1 pa T.A la:=h2.same (fun b hb=>hB.block b (h2.lt b hb));have k1:Blk w1 pt _ _:=h1.of_same (hB.block pt hpt);have k4:Blk w1 gc _ _:=h4.of_same (hB.block gc hgc);have k3:=aQ h3 (fun q hq=>hB.block q (h3.lt q hq).2);clear hf c0 c1 c3 hci hfz;go_wp2_with fail
 refine(sD h2' hu).mono ?_;rintro e w2 ⟨rfl,hA', hFr⟩;clear d1 d3 dc;have m1:Blk w2 pt _ _:=hFr.blk k1 hpla;have m4:Blk w2 gc _ _:=hFr.blk k4 hgla;have m3:=aQ k3 (fun q hq=>hFr.keep q (k3.lt q hq).2 (by simp[Value.ownBlock]at hq;subst hq;exact hgla2));have e2:=m1.cell 2;have e3:=m1.cell 3;simp only[zI,zJ]at e2 e3;have HA' :=qA hA'; clear hA';go_wp2_with fail
 refine(aMA pt gc n cpc T.A.begun c C T.ids (fun k=>T.used k/\k≠j) (.slice (some ⟨g,0,none⟩) T.A.begun cap) w2 hM hpg e3 e2 m4 ?_ (fun k hk=>hk.1.1) hbl (pE.start hT hc H1.out) (sG hT hok hn hs)).mono ?_
 {
 intro k hk;obtain⟨g2,cap2,e,_,_,hck,_⟩:=cL m3 hk;simp only[qO,qI,Addr.mk.injEq,and_true,true_and]at e;obtain⟨rfl,rfl⟩:=e;rw[eL hk]at hck;exact⟨g,cap,rfl,hgg,hgp,hck,hb64 k hk⟩}
 {
 rintro e w3 ⟨rfl,C', hb4,hT', hF3⟩;have n1:Blk w3 pt _ _:=hF3.blk m1 (by simpa using hpg);have n3:=aQ m3 (fun q hq=>hF3.keep q (m3.lt q hq).2 (by simp[Value.ownBlock]at hq;subst hq;simpa using hgg));have s2:=n1.cell 2;simp only[zI,zJ]at s2;obtain⟨g2,cap2,e,_,_,hck,hfz⟩:=cL n3 hilt;simp only[qO,qI,Addr.mk.injEq,and_true,true_and]at e;obtain⟨rfl,rfl⟩:=e;rw[eL hilt]at hck;simp only[idF]at hck;have hfz' :=hfz j;clear hfz e2 e3;have HT' :=qA hT'; clear hT';go_wp2
 go_ret;have hA3:aU w3 pa (T.A.put j) la:=HA'.out.same (fun b hb=>hF3.keep b (HA'.out.lt b hb) (by simp;rintro rfl;exact hgla hb));refine⟨rfl,⟨cpc,rst,pa,gc,n,_,C', la,n1.other _ _ (fun e=>hgp e.symm),hA3.same ?_,?_,hb4.other _ _ (fun e=>hgg e.symm),rfl,hnd,hM,hs,?_,?_,?_⟩,?_⟩
 {
 intro b hb;exact Below.heap_setCell _ _ _ _ (show b≠g by rintro rfl;exact hgla2 hb)}
 {
 have hx:=iF n3 hilt (.int .u64 ((0:Nat):Int));rw[kO]at hx;exact hx}
 {
 refine HT'.out.congr (fun k=>(isUsed_put hu k).symm) (fun k hk=>?_);simp only[Tb.del];rw[aE hk.2]}
 {
 intro a b ha hb e;obtain⟨ha1,ha2⟩:=(isUsed_put hu a).1 ha;obtain⟨hb1,hb2⟩:=(isUsed_put hu b).1 hb;simp only[Tb.del]at e;rw[aE ha2,aE hb2]at e;exact hinj a b ha1 hb1 e}
 {
 intro a ha;simp only[Tb.del,Ar.put]at ha ⊢;by_cases e:a=j
 · rw[e,bC];omega
 · rw[aE e];exact hb64 a ha}
 {
 have p1:=(((Fr.of_below hB).mono (S' :=pt::gc::((Value.slice (some ⟨g,0,none⟩) T.A.begun cap).ownBlock.toList++la)) (by simp)).trans hFr (fun b hb=>.inl (by simp[hb]))).trans hF3 (fun b hb=>.inl (by simp at hb;simp[hb]));exact p1.setCell _ _ (.inl (by simp[Value.ownBlock]))}}}
theorem Tryz.info3:(Tryz.prog.info? 3).map (fun i=>(i.zero,i.size,i.bytes))=some (some (.int .i64 0),1,8):=by kernel_rfl
def Tb.new(slots:Nat):Tb:={ A:=Ar.new slots,ids:=fun _=>0 }
theorem aMC(slots:Int)(w:World)(h:slots<0∨65536<slots):
    Calls Tryz.prog 128 #[.int .i64 slots] w fun e w' =>e=.returned (.tuple #[.pointer none,.int .i64 2])/\w=w' :=by
 have H:=qA h;clear h;go_enter Tryz.func128,Tryz.ntmps128
 go_wp2_with (go_at_call 127;refine(wN slots _ H.out).mono ?_;rintro e w' ⟨rfl,rfl⟩)
 go_ret2;exact⟨rfl,rfl⟩
theorem vD(n:Nat):madeCells (Value.int .i64 0).cells n=(cC n (eF (fun _=>0))).toArray:=by
 apply Array.ext
 · simp[madeCells,cC]
 {
 intro i h1 h2;simp[madeCells,cC,eF,Value.cells,Nat.mod_one]}
theorem uI(n:Nat)(w:World)(hn:n<=1048576):(Instr.makeSlice 158 (.int .i64 n) (.int .i64 n)).run Tryz.prog w=.ok (.slice (some ⟨w.heap.size,0,none⟩) n n) (w.alloc (.cells (cC n (eF (fun _=>0))).toArray 3)):=by
 obtain⟨i0,hi,hz0,hz1,hz2⟩:=info_parts Tryz.info3;have h:=run_make (P:=Tryz.prog) w 158 3 i0 (.int .i64 0) Tryz.underlying158 hi hz0 .i64 .i64 n n (by omega) (by omega) (by rw[hz2];omega) (by omega);rw[hz1]at h;simp only[zC,Nat.mul_one]at h;rw[vD]at h;exact h
theorem aFL{j:Nat}(h:2 ^ j<131072):j<17:=by
 apply qP;intro hn;have:2 ^ 17<=2 ^ j:=Nat.pow_le_pow_right (by decide) (by omega);omega
theorem aFM(slots:Nat)(w:World)(h:slots<=65536):
    Calls Tryz.prog 128 #[.int .i64 slots] w fun e w' =>∃pt,e=.returned (.tuple #[ptr pt,.int .i64 0])/\∃l,cB w' pt (Tb.new slots) l/\Fr [] w w' /\ ∀b∈l,w.heap.size<=b:=by
 go_enter Tryz.func128,Tryz.ntmps128
 go_wp2_with (go_at_call 127;refine(vA slots _ h).mono ?_;rintro e w1 ⟨rfl,hA,hFr⟩)
 go_loop [6] (fun a=>∃j n:Nat,1<=j/\j<=17/\n<=131072/\Hid (n=2 ^ j)/\a=.int .i64 n) (fun a=>200000-(intOf a).toNat)
 case atStart=>exact⟨1,2,by omega,by omega,by omega,qA rfl,rfl⟩
 case round=>
  obtain⟨j,n,hj1,hj2,hn1,Hn,rfl⟩:=hrel;by_cases hlt:n<2*slots
  {
  go_wp2
  go_round
  case rel=>
   have hj3:j<17:=aFL (by rw[<-Hn.out];omega);have hp:2 ^ (j+1)<=2 ^ 17:=Nat.pow_le_pow_right (by decide) (by omega);have hq:n*2=2 ^ (j+1):=by rw[Hn.out];rfl
   refine⟨j+1,n*2,by omega,by omega,by omega,qA hq,by go_num⟩
  case measure=>
   have hp:1<=n:=by rw[Hn.out];exact Nat.one_le_two_pow
   simp[intOf];omega}
  {
  have hmk:=fun W=>uI n W (by omega);go_wp2
  go_ret2;have hw:w.heap.size<w1.heap.size:=hA.lt _ (by simp);have b1:=Blk.new w1 (cC n (eF fun _=>0)) 3;have b2:=Blk.new (w1.alloc (.cells (cC n (eF fun _=>0)).toArray 3)) [ptr (w1.heap.size+1),ptr w.heap.size,.slice none 0 0,.slice (some ⟨w1.heap.size,0,none⟩) n n] 211;simp only[World.size_alloc]at b2;refine⟨w1.heap.size+1,rfl,(w1.heap.size+1)::w1.heap.size::([]++[w.heap.size]),⟨n,[],w.heap.size,w1.heap.size,n,.slice none 0 0,fun _=>0,[w.heap.size],b2,?_,World.ownsRow_nil _ _ _ _,by unfold gJ;rw[List.append_nil];exact b1.alloc _,rfl,?_,?_,?_,?_,?_,?_⟩,?_,?_⟩
  {
  exact hA.same (fun b hb=>by
    simp only[qH]at hb;subst hb;rw[Below.heap_alloc _ _ _ (by simp;omega),Below.heap_alloc _ _ _ hw])}
  · simp;omega
  · rw[Hn.out];exact uF.mk' j hj1 hj2
  · show 2*slots<=n;omega
  · exact⟨fun c _ h0=>absurd rfl h0,fun c d _ _ h0=>absurd rfl h0,fun i hi=>absurd hi.1 (Nat.not_lt_zero _)⟩
  · intro i j hi;exact absurd hi.1 (Nat.not_lt_zero _)
  · intro i hi;exact absurd hi (Nat.not_lt_zero _)
  · exact(hFr.alloc _).alloc _
  · intro b hb;simp at hb;omega}
end Go.Proofs.YtjdgpcjbgjnahaaGreatDoor
namespace Go.Proofs.YtjdgpcjbgjnahaaGreatDoor
structure Md where
  slots:Nat
  L:List (Nat×Nat)
  free:List Nat
  given:Nat
namespace Md
def new(slots:Nat):Md:={ slots:=slots,L:=[],free:=[],given:=0 }
def find(M:Md)(id:Nat):Option Nat:=(M.L.find? (fun x=>x.1 == id)).map (·.2)
def idOf(M:Md)(i:Nat):Option Nat:=(M.L.find? (fun x=>x.2 == i)).map (·.1)
def next(M:Md):Option Nat:=match M.free with
  | k::_=>some k
  | []=>if M.given<M.slots then some M.given else none
def add(M:Md)(id i:Nat):Md:={ M with L:=M.L++[(id,i)],free:=M.free.tail,given:=match M.free with|[]=>M.given+1|_=>M.given }
def rem(M:Md)(id i:Nat):Md:={ M with L:=M.L.filter (fun x=>x.1 != id),free:=i::M.free }
structure PutR where
  idx:Nat
  added:Bool
  err:Nat
  M:Md
def put(M:Md)(id:Nat):PutR:=match M.find id with
  | some i=>⟨i,false,0,M⟩
  | none=>match M.next with
    | none=>⟨0,false,4,M⟩
    | some i=>⟨i,true,0,M.add id i⟩
structure DelR where
  err:Nat
  M:Md
def del(M:Md)(id:Nat):DelR:=match M.find id with
  | none=>⟨5,M⟩
  | some i=>⟨0,M.rem id i⟩
def ar(M:Md):Ar:={ slots:=M.slots,begun:=M.given,free:=M.free }
structure Ok (M:Md):Prop where
  ar:M.ar.ok
  ids:(M.L.map (·.1)).Nodup
  idx:(M.L.map (·.2)).Nodup
  used:∀x∈M.L,M.ar.isUsed x.2
  all:∀i,M.ar.isUsed i->∃id,(id,i)∈M.L
  cnt:M.L.length+M.free.length=M.given
  u64:∀x∈M.L,x.1<18446744073709551616
theorem mem_find{M:Md}(h:(M.L.map (·.1)).Nodup){id i:Nat}(hm:(id,i)∈M.L):M.find id=some i:=by
 unfold find;generalize M.L=l at *;induction l with
 | nil=>cases hm
 | cons a r ih=>{
 simp only[List.map_cons,qN]at h;by_cases e:a.1=id
 {
 rcases qB.1 hm with rfl|hm
 · simp
 · exact absurd (qV.2 ⟨_,hm,e.symm⟩) h.1}
 {
 rcases qB.1 hm with rfl|hm
 · exact absurd rfl e
 · rw[List.find?_cons_of_neg (by simpa using e)];exact ih h.2 hm}}
theorem find_mem{M:Md}{id i:Nat}(hf:M.find id=some i):(id,i)∈M.L:=by
 unfold find at hf;simp only[Option.map_eq_some_iff]at hf;obtain⟨x,hx,rfl⟩:=hf;have h1:=List.find?_some hx;have h2:=List.mem_of_find?_eq_some hx;simp at h1;subst h1;exact h2
theorem find_iff{M:Md}(h:M.Ok){id i:Nat}:M.find id=some i↔(id,i)∈M.L:=⟨find_mem,mem_find h.ids⟩
theorem find_none{M:Md}{id:Nat}:M.find id=none↔∀i,(id,i)∉M.L:=by
 unfold find;simp only[Option.map_eq_none_iff,List.find?_eq_none,beq_iff_eq];constructor
 · intro h i hm;exact h _ hm rfl
 · rintro h ⟨a,b⟩ hm e;subst e;exact h b hm
theorem mem_idOf{M:Md}(h:(M.L.map (·.2)).Nodup){id i:Nat}(hm:(id,i)∈M.L):M.idOf i=some id:=by
 unfold idOf;generalize M.L=l at *;induction l with
 | nil=>cases hm
 | cons a r ih=>{
 simp only[List.map_cons,qN]at h;by_cases e:a.2=i
 {
 rcases qB.1 hm with rfl|hm
 · simp
 · exact absurd (qV.2 ⟨_,hm,e.symm⟩) h.1}
 {
 rcases qB.1 hm with rfl|hm
 · exact absurd rfl e
 · rw[List.find?_cons_of_neg (by simpa using e)];exact ih h.2 hm}}
theorem ok_new{slots:Nat}(h:slots<=65536):(new slots).Ok:=
  ⟨⟨h,by simp[new,ar],by simp[new,ar],by simp[new,ar]⟩,by simp[new],by simp[new],by simp[new],fun i hi=>absurd hi.1 (Nat.not_lt_zero _),rfl,by simp[new]⟩
theorem ar_next(M:Md):M.ar.next=M.next:=by
 unfold ar next Ar.next;cases M.free<;>rfl
theorem ar_add{M:Md}{id i:Nat}(h:M.next=some i):(M.add id i).ar=M.ar.alloc:=by
 obtain⟨s,L,f,g⟩:=M;cases f<;>rfl
theorem ar_rem(M:Md)(id i:Nat):(M.rem id i).ar=M.ar.put i:=rfl
theorem alloc_ok{A:Ar}{i:Nat}(h:A.ok)(hn:A.next=some i):A.alloc.ok:=by
 obtain⟨s,b,f⟩:=A;cases f with
 | cons k r=>refine⟨h.hs,h.hb,(qN.1 h.nd).2,fun x hx=>h.lt x (List.mem_cons_of_mem _ hx)⟩
 | nil=>{
 simp only[Ar.next]at hn;by_cases hb:b<s
 · exact⟨h.hs,by simp[Ar.alloc];omega,by simp[Ar.alloc],by simp[Ar.alloc]⟩
 · rw[qC hb]at hn;cases hn}
theorem isUsed_alloc' {A:Ar}{i:Nat}(hok:A.ok)(hn:A.next=some i):(¬A.isUsed i)/\∀j,A.alloc.isUsed j↔(A.isUsed j∨j=i):=by
 obtain⟨slots,begun,free⟩:=A;cases free with
 | cons k r=>{
 obtain rfl:k=i:=by simpa[Ar.next] using hn
 have hnd:=hok.nd;have hlt:=hok.lt k (by simp);simp only[qN]at hnd;dsimp only at hlt
 refine⟨by simp[Ar.isUsed],fun j=>?_⟩;simp only[Ar.isUsed,Ar.alloc,qB,not_or];constructor
 {
 rintro⟨a,b⟩;by_cases e:j=k
 · exact .inr e
 · exact .inl ⟨a,e,b⟩}
 {
 rintro(⟨a,_,b⟩|rfl)
 · exact⟨a,b⟩
 · exact⟨hlt,hnd.1⟩}}
 | nil=>{
 simp only[Ar.next]at hn;by_cases hb:begun<slots
 {
 rw[qD hb]at hn;obtain rfl:begun=i:=by simpa using hn
 refine⟨by simp[Ar.isUsed],fun j=>?_⟩;simp only[Ar.isUsed,Ar.alloc,List.not_mem_nil,not_false_eq_true,and_true];omega}
 · rw[qC hb]at hn;cases hn}
theorem ok_add{M:Md}(h:M.Ok){id i:Nat}(hid:id<18446744073709551616)(hf:M.find id=none)(hn:M.next=some i):(M.add id i).Ok:=by
 have hn' :M.ar.next=some i:=by rw[ar_next];exact hn
 obtain⟨hnu,hiff⟩:=isUsed_alloc' h.ar hn';have hno:=find_none.1 hf;refine⟨by rw[ar_add hn];exact alloc_ok h.ar hn', ?_,?_,?_,?_,?_,?_⟩
 {
 simp only[add,List.map_append,List.map_cons,List.map_nil,qM];refine⟨h.ids,by simp,?_⟩;intro a ha b hb e;simp only[qH]at hb;obtain⟨x,hx,rfl⟩:=qV.1 ha;exact hno x.2 (by rw[<-hb,<-e];exact hx)}
 {
 simp only[add,List.map_append,List.map_cons,List.map_nil,qM];refine⟨h.idx,by simp,?_⟩;intro a ha b hb e;simp only[qH]at hb;obtain⟨x,hx,rfl⟩:=qV.1 ha;have:=h.used x hx;rw[e,hb]at this;exact hnu this}
 {
 intro x hx;rw[ar_add hn,hiff];simp only[add,qE,qH]at hx;rcases hx with hx|rfl
 · exact .inl (h.used x hx)
 · exact .inr rfl}
 {
 intro j hj;rw[ar_add hn,hiff]at hj;rcases hj with hj|rfl
 {
 obtain⟨id', hm⟩:=h.all j hj;exact⟨id', by simp[add,hm]⟩}
 · exact⟨id,by simp[add]⟩}
 {
 have:=h.cnt;obtain⟨s,L,f,g⟩:=M;cases f with
 | nil=>simp[add]at *;omega
 | cons k r=>simp[add]at *;omega}
 {
 intro x hx;simp only[add,qE,qH]at hx;rcases hx with hx|rfl
 · exact h.u64 x hx
 · exact hid}
theorem filter_ne{l:List (Nat×Nat)}{id i:Nat}(hnd:(l.map (·.1)).Nodup)(hm:(id,i)∈l):(l.filter (fun x=>x.1 != id)).length+1=l.length:=by
 induction l with
 | nil=>cases hm
 | cons a r ih=>{
 simp only[List.map_cons,qN]at hnd;by_cases e:a.1=id
 {
 have hr:r.filter (fun x=>x.1 != id)=r:=List.filter_eq_self.2 (fun x hx=>by
   simp only[bne_iff_ne];intro e2;exact hnd.1 (qV.2 ⟨x,hx,e2.trans e.symm⟩))
 rw[List.filter_cons_of_neg (by simp[e]),hr];simp}
 {
 rcases qB.1 hm with rfl|hm
 · exact absurd rfl e
 · rw[List.filter_cons_of_pos (by simpa using e),qY,qY,ih hnd.2 hm]}}
theorem isUsed_put' {A:Ar}{k:Nat}(_hu:A.isUsed k)(j:Nat):(A.put k).isUsed j↔(A.isUsed j/\j≠k):=by
 simp only[Ar.isUsed,Ar.put,qB,not_or];constructor
 · rintro⟨a,b,c⟩;exact⟨⟨a,c⟩,b⟩
 · rintro⟨⟨a,c⟩,b⟩;exact⟨a,b,c⟩
theorem ok_rem{M:Md}(h:M.Ok){id i:Nat}(hm:(id,i)∈M.L):(M.rem id i).Ok:=by
 have hu:=h.used _ hm;have hiff:=isUsed_put' hu;have hne:∀x∈M.L,x.1≠id->x.2≠i:=by {
 intro x hx hn e;have h1:=mem_idOf h.idx (show(x.1,x.2)∈M.L from hx);have h2:=mem_idOf h.idx hm;rw[e,h2]at h1;exact hn (by simpa using h1.symm)};refine⟨?_,?_,?_,?_,?_,?_,?_⟩
 {
 rw[ar_rem];refine⟨h.ar.hs,h.ar.hb,?_,?_⟩
 · simp only[Ar.put,qN];exact⟨hu.2,h.ar.nd⟩
 {
 intro x hx;simp only[Ar.put,qB]at hx;rcases hx with rfl|hx
 · exact hu.1
 · exact h.ar.lt x hx}}
 · exact(List.Sublist.map _ List.filter_sublist).nodup h.ids
 · exact(List.Sublist.map _ List.filter_sublist).nodup h.idx
 {
 intro x hx;simp only[rem,qZ,bne_iff_ne]at hx;rw[ar_rem,hiff];exact⟨h.used x hx.1,hne x hx.1 hx.2⟩}
 {
 intro j hj;rw[ar_rem,hiff]at hj;obtain⟨id', hm'⟩:=h.all j hj.1;refine⟨id', ?_⟩;simp only[rem,qZ,bne_iff_ne];refine⟨hm', fun e=>?_⟩;subst e;have h1:=mem_find h.ids hm;rw[mem_find h.ids hm']at h1;exact hj.2 (by simpa using h1)}
 {
 have:=h.cnt;have h2:=filter_ne h.ids hm;simp only[rem,qY];omega}
 {
 intro x hx;simp only[rem,qZ]at hx;exact h.u64 x hx.1}
theorem ok_put{M:Md}(h:M.Ok){id:Nat}(hid:id<18446744073709551616):(M.put id).M.Ok:=by
 unfold put;cases hf:M.find id with
 | some i=>exact h
 | none=>{
 cases hn:M.next with
 | none=>exact h
 | some i=>exact ok_add h hid hf hn}
theorem ok_del{M:Md}(h:M.Ok)(id:Nat):(M.del id).M.Ok:=by
 unfold del;cases hf:M.find id with
 | none=>exact h
 | some i=>exact ok_rem h (find_mem hf)
end Md
end Go.Proofs.YtjdgpcjbgjnahaaGreatDoor
