/- Windows that may be nil: asked, agree. -/
import Derived.Test.YtgmnemndjjmgkaaGreatB11
import Derived.Test.YtgmnemndjjmgkaaGreatB9
import Derived.Test.YtgmnemndjjmgkaaGreatB10
set_option maxRecDepth 10000
set_option maxHeartbeats 1600000
set_option linter.unusedSimpArgs false
set_option linter.unusedVariables false
/- The document's window: Add. -/
namespace Go.Proofs.YtgmnemndjjmgkaaGreat
open Go.RowKit
def G17(p:Nat)(va:Value)(x:Lv):Nat->Value->Prop
  | 0,y=>y=aN p
  | 2,y=>y=aN p
  | 3,y=>y=.pointer (some ⟨p,0,none⟩)
  | 4,y=>y=.pointer (some ⟨p,6,none⟩)
  | 5,y=>y=va
  | 7,y=>y=aN p
  | 8,y=>y=.pointer (some ⟨p,0,none⟩)
  | 9,y=>y=.pointer (some ⟨p,7,none⟩)
  | 10,y=>y=.int .u64 x.seq
  | 11,y=>y=.agg #[.int .u64 x.u,.int .u64 x.v,.int .i64 x.wt,.int .i64 x.t]
  | 12,y=>y=.int .i64 x.x
  | 13,y=>y=.agg #[.int .i64 0,.int .u64 x.seq,.int .u64 x.u,.int .u64 x.v,.int .i64 x.wt,.int .i64 x.t,.int .i64 x.x]
  | 16,y=>y=.pointer (some ⟨p,0,none⟩)
  | 17,y=>y=.pointer (some ⟨p,6,none⟩)
  | _,_=>True
def g17(l:List Lv)(x:Lv)(L:Nat->Bool):Nat->Option (List Lv)
  | 1=>if L 1=true/\L 6=false then some [] else none
  | 6=>if L 6=true/\L 15=false then some l else none
  | 14=>if L 14=true/\L 15=false then some [x] else none
  | 15=>if L 15=true then some (l++[x]) else none
  | _=>none
theorem dO{l:List Lv}{x:Lv}{L:Nat->Bool}{i:Nat}(h0:i≠1)(h2:i≠6)(h5:i≠14)(h6:i≠15):∀k c,g17 l x (cM L i true) k=some c->k≠i/\g17 l x L k=some c:=by
 intro k c hk;have e:g17 l x (cM L i true) k=g17 l x L k:=by {
 unfold g17;split<;>simp only[cM,qH (Ne.symm h0),qH (Ne.symm h2),qH (Ne.symm h5),qH (Ne.symm h6)]};rw[e]at hk;refine⟨?_,hk⟩;rintro rfl;unfold g17 at hk;split at hk<;>first|exact h0 rfl|exact h2 rfl|exact h5 rfl|exact h6 rfl|cases hk
theorem aRQ{l:List Lv}{x:Lv}{L:Nat->Bool}:∀k c,g17 l x (cM L 1 true) k=some c->(k=1/\c=[])∨(k≠1/\g17 l x L k=some c):=by
 intro k c hk;unfold g17 at hk ⊢;split at hk<;>simp_all [cM]
theorem aMN{l:List Lv}{x:Lv}{L:Nat->Bool}:∀k c,g17 l x (cM L 14 true) k=some c->(k=14/\c=[x])∨(k≠14/\g17 l x L k=some c):=by
 intro k c hk;unfold g17 at hk ⊢;split at hk<;>simp_all [cM]
theorem aRR{l:List Lv}{x:Lv}{L:Nat->Bool}:∀k c,g17 l x (cM L 6 true) k=some c->(k=6/\c=[]++l)∨(k≠6/\k≠1/\g17 l x L k=some c):=by
 intro k c hk;unfold g17 at hk ⊢;split at hk<;>simp_all [cM]
theorem aMO{l:List Lv}{x:Lv}{L:Nat->Bool}:∀k c,g17 l x (cM L 15 true) k=some c->(k=15/\c=l++[x])∨(k≠15/\k≠6/\g17 l x L k=some c):=by
 intro k c hk;unfold g17 at hk ⊢;split at hk<;>simp_all [cM]
theorem aRS{l:List Lv}{x:Lv}:∀k,g17 l x (fun _=>false) k=none:=by
 intro k;unfold g17;split<;>simp
def I17(p:Nat)(va:Value)(l:List Lv)(x:Lv)(w0:World)(f:Nat->Value)(L:Nat->Bool)(w:World):Prop:=
  (L 18=false->lS (G17 p va x) (g17 l x) w0 f L w)/\(L 18=true->∃w1,Fr [] w0 w1/\aS w1 (f 15) (l++[x])/\(∀q,(f 15).ownBlock=some q->w0.heap.size<=q)/\w=w1.setCell ⟨p,6,none⟩ (f 15))
theorem eM{P:Program}{ops:Array Oper}{p:Nat}{va:Value}{l:List Lv}{x:Lv}{w0:World}{f:Nat->Value}{k:Nat}{o:Oper}{a:Act}(ho:ops[k]? =some o)(hg:o.guard=none)(hd18:(aCK ops 2 18).contains k=true)(hk:k≠18)
    (h:∀L w,(∀j∈iH .any o,L j=true)->L k=false->lS (G17 p va x) (g17 l x) w0 f L w->gC P (fun v w' =>lS (G17 p va x) (g17 l x) w0 (cM f k v) (cM L k true) w') ((execOp a.eval o).run P w)):
    sT P ops .any (aWK ops (I17 p va l x w0)) f k o a:=
  aM ho hg fun L w hc hd hn hI=>by
 have h0:L 18=false:=by {
 cases e:L 18 with
 | false=>rfl
 | true=>rw[hc.reach 2 18 e k (by simpa using hd18)]at hn;cases hn};refine rM (fun v w' hh=>⟨fun _=>hh,fun e=>?_⟩) (h L w hd hn (hI.1 h0));rw[aT _ _ hk.symm,h0]at e;cases e
section
variable {W wr w w' :World} {p:Nat} {o:Ob} {ts:List Th} {a:Option Addr} {c n:Nat}
theorem bAU(h:Wd W wr (thF p o::ts))(hok:o.Ok)(u v:Nat)(wt t:Int)(ht2:t<=9223372036854775807):
    Calls Tryz.prog 71 #[aN p,iK u v wt t] wr fun e w' =>e=.returned (.int .i64 (o.addC u v t:Nat))/\Wd W w' (thF p (o.add u v wt t)::ts):=by
 have hW1:Wd W (wr.alloc (.cells #[.int .u64 u,.int .u64 v,.int .i64 wt,.int .i64 t] 42)) (thF p o::thB wr.heap.size 42 [.int .u64 u,.int .u64 v,.int .i64 wt,.int .i64 t]::ts):=
   (show Wd W _ (thB wr.heap.size 42 [.int .u64 u,.int .u64 v,.int .i64 wt,.int .i64 t]::thF p o::ts) from
     h.new (K:=[wr.heap.size]) ((Fr.refl [] wr).alloc _) ⟨Blk.new wr [.int .u64 u,.int .u64 v,.int .i64 wt,.int .i64 t] 42,rfl⟩ (fun q hq=>Nat.le_of_eq (qP.1 hq).symm)).swap
 obtain⟨_,h1,_⟩:=hW1.swap.get;obtain⟨_,a,c,h2,h3,_⟩:=hW1.get;have HV:=qB (oL h2);have q0:=h1.cell 0;have q1:=h1.cell 1;have q3:=h1.cell 3;have c1:=h2.cell 1;have c5:=h2.cell 5;have c6:=h2.cell 6;simp only[rfC,zS,zT]at c1 c5 c6 q0 q1 q3;have HW:=qB hW1;have HK:=qB (zR h1 (zR h2 h3));have HO:=qB hok;clear hW1 h h1 h2 h3 hok;go_enter Tryz.func71,Tryz.ntmps71
 go_wp2_with fail
 refine HV.out.mono ?_;rintro _ _ ⟨rfl,rfl⟩;clear HV;by_cases hne:u=v
 {
 have d1:((u:Int) == v)=true:=by simp;omega
 have HC:=qB (show o.addC u v t=9 from qI hne);clear hne;go_wp2_with fail
 go_ret;have e:=HC.out;refine⟨by rw[e];rfl,?_⟩;unfold Ob.add;rw[e,qH (by decide)];exact HW.out.drop2};have d1:((u:Int) == v)=false:=by simp;omega
 have HN:=qB hne;clear hne;go_wp2_with fail
 obtain⟨xb,hxb⟩:∃xb,xb=wr.heap.size:=⟨_,rfl⟩;rw[<-hxb]at HW HK q0 q1 q3 ⊢;clear hxb;generalize wr.alloc (.cells #[.int .u64 u,.int .u64 v,.int .i64 wt,.int .i64 t] 42)=w1 at *;go_quiet (fail)
 have HF2:=(Fr.refl [] w1).drewN nq;generalize w1.drewN nq=w2 at *;have q0:=HF2.cell q0 (by simp);have q1:=HF2.cell q1 (by simp);have q3:=HF2.cell q3 (by simp);have c1:=HF2.cell c1 (by simp);have c5:=HF2.cell c5 (by simp);have c6:=HF2.cell c6 (by simp);have HW2:=qB (HW.out.fr0 HF2);have HK2:=qB (zR (HF2.blk HK.out.1 (by simp)) (zR (HF2.blk HK.out.2.1 (by simp)) (HK.out.2.2.fr0 HF2)));clear HW HK HF2;by_cases hlt:t<o.now
 {
 have d2:decide (t<o.now)=true:=qO hlt;have HC:=qB (show o.addC u v t=10 by unfold Ob.addC;rw[qH HN.out];exact qI hlt);clear hlt;rw[d2];go_wp2_with fail
 go_ret;have e:=HC.out;refine⟨by rw[e];rfl,?_⟩;unfold Ob.add;rw[e,qH (by decide)];exact HW2.out.drop2};have d2:decide (t<o.now)=false:=qK hlt;rw[d2];have HA:=qB (tY (x:=t) (y:=o.m) (by have:=HO.out.n0;omega) ht2 (by have:=HO.out.m1;omega) HO.out.m2 w2.drew);have HT:=qB (Int.not_lt.1 hlt);clear hlt;have HQ:=qB (fun(w' :World) (hf:Fr [] w2.drew w')=>zR (hf.cell (((Fr.refl [] w2).drew).cell c1 (by simp)) (by simp)) (hf.cell (((Fr.refl [] w2).drew).cell q3 (by simp)) (by simp)));go_wp2_with fail
 go_region_held3 (fun w' => w'.cell? ⟨p, 1, none⟩ = some (.int .i64 o.m) /\ w'.cell? ⟨xb, 3, none⟩ = some (.int .i64 t))
   (first
     | go_keep
     | (exact HQ.out _ hF3))
   (first
     | (go_at_call 78;refine HA.out.mono ?_;rintro _ w3 ⟨rfl,hF3⟩))
 have HF3:=(Fr.refl [] w2).drew.trans' hF3;have q0:=HF3.cell q0 (by simp);have q1:=HF3.cell q1 (by simp);have q3:=HF3.cell q3 (by simp);have hK3:=zR (HF3.blk HK2.out.1 (by simp)) (zR (HF3.blk HK2.out.2.1 (by simp)) (HK2.out.2.2.fr0 HF3));have c2:=hK3.2.1.cell 2;have c3:=hK3.2.1.cell 3;have c6:=hK3.2.1.cell 6;have c7:=hK3.2.1.cell 7;simp only[rfC,zS,zT]at c2 c3 c6 c7;have HW3:=qB (HW2.out.fr0 HF3);have HK3:=qB hK3;have HF3:=qB HF3;clear HW2 HK2 HA HQ c1 c5 hK3 hF3;by_cases hov:9223372036854775807<t+o.m
 {
 have e1:eQ t o.m=7:=qH (by omega);have HC:=qB (show o.addC u v t=7 by unfold Ob.addC;rw[qH HN.out,qH (by have:=HT.out;omega)];exact qI (.inl hov));rw[e1];clear hov e1;go_wp2_with fail
 go_ret;have e:=HC.out;refine⟨by rw[e];rfl,?_⟩;unfold Ob.add;rw[e,qH (by decide)];exact HW3.out.drop2};have e1:eQ t o.m=0:=qI (by omega);rw[e1];by_cases hla:9223372036854775807<=o.last
 {
 have HC:=qB (show o.addC u v t=7 by unfold Ob.addC;rw[qH HN.out,qH (by have:=HT.out;omega)];exact qI (.inr hla));have d3:decide ((o.last:Int)≥9223372036854775807)=true:=qO (by omega);have d4:decide (o.last≥9223372036854775807)=true:=qO (by omega);have d5:decide (9223372036854775807<=o.last)=true:=qO (by omega);clear hov hla e1;go_wp2_with fail
 go_ret;have e:=HC.out;refine⟨by rw[e];rfl,?_⟩;unfold Ob.add;rw[e,qH (by decide)];exact HW3.out.drop2};have d3:decide ((o.last:Int)≥9223372036854775807)=false:=qK (by omega);have d4:decide (o.last≥9223372036854775807)=false:=qK (by omega);have d5:decide (9223372036854775807<=o.last)=false:=qK (by omega);have HOV:=qB (zR (Int.not_lt.1 hov) (Nat.not_le.1 hla));clear hov hla e1;have HL:=qB (aJU (HK3.out.2.2.fr0 (Fr.refl [] w3).drew) (Ob.lenE HO.out) t);have HQ:=qB (fun(w' :World) (hf:Fr [] w3.drew w')=>zR (hf.cell (((Fr.refl [] w3).drew).cell c6 (by simp)) (by simp)) (hf.cell (((Fr.refl [] w3).drew).cell q3 (by simp)) (by simp)));go_wp2_with fail
 go_region_held3 (fun w' => w'.cell? ⟨p, 6, none⟩ = some (.slice a o.L.length c) /\ w'.cell? ⟨xb, 3, none⟩ = some (.int .i64 t))
   (first
     | go_keep
     | (exact HQ.out _ hF4))
   (first
     | (go_at_call 125;refine HL.out.mono ?_;rintro _ w4 ⟨v4,rfl,hr4,hF4,hq4⟩))
 have HF4:=(Fr.refl [] w3).drew.trans' hF4;have q0:=HF4.cell q0 (by simp);have q1:=HF4.cell q1 (by simp);have q3:=HF4.cell q3 (by simp);have c2:=HF4.cell c2 (by simp);have c3:=HF4.cell c3 (by simp);have HW4:=qB (HW3.out.fr0 HF4);have hr4:aS w4 v4 (o.left t):=hr4;obtain⟨a4,k4,rfl⟩:=hr4.slice;obtain⟨m4,hm4⟩:∃m4,m4=(o.left t).length:=⟨_,rfl⟩;rw[<-hm4]at hr4 ⊢;have hml:m4<=o.L.length:=by rw[hm4];exact List.length_filter_le _ _
 have hl16:=zQ hml (Ob.lenE HO.out);have HR4:=qB hr4;have HM4:=qB hm4;clear HW3 HK3 HL HQ c6 c7 hF4 hq4 HF4 hr4 HF3 hml d3 d4 d5;by_cases hE:o.E<=m4
 {
 have d6:decide ((m4:Int)≥o.E)=true:=qO (by omega);have d7:decide (m4≥o.E)=true:=qO (by omega);have d8:decide (o.E<=m4)=true:=qO (by omega);have HC:=qB (show o.addC u v t=12 by unfold Ob.addC;rw[qH HN.out,qH (by have:=HT.out;omega),qH (by have:=HOV.out;omega),<-HM4.out];exact qI hE);clear hE hl16 hm4;go_wp2_with fail
 go_ret;have e:=HC.out;refine⟨by rw[e];rfl,?_⟩;unfold Ob.add;rw[e,qH (by decide)];exact HW4.out.drop2};have d6:decide ((m4:Int)≥o.E)=false:=qK (by omega);have d7:decide (m4≥o.E)=false:=qK (by omega);have d8:decide (o.E<=m4)=false:=qK (by omega);have HE:=qB hE;clear hE;have HI:=qB (wQ (HR4.out.fr0 (Fr.refl [] w4).drew) (show(o.left t).length<=16384 by rw[<-hm4];exact hl16));have hil:(bD (o.left t)).length<=2*16384:=zQ (eH _ _ rfl) (by rw[<-hm4];omega);have hil2:(cP u (bD (o.left t))).length<=2*16384+1:=zQ (kW _ _) (by omega);have HIL:=qB (show(bD (o.left t)).length<=60000/\(cP u (bD (o.left t))).length<=60000 from⟨by omega,by omega⟩);have HQ:=qB (fun(w' :World) (hf:Fr [] w4.drew w')=>zR (hf.cell (((Fr.refl [] w4).drew).cell c3 (by simp)) (by simp)) (zR (hf.cell (((Fr.refl [] w4).drew).cell q0 (by simp)) (by simp)) (hf.cell (((Fr.refl [] w4).drew).cell q1 (by simp)) (by simp))));obtain⟨il,hilx⟩:∃il,il=(Ob.idsUV (o.left t) u v).length:=⟨_,rfl⟩;have HIX:=qB hilx;clear hilx hil hil2 hm4 hl16;go_wp2_with fail
 go_region_held3 (fun w' => w'.cell? ⟨p, 3, none⟩ = some (.int .i64 o.V) /\ w'.cell? ⟨xb, 0, none⟩ = some (.int .u64 u) /\ w'.cell? ⟨xb, 1, none⟩ = some (.int .u64 v))
   (first
     | go_keep
     | (exact HQ.out _ hF7)
     | (exact HQ.out _ hF6)
     | (exact HQ.out _ hF5))
   (first
     | (go_at_call 126;refine(sQ hr6 (gN (iX _)) v HIL.out.2).mono ?_;rintro _ w7 ⟨v7,rfl,hr7,hF7', hq7⟩;have hF7:=hF6.trans' hF7'; obtain⟨a7,k7,rfl⟩:=hr7.slice;rw[show(cP v (cP u (bD (o.left t)))).length=il from HIX.out.symm])
     | (go_at_call 126;refine(sQ hr5 (iX _) u HIL.out.1).mono ?_;rintro _ w6 ⟨v6,rfl,hr6,hF6', hq6⟩;have hF6:=hF5.trans' hF6')
     | (go_at_call 79;refine HI.out.mono ?_;rintro _ w5 ⟨v5,rfl,hr5,hF5,hq5⟩))
 have HF7:=qB ((Fr.refl [] w4).drew.trans' hF7);have HW7:=qB (HW4.out.fr0 HF7.out);have q3:=HF7.out.cell q3 (by simp);clear hr7 hq7 hr6 hr5 hF5 hF6 hF6' hF7' hq5 hq6 HI HQ hF7 q0 q1 c2 c3 HW4 HF7 HIL HR4 d6 d7 d8;have HC:=qB (show o.addC u v t=if o.V<il then 11 else 0 by unfold Ob.addC;rw[qH HN.out,qH (by have:=HT.out;omega),qH (by have:=HOV.out;omega),<-HM4.out,qH HE.out,HIX.out]);clear HIX;by_cases hV:o.V<il
 {
 have d6:decide (il>o.V)=true:=qO (by omega);have d7:decide ((il:Int)>o.V)=true:=qO (by omega);have d8:decide ((o.V:Int)<il)=true:=qO (by omega);have d9:decide (o.V<il)=true:=qO (by omega);have HC:=qB (HC.out.trans (qI hV));clear hV;try rw[d7]
 try rw[d8]
 try rw[d6]
 try rw[d9]
 go_wp2_with fail
 go_ret;have e:=HC.out;refine⟨by rw[e];rfl,?_⟩;unfold Ob.add;rw[e,qH (by decide)];exact HW7.out.drop2};have d6:decide (il>o.V)=false:=qK (by omega);have d7:decide ((il:Int)>o.V)=false:=qK (by omega);have d8:decide ((o.V:Int)<il)=false:=qK (by omega);have d9:decide (o.V<il)=false:=qK (by omega);have HC:=qB (HC.out.trans (qH hV));clear hV;try rw[d7]
 try rw[d8]
 try rw[d6]
 try rw[d9]
 have HTK:=qB (show Calls Tryz.prog 72 #[aN p,.int .i64 t] w7 fun e w' =>e=.returned (.int .i64 0)/\Wd W w' (thF p (o.tick t)::thB xb 42 [.int .u64 u,.int .u64 v,.int .i64 wt,.int .i64 t]::ts) by
   have k:=aJW HW7.out HO.out t ht2;have e0:eQ t o.m=0:=qI HOV.out.1;have e1:cN o.m o.now t=0:=by unfold cN;rw[qH (by have:=HT.out;omega)];exact e0
   have e2:o.tickS t=o.tick t:=by unfold Ob.tickS;exact qI e1
   rw[e1,e2]at k;exact k)
 go_wp2_with fail
 refine HTK.out.mono ?_;rintro _ w8 ⟨rfl,hW8⟩;clear HTK HW7 d6 d7 d8 d9 q3;have e2:gL t o.m=t+o.m:=qI HOV.out.1;obtain⟨x,hx⟩:∃x:Lv,x=⟨0,o.last+1,u,v,wt,t,t+o.m⟩:=⟨_,rfl⟩;rw[e2,show t+o.m=x.x by rw[hx]];obtain⟨K8,⟨a1,c1,h1,h2,h3,rfl⟩,hs⟩:=hW8.open;have c7:=h1.cell 7;have z7:=h1.frozen 7;simp only[rfC,zS,zT]at c7;rw[show(o.tick t).last=o.last from rfl]at c7;have hw:IntKind.u64.wrap ((o.last:Int)+1)=(x.seq:Int):=by rw[hx];have:=HOV.out;simp[IntKind.wrap,IntKind.bits,IntKind.signed];omega
 have H8:=qB (zR h1 (zR h2 h3));have HS8:=qB (fun(w' :World) (t' :Th) (k:Stp w8 w' (p::(Value.slice a1 (o.tick t).L.length c1).ownBlock.toList) t')=>hs k);have HX:=qB hx;clear h1 h2 h3 hs hW8 hx e2;go_wp2_with fail
 clear c7 z7 hw;have HW9:=qB (HS8.out (w8.setCell ⟨p,7,none⟩ (.int .u64 x.seq)) (thF p { o.tick t with last:=x.seq }) ⟨_,⟨a1,c1,H8.out.1.set 7 (.int .u64 x.seq),H8.out.2.1.fr ((Fr.refl [p] w8).setCell _ _ (.inl (by simp))) (fun q hq hm=>H8.out.2.2 q hq (qP.1 hm)),H8.out.2.2,rfl⟩,(Fr.refl _ w8).setCell _ _ (.inl (by simp)),fun q hq=>.inl hq⟩);clear H8 HS8;generalize w8.setCell ⟨p,7,none⟩ (.int .u64 x.seq)=w9 at *;obtain⟨_,hbx,_⟩:=HW9.out.swap.get;clear a1 c1;obtain⟨K9,⟨a1,c1,h1,h2,h3,rfl⟩,hs⟩:=HW9.out.open;have HS9:=qB (fun(w' :World) (t' :Th) (k:Stp w9 w' (p::(Value.slice a1 (o.tick t).L.length c1).ownBlock.toList) t')=>hs k);obtain⟨l,hl⟩:∃l,l=o.left t:=⟨_,rfl⟩;obtain⟨n1,hn1⟩:∃n1,n1=l.length:=⟨_,rfl⟩;have h2:aS w9 (.slice a1 n1 c1) l:=by rw[hn1,hl];exact h2
 have h1:Blk w9 p 115 (rfC { o.tick t with last:=x.seq } (.slice a1 n1 c1)):=by rw[hn1,hl];exact h1
 have hbx:Blk w9 xb 42 [.int .u64 x.u,.int .u64 x.v,.int .i64 x.wt,.int .i64 x.t]:=by rw[HX.out];exact hbx
 have hle:l.length<=16384:=by rw[hl];exact zQ (List.length_filter_le _ _) (Ob.lenE HO.out)
 have H9:=qB (zR h1 (zR hbx (zR h2 h3)));have HLN:=qB (zR hl (zR hn1 hle));clear h1 hbx h2 h3 hs hl hn1 hle;refine tE (I17 p (.slice a1 n1 c1) l x w9) (by kernel_rfl) (by kernel_rfl) ⟨fun _=>lS.start w9 aRS,fun e=>(by cases e)⟩ ?_ ?_
 {
 refine(fun(H:∀a:Act,a.tmps.size=102->a.tmps[0]? =some (aN p)->a.tmps[3]? =some (.pointer (some ⟨xb,0,none⟩))->a.tmps[5]? =some (.int .i64 x.x)->∀f,rQ _ _ _ _ f a 0 _)=>H _ rfl rfl rfl rfl) fun a hsz t0 t3 t5 f=>?_;refine⟨?_,?_,?_,?_,?_,?_,?_,?_,?_,?_,?_,?_,?_,?_,?_,?_,?_,?_,?_,trivial⟩
 {
 intro b hb hf hg;have hbs:b.tmps.size=102:=hb.trans hsz;have T0:=bO ((hg 0 (by kernel_rfl)).trans t0);clear hf hg hb;refine eM rfl rfl (by kernel_rfl) (by decide) fun L w hd hnL hI=>?_;go_simp;exact hI.pass rfl (Fr.refl [] w) (dO (by decide) (by decide) (by decide) (by decide))}
 {
 intro b hb hf hg;have hbs:b.tmps.size=102:=hb.trans hsz;clear hf hg hb;refine eM rfl rfl (by kernel_rfl) (by decide) fun L w hd hnL hI=>?_;go_simp;exact hI.new trivial ((Fr.refl [] w).alloc _) (aS.mt w) aRP aRQ}
 {
 intro b hb hf hg;have hbs:b.tmps.size=102:=hb.trans hsz;have T0:=bO ((hg 0 (by kernel_rfl)).trans t0);clear hf hg hb;refine eM rfl rfl (by kernel_rfl) (by decide) fun L w hd hnL hI=>?_;go_simp;exact hI.pass rfl (Fr.refl [] w) (dO (by decide) (by decide) (by decide) (by decide))}
 {
 intro b hb hf hg;have hbs:b.tmps.size=102:=hb.trans hsz;have t86:b.tmps[86]? =some (f 2):=hf 2 86 (by decide) (by kernel_rfl) (by rw[hsz];decide);have T86:=bO t86;clear hf hg hb;refine eM rfl rfl (by kernel_rfl) (by decide) fun L w hd hnL hI=>?_;have e2:f 2=aN p:=hI.1 2 (bJ hd 2 (by decide));rw[e2]at T86;go_simp;exact hI.pass rfl (Fr.refl [] w) (dO (by decide) (by decide) (by decide) (by decide))}
 {
 intro b hb hf hg;have hbs:b.tmps.size=102:=hb.trans hsz;have t87:b.tmps[87]? =some (f 3):=hf 3 87 (by decide) (by kernel_rfl) (by rw[hsz];decide);have T87:=bO t87;clear hf hg hb;refine eM rfl rfl (by kernel_rfl) (by decide) fun L w hd hnL hI=>?_;have e3:f 3=.pointer (some ⟨p,0,none⟩):=hI.1 3 (bJ hd 3 (by decide));rw[e3]at T87;go_simp;exact hI.pass rfl (Fr.refl [] w) (dO (by decide) (by decide) (by decide) (by decide))}
 {
 intro b hb hf hg;have hbs:b.tmps.size=102:=hb.trans hsz;have t88:b.tmps[88]? =some (f 4):=hf 4 88 (by decide) (by kernel_rfl) (by rw[hsz];decide);have T88:=bO t88;clear hf hg hb;refine eM rfl rfl (by kernel_rfl) (by decide) fun L w hd hnL hI=>?_;have e4:f 4=.pointer (some ⟨p,6,none⟩):=hI.1 4 (bJ hd 4 (by decide));rw[e4]at T88;have c6:=(hI.fr.blk H9.out.1 (by simp)).cell 6;have c7:=(hI.fr.blk H9.out.1 (by simp)).cell 7;simp only[rfC,zS,zT]at c6 c7;go_simp;exact hI.pass rfl (Fr.refl [] w) (dO (by decide) (by decide) (by decide) (by decide))}
 {
 intro b hb hf hg;have hbs:b.tmps.size=102:=hb.trans hsz;have t85:b.tmps[85]? =some (f 1):=hf 1 85 (by decide) (by kernel_rfl) (by rw[hsz];decide);have T85:=bO t85;have t89:b.tmps[89]? =some (f 5):=hf 5 89 (by decide) (by kernel_rfl) (by rw[hsz];decide);have T89:=bO t89;clear hf hg hb;refine eM rfl rfl (by kernel_rfl) (by decide) fun L w hd hnL hI=>?_;have e5:f 5=.slice a1 n1 c1:=hI.1 5 (bJ hd 5 (by decide));have hr1:g17 l x L 1=some []:=qI ⟨bJ hd 1 (by decide),hnL⟩;have hy:aS w (f 5) l:=by rw[e5];exact H9.out.2.2.1.fr0 hI.fr
 refine aHU (.tmp 85) (.tmp 89) rfl (sR t85) (sR t89) (hI.row hr1) hy (by have:=HLN.out.2.2;simp;omega) fun v' w' k1 k2 k3=>?_;exact hI.app trivial hr1 k2 k1 k3 aRR}
 {
 intro b hb hf hg;have hbs:b.tmps.size=102:=hb.trans hsz;have T0:=bO ((hg 0 (by kernel_rfl)).trans t0);clear hf hg hb;refine eM rfl rfl (by kernel_rfl) (by decide) fun L w hd hnL hI=>?_;go_simp;exact hI.pass rfl (Fr.refl [] w) (dO (by decide) (by decide) (by decide) (by decide))}
 {
 intro b hb hf hg;have hbs:b.tmps.size=102:=hb.trans hsz;have t91:b.tmps[91]? =some (f 7):=hf 7 91 (by decide) (by kernel_rfl) (by rw[hsz];decide);have T91:=bO t91;clear hf hg hb;refine eM rfl rfl (by kernel_rfl) (by decide) fun L w hd hnL hI=>?_;have e7:f 7=aN p:=hI.1 7 (bJ hd 7 (by decide));rw[e7]at T91;go_simp;exact hI.pass rfl (Fr.refl [] w) (dO (by decide) (by decide) (by decide) (by decide))}
 {
 intro b hb hf hg;have hbs:b.tmps.size=102:=hb.trans hsz;have t92:b.tmps[92]? =some (f 8):=hf 8 92 (by decide) (by kernel_rfl) (by rw[hsz];decide);have T92:=bO t92;clear hf hg hb;refine eM rfl rfl (by kernel_rfl) (by decide) fun L w hd hnL hI=>?_;have e8:f 8=.pointer (some ⟨p,0,none⟩):=hI.1 8 (bJ hd 8 (by decide));rw[e8]at T92;go_simp;exact hI.pass rfl (Fr.refl [] w) (dO (by decide) (by decide) (by decide) (by decide))}
 {
 intro b hb hf hg;have hbs:b.tmps.size=102:=hb.trans hsz;have t93:b.tmps[93]? =some (f 9):=hf 9 93 (by decide) (by kernel_rfl) (by rw[hsz];decide);have T93:=bO t93;clear hf hg hb;refine eM rfl rfl (by kernel_rfl) (by decide) fun L w hd hnL hI=>?_;have e9:f 9=.pointer (some ⟨p,7,none⟩):=hI.1 9 (bJ hd 9 (by decide));rw[e9]at T93;have c6:=(hI.fr.blk H9.out.1 (by simp)).cell 6;have c7:=(hI.fr.blk H9.out.1 (by simp)).cell 7;simp only[rfC,zS,zT]at c6 c7;go_simp;exact hI.pass rfl (Fr.refl [] w) (dO (by decide) (by decide) (by decide) (by decide))}
 {
 intro b hb hf hg;have hbs:b.tmps.size=102:=hb.trans hsz;have T3:=bO ((hg 3 (by kernel_rfl)).trans t3);clear hf hg hb;refine eM rfl rfl (by kernel_rfl) (by decide) fun L w hd hnL hI=>?_;have hb:=hI.fr.blk H9.out.2.1 (by simp);have q0:=hb.cell 0;have q1:=hb.cell 1;have q2:=hb.cell 2;have q3:=hb.cell 3;simp only[zS,zT]at q0 q1 q2 q3;clear hb;go_simp;exact hI.pass rfl (Fr.refl [] w) (dO (by decide) (by decide) (by decide) (by decide))}
 {
 intro b hb hf hg;have hbs:b.tmps.size=102:=hb.trans hsz;have T5:=bO ((hg 5 (by kernel_rfl)).trans t5);clear hf hg hb;refine eM rfl rfl (by kernel_rfl) (by decide) fun L w hd hnL hI=>?_;go_simp;exact hI.pass rfl (Fr.refl [] w) (dO (by decide) (by decide) (by decide) (by decide))}
 {
 intro b hb hf hg;have hbs:b.tmps.size=102:=hb.trans hsz;have t94:b.tmps[94]? =some (f 10):=hf 10 94 (by decide) (by kernel_rfl) (by rw[hsz];decide);have T94:=bO t94;have t95:b.tmps[95]? =some (f 11):=hf 11 95 (by decide) (by kernel_rfl) (by rw[hsz];decide);have T95:=bO t95;have t96:b.tmps[96]? =some (f 12):=hf 12 96 (by decide) (by kernel_rfl) (by rw[hsz];decide);have T96:=bO t96;clear hf hg hb;refine eM rfl rfl (by kernel_rfl) (by decide) fun L w hd hnL hI=>?_;have e10:f 10=.int .u64 x.seq:=hI.1 10 (bJ hd 10 (by decide));rw[e10]at T94;have e11:f 11=.agg #[.int .u64 x.u,.int .u64 x.v,.int .i64 x.wt,.int .i64 x.t]:=hI.1 11 (bJ hd 11 (by decide));rw[e11]at T95;have e12:f 12=.int .i64 x.x:=hI.1 12 (bJ hd 12 (by decide));rw[e12]at T96;go_simp;exact hI.pass rfl (Fr.refl [] w) (dO (by decide) (by decide) (by decide) (by decide))}
 {
 intro b hb hf hg;have hbs:b.tmps.size=102:=hb.trans hsz;have t97:b.tmps[97]? =some (f 13):=hf 13 97 (by decide) (by kernel_rfl) (by rw[hsz];decide);have T97:=bO t97;clear hf hg hb;refine eM rfl rfl (by kernel_rfl) (by decide) fun L w hd hnL hI=>?_;have e13:f 13=.agg #[.int .i64 0,.int .u64 x.seq,.int .u64 x.u,.int .u64 x.v,.int .i64 x.wt,.int .i64 x.t,.int .i64 x.x]:=hI.1 13 (bJ hd 13 (by decide));rw[e13]at T97;go_simp;refine hI.new trivial ((Fr.refl [] w).alloc _) (c:=[x]) ?_ aRP aMN;rw[show x=⟨0,x.seq,x.u,x.v,x.wt,x.t,x.x⟩ by rw[HX.out]];exact aS.one w ⟨0,x.seq,x.u,x.v,x.wt,x.t,x.x⟩}
 {
 intro b hb hf hg;have hbs:b.tmps.size=102:=hb.trans hsz;have t90:b.tmps[90]? =some (f 6):=hf 6 90 (by decide) (by kernel_rfl) (by rw[hsz];decide);have T90:=bO t90;have t98:b.tmps[98]? =some (f 14):=hf 14 98 (by decide) (by kernel_rfl) (by rw[hsz];decide);have T98:=bO t98;clear hf hg hb;refine eM rfl rfl (by kernel_rfl) (by decide) fun L w hd hnL hI=>?_;have hr6:g17 l x L 6=some l:=qI ⟨bJ hd 6 (by decide),hnL⟩;have hr14:g17 l x L 14=some [x]:=qI ⟨bJ hd 14 (by decide),hnL⟩;refine aHU (.tmp 90) (.tmp 98) rfl (sR t90) (sR t98) (hI.row hr6) (hI.row hr14) (by have:=HLN.out.2.2;simp;omega) fun v' w' k1 k2 k3=>?_;exact hI.app trivial hr6 k2 k1 k3 aMO}
 {
 intro b hb hf hg;have hbs:b.tmps.size=102:=hb.trans hsz;have t84:b.tmps[84]? =some (f 0):=hf 0 84 (by decide) (by kernel_rfl) (by rw[hsz];decide);have T84:=bO t84;clear hf hg hb;refine eM rfl rfl (by kernel_rfl) (by decide) fun L w hd hnL hI=>?_;have e0:f 0=aN p:=hI.1 0 (bJ hd 0 (by decide));rw[e0]at T84;go_simp;exact hI.pass rfl (Fr.refl [] w) (dO (by decide) (by decide) (by decide) (by decide))}
 {
 intro b hb hf hg;have hbs:b.tmps.size=102:=hb.trans hsz;have t100:b.tmps[100]? =some (f 16):=hf 16 100 (by decide) (by kernel_rfl) (by rw[hsz];decide);have T100:=bO t100;clear hf hg hb;refine eM rfl rfl (by kernel_rfl) (by decide) fun L w hd hnL hI=>?_;have e16:f 16=.pointer (some ⟨p,0,none⟩):=hI.1 16 (bJ hd 16 (by decide));rw[e16]at T100;go_simp;exact hI.pass rfl (Fr.refl [] w) (dO (by decide) (by decide) (by decide) (by decide))}
 {
 intro b hb hf hg;have hbs:b.tmps.size=102:=hb.trans hsz;have t101:b.tmps[101]? =some (f 17):=hf 17 101 (by decide) (by kernel_rfl) (by rw[hsz];decide);have T101:=bO t101;have t99:b.tmps[99]? =some (f 15):=hf 15 99 (by decide) (by kernel_rfl) (by rw[hsz];decide);have T99:=bO t99;clear hf hg hb;refine aM rfl rfl fun L w hc hd hnL hI=>?_;have hI:=hI.1 hnL;have e17:f 17=.pointer (some ⟨p,6,none⟩):=hI.1 17 (bJ hd 17 (by decide));rw[e17]at T101;have hr15:g17 l x L 15=some (l++[x]):=qI (bJ hd 15 (by decide));have hr:=hI.row hr15;have hq:=(hI.2.2.1 15 _ hr15).2;have hF:=hI.fr;have hb:=hF.blk H9.out.1 (by simp);have c6:=hb.cell 6;have z6:=hb.frozen 6;simp only[rfC,zS,zT]at c6;obtain⟨y,hy⟩:∃y,y=f 15:=⟨_,rfl⟩;rw[<-hy]at T99 hr hq;obtain⟨a15,c15,rfl⟩:=hr.slice;clear hI;go_simp;refine⟨fun e=>(by rw[dK]at e;cases e),fun _=>⟨w,hF,?_⟩⟩;rw[aT _ _ (by decide),<-hy];exact⟨hr,hq,by rw[show(l++[x]).length=l.length+1 from zO]⟩}}
 {
 rintro f L wt hL hI;obtain⟨w10,hF,hr,hq,rfl⟩:=hI.2 (hL 18 (by simp));simp only[aFQ];go_simp;have hb:=hF.blk H9.out.1 (by simp);obtain⟨y,hy⟩:∃y,y=f 15:=⟨_,rfl⟩;rw[<-hy]at hr hq ⊢;obtain⟨a15,c15,rfl⟩:=hr.slice;have hb2:=hb.set 6 (.slice a15 (l++[x]).length c15);have HFin:=qB (zR hF (zR hr (zR hq hb2)));clear hF hr hq hb hb2 hy hI hL;go_wp2
 go_ret;obtain⟨hF,hr,hq,hb⟩:=HFin.out;have e:=HC.out;refine⟨by rw[e];rfl,?_⟩;unfold Ob.add;rw[e,qI rfl];have hlt:=H9.out.1.lt;have eL:((o.tick t).put u v wt).L=l++[x]:=by rw[HX.out,HLN.out.1];rfl
 refine(show Wd W _ (thF p ((o.tick t).put u v wt)::thB xb 42 [.int .u64 u,.int .u64 v,.int .i64 wt,.int .i64 t]::ts) from HS9.out _ _ ⟨_,⟨a15,c15,?_,?_,?_,rfl⟩,?_,?_⟩).drop2
 {
 rw[eL];have:rfC ((o.tick t).put u v wt) (.slice a15 (l++[x]).length c15)=(rfC { o.tick t with last:=x.seq } (.slice a1 n1 c1)).set 6 (.slice a15 (l++[x]).length c15):=by rw[HX.out];rfl
 rw[this];rw[show(l++[x]).length=l.length+1 from zO]at hb ⊢;exact hb}
 {
 rw[eL];exact hr.fr ((Fr.refl [p] _).setCell _ _ (.inl (by simp))) (fun q hq' hm=>by have:=hq q hq'; have:=qP.1 hm;omega)}
 {
 rw[eL];intro q hq' e;have:=hq q hq';omega}
 · exact(hF.mono (by simp)).trans ((Fr.refl [p] _).setCell _ _ (.inl (by simp))) (fun b hb=>.inl (by rw[qP.1 hb];simp))
 {
 intro q hq';rcases qF.1 hq' with rfl|hq'
 · exact .inl (by simp)
 · exact .inr (hq q (by rw[<-eL];simpa using hq'))}}
end
section
variable {W wr w w' :World} {p:Nat} {o:Ob} {ts:List Th} {a:Option Addr} {c n:Nat}
theorem aXZ{x1 x2 x3 x4 x5 x7 x8:Value}(h:w.cell? ⟨p,1,none⟩=some x1/\w.cell? ⟨p,2,none⟩=some x2/\w.cell? ⟨p,3,none⟩=some x3/\w.cell? ⟨p,4,none⟩=some x4/\w.cell? ⟨p,5,none⟩=some x5/\w.cell? ⟨p,7,none⟩=some x7/\w.cell? ⟨p,8,none⟩=some x8)(hf:Fr [] w w'):
    w'.cell? ⟨p,1,none⟩=some x1/\w'.cell? ⟨p,2,none⟩=some x2/\w'.cell? ⟨p,3,none⟩=some x3/\w'.cell? ⟨p,4,none⟩=some x4/\w'.cell? ⟨p,5,none⟩=some x5/\w'.cell? ⟨p,7,none⟩=some x7/\w'.cell? ⟨p,8,none⟩=some x8:=
  ⟨hf.cell h.1 (by simp),hf.cell h.2.1 (by simp),hf.cell h.2.2.1 (by simp),hf.cell h.2.2.2.1 (by simp),hf.cell h.2.2.2.2.1 (by simp),hf.cell h.2.2.2.2.2.1 (by simp),hf.cell h.2.2.2.2.2.2 (by simp)⟩
theorem aCL{v:Value}(h:Blk w p 115 (rfC o v)):w.cell? ⟨p,1,none⟩=some (.int .i64 o.m)/\w.cell? ⟨p,2,none⟩=some (.int .i64 o.E)/\w.cell? ⟨p,3,none⟩=some (.int .i64 o.V)/\w.cell? ⟨p,4,none⟩=some (.int .i64 o.D)/\w.cell? ⟨p,5,none⟩=some (.int .i64 o.now)/\w.cell? ⟨p,7,none⟩=some (.int .u64 o.last)/\w.cell? ⟨p,8,none⟩=some (.int .u64 o.gone):=
  ⟨h.cell 1,h.cell 2,h.cell 3,h.cell 4,h.cell 5,h.cell 7,h.cell 8⟩
theorem aWL(h:Wd W wr (thF p o::ts))(hl:o.L.length<=16384):Calls Tryz.prog 73 #[aN p] wr fun e w' =>∃q,e=.returned (aN q)/\Wd W w' (thF q o::thF p o::ts):=by
 obtain⟨K,a,c,h1,h2,_⟩:=h.get;have HV:=qB (oL h1);have HL:=qB (aJV (h.fr0 (Fr.refl [] wr).drew) hl);have hh:=aXZ (aCL h1) (Fr.refl [] wr).drew;obtain⟨c1,c2,c3,c4,c5,c7,c8⟩:=aCL h1;have HQ:=qB (fun(w' :World) (v:Value) (k:Wd W w' (thV v o.L::thF p o::ts))=>by
   obtain⟨_,_,_,k1,_⟩:=k.swap.get;exact aCL k1)
 obtain⟨n,hn⟩:∃n,n=o.L.length:=⟨_,rfl⟩;rw[<-hn]at HL;have Hn:=qB hn;clear h h1 h2 hn;go_enter Tryz.func73,Tryz.ntmps73
 go_wp2_with fail
 refine HV.out.mono ?_;rintro _ _ ⟨rfl,rfl⟩;clear HV;go_wp2_with fail
 go_region_held3 (fun w' => w'.cell? ⟨p, 1, none⟩ = some (.int .i64 o.m) /\ w'.cell? ⟨p, 2, none⟩ = some (.int .i64 o.E) /\ w'.cell? ⟨p, 3, none⟩ = some (.int .i64 o.V) /\ w'.cell? ⟨p, 4, none⟩ = some (.int .i64 o.D) /\ w'.cell? ⟨p, 5, none⟩ = some (.int .i64 o.now) /\ w'.cell? ⟨p, 7, none⟩ = some (.int .u64 o.last) /\ w'.cell? ⟨p, 8, none⟩ = some (.int .u64 o.gone))
   (first
     | go_keep
     | (exact HQ.out _ _ hW3)
     | (exact aXZ (by assumption) ((Fr.refl [] _).alloc _)))
   (first
     | (go_at_call 66;refine HL.out.mono ?_;rintro _ w3 ⟨a3,k3,rfl,hW3⟩))
 have HN:=qB (show Wd W (w3.alloc (.cells #[.bool true,.int .i64 o.m,.int .i64 o.E,.int .i64 o.V,.int .i64 o.D,.int .i64 o.now,.slice a3 n k3,.int .u64 o.last,.int .u64 o.gone] 115)) (thF w3.heap.size o::thF p o::ts) by
   obtain⟨K,⟨k1,rfl⟩,hs⟩:=hW3.open;have hq:=fun q (hq:(Value.slice a3 n k3).ownBlock=some q)=>k1.lt hq;have hF:Fr [] w3 (w3.alloc (.cells #[.bool true,.int .i64 o.m,.int .i64 o.E,.int .i64 o.V,.int .i64 o.D,.int .i64 o.now,.slice a3 n k3,.int .u64 o.last,.int .u64 o.gone] 115)):=(Fr.refl [] w3).alloc _;have hb:Blk (w3.alloc (.cells #[.bool true,.int .i64 o.m,.int .i64 o.E,.int .i64 o.V,.int .i64 o.D,.int .i64 o.now,.slice a3 n k3,.int .u64 o.last,.int .u64 o.gone] 115)) w3.heap.size 115 (rfC o (.slice a3 n k3)):=Blk.new w3 (rfC o (.slice a3 n k3)) 115;rw[Hn.out]at hb hF hq k1 hs ⊢;refine hs ⟨w3.heap.size::(Value.slice a3 o.L.length k3).ownBlock.toList,⟨a3,k3,hb,k1.fr0 hF,fun q hq' e=>?_,rfl⟩,hF.mono (by simp),fun q hq' =>?_⟩
   · have:=hq q hq'; omega
   · rcases qF.1 hq' with rfl | hq'
     · exact .inr (qS _)
     · exact .inl hq')
 clear c1 c2 c3 c4 c5 c7 c8 hh HQ HL hW3;go_wp2
 go_ret;exact⟨_,rfl,HN.out⟩
end
structure Prt (L:List Lv) (f:Int) (u:Nat) (l:List Nat):Prop where
  lt:l.Pairwise (· < ·)
  me:u∈l
  rl:∀x∈l,Rl L f u x
def oM(f:Int)(l:List Nat)(e:Lv):Prop:=f<=e.x->(e.u∈l↔e.v∈l)
section
variable {L:List Lv} {f:Int} {u:Nat} {l:List Nat}
theorem Prt.one:Prt L f u [u]:=⟨List.pairwise_singleton ..,by simp,fun x hx=>by rw[qP.1 hx];exact .refl _⟩
theorem Prt.put(h:Prt L f u l){e:Lv}(he:e∈L)(hx:f<=e.x)(hm:e.u∈l∨e.v∈l):Prt L f u (cP e.v (cP e.u l)):=by
 refine⟨gN (gN h.lt),by rw[fA,fA];exact .inr (.inr h.me),fun x hx' =>?_⟩;have hu:Rl L f u e.u:=hm.elim (h.rl _) fun k=>(h.rl _ k).trans (Rl.edge' he hx);have hv:Rl L f u e.v:=hm.elim (fun k=>(h.rl _ k).trans (Rl.edge he hx)) (h.rl _);rw[fA,fA]at hx';rcases hx' with rfl|rfl|hx'
 · exact hv
 · exact hu
 · exact h.rl x hx'
theorem Prt.shut(h:Prt L f u l)(hc:∀e∈L,oM f l e):∀x,x∈l↔Rl L f u x:=fun x=>
  ⟨h.rl x,fun hx=>(Rl.inv (fun y=>y∈l) (fun e he hx=>hc e he hx) hx).1 h.me⟩
theorem Prt.len(h:Prt L f u l):l.length<=(bD L).length+1:=by
 have hs:∀x∈l,x∈u::bD L:=fun x hx=>by
   by_cases e:u=x
   · subst e;exact List.mem_cons_self
   · obtain ⟨d, hd, h1, _⟩ := (h.rl x hx).last e
     exact List.mem_cons_of_mem _ (dA.2 ⟨d,hd,h1⟩)
 have hn:l.Nodup:=h.lt.imp fun h=>Nat.ne_of_lt h;simpa using jW hn hs
theorem aAG{x:Nat}(hp:l.Pairwise (· < ·))(hx:x∉l):(cP x l).length=l.length+1:=by
 have h1:(cP x l).Perm (x::l):=(List.perm_ext_iff_of_nodup ((gN hp).imp fun h=>Nat.ne_of_lt h) (qX.2 ⟨hx,hp.imp fun h=>Nat.ne_of_lt h⟩)).2 fun y=>by rw[fA];simp
 simpa using h1.length_eq
theorem Prt.more(h:Prt L f u l){e:Lv}(hm:(e.u∈l/\e.v∉l)∨(e.u∉l/\e.v∈l)):l.length<(cP e.v (cP e.u l)).length:=by
 rcases hm with⟨h1,h2⟩|⟨h1,h2⟩
 · rw[rL h.lt h1,aAG h.lt h2];omega
 · rw[rL (gN h.lt) (fA.2 (.inr h2)),aAG h.lt h1];omega
end
def bCM:Value->Nat
  | .slice _ n _=>n
  | _=>0
def aRT(M:Nat)(x b:Value):Nat:=match b with|.bool true=>1+(M-bCM x)|_=>0
section
variable {w w' :World} {p:Nat} {o:Ob} {a:Option Addr} {c:Nat}
theorem tZ(hb:Blk w p 115 (rfC o (.slice a o.L.length c)))(hr:aS w (.slice a o.L.length c) o.L)(hl:o.L.length<=16384)(u:Nat)(f:Int):
    Calls Tryz.prog 118 #[aN p,.int .u64 u,.int .i64 f] w fun e w' =>∃v l,e=.returned v/\cQ w' v l/\Fr [] w w' /\ (∀q,v.ownBlock=some q->w.heap.size<=q)/\l.Pairwise (· < ·)/\(∀x,x∈l↔Rl o.L f u x)/\l.length<=(bD o.L).length+1:=by
  obtain⟨M,hM⟩:∃M,M=(bD o.L).length+1:=⟨_,rfl⟩;have hMl:M<=32769:=by rw[hM];have:=eH o.L _ rfl;omega
  obtain⟨n,hn⟩:∃n,n=o.L.length:=⟨_,rfl⟩;rw[<-hn]at hb hr hl;have H:=qB (zR hb (zR hr (zR hn hM)));have c6:=hb.cell 6;simp only[rfC,zS,zT]at c6;clear hb hr hn hM;go_enter Tryz.func118,Tryz.ntmps118
  go_wp2_with fail
  have HS:=qB (show cQ (w.alloc (.cells #[.int .u64 u] 26)) (.slice (some ⟨w.heap.size,0,none⟩) 1 1) [u]/\Fr [] w (w.alloc (.cells #[.int .u64 u] 26)) from
    ⟨⟨by simp[eB],.inr ⟨w.heap.size,1,#[.int .u64 u],rfl,zB _,Blk.new w [.int .u64 u] 26,qS _,by decide,by simp,by simp[eB]⟩⟩,(Fr.refl [] w).alloc _⟩)
  go_loopw [7,8] (fun x y wr=>∃(a1:Option Addr) (n1 c1:Nat) (b:Bool) (out:List Nat),x=.slice a1 n1 c1/\y=.bool b/\Hid (n1=out.length/\cQ wr (.slice a1 n1 c1) out/\Fr [] w wr/\(∀q,(Value.slice a1 n1 c1).ownBlock=some q->w.heap.size<=q)/\Prt o.L f u out/\(b=false->∀e∈o.L,oM f out e))) (fun x y _=>aRT M x y)
  case atStart=>exact⟨_,1,1,true,[u],rfl,rfl,qB ⟨rfl,HS.out.1,HS.out.2,fun q hq=>by simp[Value.ownBlock]at hq;omega,Prt.one,fun e=>by cases e⟩⟩
  case round=>
    clear HS;obtain⟨a1,n1,c1,b,out,rfl,rfl,HR⟩:=hrel;rename World=>wr
    cases b with
    | false=>
      go_wp2_with fail
      go_ret;obtain⟨r1,r2,r3,r4,r5,r6⟩:=HR.out;refine⟨_,rfl,out,r2,r3,r4,r5.lt,r5.shut (r6 trivial),r5.len⟩
    | true=>
      have hn1:n1<=M:=by have h1:=HR.out.1;have h2:=HR.out.2.2.2.2.1.len;have h3:=H.out.2.2.2;omega
      have HN1:=qB (zR hn1 (zR HR.out.1 hMl));clear hn1;go_wp2_with fail
      go_loopw [7,8,9] (fun x y z wr=>∃(a2:Option Addr) (n2 c2:Nat) (b:Bool) (i:Nat) (out' :List Nat),x=.slice a2 n2 c2/\y=.bool b/\z=.int .i64 i/\i<=n/\Hid (n2=out'.length/\cQ wr (.slice a2 n2 c2) out' /\ Fr [] w wr/\(∀q,(Value.slice a2 n2 c2).ownBlock=some q->w.heap.size<=q)/\Prt o.L f u out' /\ (b=false->out' =out/\∀j (hj:j<o.L.length),j<i->oM f out o.L[j])/\(b=true->n1<n2))) (fun _ _ z _=>n-(intOf z).toNat)
      case atStart=>exact⟨a1,n1,c1,false,0,out,rfl,rfl,rfl,zB _,qB ⟨HR.out.1,HR.out.2.1,HR.out.2.2.1,HR.out.2.2.2.1,HR.out.2.2.2.2.1,fun _=>⟨rfl,fun j hj h=>by omega⟩,fun e=>by cases e⟩⟩
      case round=>
        clear HR;obtain⟨a2,n2,c2,b,i,out', rfl,rfl,rfl,hi,HR⟩:=hrel;rename_i wr;have c6:=HR.out.2.2.1.cell c6 (by simp);by_cases hlt:i<n
        · have hiL : i < o.L.length := by have := H.out.2.2.1; omega
          obtain⟨b1,c1', e1,hx1,hx2,hx3,r1⟩:=(H.out.2.1.fr0 HR.out.2.2.1).at hiL;rw[<-H.out.2.2.1]at e1;simp only[qY,true_and]at e1;obtain⟨rfl,rfl⟩:=e1;clear hx1 hx2 hx3;have hi1:(i:Int)<n:=by omega
          have hi0:(0:Int)<=i:=by omega
          obtain⟨x0,x1,x2,x3,x4,x5,x6⟩:=r1;clear x0 x1;obtain⟨x,hx⟩:∃x,x=o.L[i]'hiL:=⟨_,rfl⟩;rw[<-hx]at x2 x3 x4 x5 x6;have HX:=qB (show o.L[i]? =some x by rw[hx];exact qT hiL);clear hx hiL;go_wp2_with fail
          clear x2 x3 x4 x5;have hF1:Fr [] wr (wr.alloc (.cells #[.int .u64 x.u,.int .u64 x.v,.int .i64 x.wt,.int .i64 x.t] 42)):=(Fr.refl [] wr).alloc _;have hbx:=Blk.new wr [.int .u64 x.u,.int .u64 x.v,.int .i64 x.wt,.int .i64 x.t] 42;have x6:=hF1.cell x6 (by simp);have c6:=hF1.cell c6 (by simp);have q0:=hbx.cell 0;have q1:=hbx.cell 1;simp only[zS,zT]at q0 q1;have HRw:=qB (show cQ (wr.alloc (.cells #[.int .u64 x.u,.int .u64 x.v,.int .i64 x.wt,.int .i64 x.t] 42)) (.slice a2 n2 c2) out' /\ Fr [] w (wr.alloc (.cells #[.int .u64 x.u,.int .u64 x.v,.int .i64 x.wt,.int .i64 x.t] 42)) from⟨HR.out.2.1.fr0 hF1,HR.out.2.2.1.trans' hF1⟩);obtain⟨rb,hrb⟩:∃rb,rb=wr.heap.size:=⟨_,rfl⟩;rw[<-hrb]at q0 q1 ⊢;have HP:=qB (show n2=out'.length/\(∀q,(Value.slice a2 n2 c2).ownBlock=some q->w.heap.size<=q)/\Prt o.L f u out' /\ (b=false->out' =out/\∀j (hj:j<o.L.length),j<i->oM f out o.L[j])/\(b=true->n1<n2) from⟨HR.out.1,HR.out.2.2.2⟩);clear hF1 hbx hrb HR;generalize wr.alloc (.cells #[.int .u64 x.u,.int .u64 x.v,.int .i64 x.wt,.int .i64 x.t] 42)=w2 at *;have hol:out'.length<=60000:=by have h1:=HP.out.2.2.1.len;have h2:=eH o.L _ rfl;have h3:=H.out.2.2.1;omega
          have HOL:=qB hol;clear hol;obtain⟨bu,hbu⟩:∃bu,bu=decide (x.u∈out'):=⟨_,rfl⟩;obtain⟨bv,hbv⟩:∃bv,bv=decide (x.v∈out'):=⟨_,rfl⟩;have HHu:=qB (fun(nq:Nat)=>nG (HRw.out.1.fr0 ((Fr.refl [] w2).drewN nq)) x.u (by have:=HOL.out;omega));have HHv:=qB (fun(nq:Nat)=>nG (HRw.out.1.fr0 ((Fr.refl [] w2).drewN nq)) x.v (by have:=HOL.out;omega));rw[<-hbu]at HHu;rw[<-hbv]at HHv;have HB:=qB (zR hbu hbv);clear hbu hbv;by_cases hfx:f<=x.x
          · have d1 : decide (x.x ≥ f) = true := qO hfx
            have d2:decide (f<=x.x)=true:=qO hfx;by_cases heq:bu=bv
            · have HS := qB (show oM f out' x from fun _ => by have h1 := HB.out.1; have h2 := HB.out.2; rw [heq, h2] at h1; exact (decide_eq_decide.1 h1).symm)
              subst heq;clear hfx;go_quiet (first|(go_at_call 128;with_reducible refine qR (HHu.out _))|(go_at_call 128;with_reducible refine qR (HHv.out _)))
              have HF3:=(Fr.refl [] w2).drewN nq;generalize w2.drewN nq=w3 at *;have HN:Hid (n2=out'.length/\cQ w3 (.slice a2 n2 c2) out' /\ Fr [] w w3/\(∀q,(Value.slice a2 n2 c2).ownBlock=some q->w.heap.size<=q)/\Prt o.L f u out' /\ (b=false->out' =out/\∀j (hj:j<o.L.length),j<i+1->oM f out o.L[j])/\(b=true->n1<n2)):=qB (by
                obtain⟨p1,p2,p3,p4,p5⟩:=HP.out;refine⟨p1,HRw.out.1.fr0 HF3,HRw.out.2.trans' HF3,p2,p3,fun e=>⟨(p4 e).1,fun j hj hji=>?_⟩,p5⟩;by_cases hji' :j<i
                · exact(p4 e).2 j hj hji'
                · have hj' : j = i := by omega
                  subst hj';have hx:o.L[j]'hj=x:=by have:=HX.out;rw[qT hj]at this;exact Option.some.inj this
                  rw[hx,<-(p4 e).1];exact HS.out)
              clear HF3 HP HRw q0 q1 x6;go_wp2_with fail
              go_roundw
              case rel=>exact⟨a2,n2,c2,b,i+1,out', rfl,rfl,by go_num,by omega,HN⟩
              case measure=>simp[intOf];omega
            · have hcase : (bu = true /\ bv = false) ∨ (bu = false /\ bv = true) := by cases bu <;> cases bv <;> simp_all
              clear heq hfx;rcases hcase with⟨rfl,rfl⟩|⟨rfl,rfl⟩
              all_goals
                go_quiet (first|(go_at_call 128;with_reducible refine qR (HHu.out _))|(go_at_call 128;with_reducible refine qR (HHv.out _)))
                have HF3:=(Fr.refl [] w2).drewN nq;generalize w2.drewN nq=w3 at *;have q0:=HF3.cell q0 (by simp);have q1:=HF3.cell q1 (by simp);have HG:=qB (show f<=x.x/\((x.u∈out' /\ x.v∉out')∨(x.u∉out' /\ x.v∈out')) from⟨of_decide_eq_true d2,by have h1:=HB.out.1;have h2:=HB.out.2;first|exact .inl (by simpa using zR h1 h2)|exact .inr (by simpa using zR h1 h2)⟩)
                have HPut:=qB (show ∀w', Fr [] w3 w' -> Calls Tryz.prog 126 #[.slice a2 n2 c2,.int .u64 x.u] w' fun e w1=>∃a1 n1 k1,e=.returned (.slice a1 n1 k1)/\Fr [] w3 w1 /\
                    Calls Tryz.prog 126 #[.slice a1 n1 k1,.int .u64 x.v] w1 fun e w2=>∃a2 n2 k2,e=.returned (.slice a2 n2 k2)/\cQ w2 (.slice a2 n2 k2) (cP x.v (cP x.u out'))/\Fr [] w3 w2/\∀q,(Value.slice a2 n2 k2).ownBlock=some q->w.heap.size<=q from fun w' hf=>by
                  have hol:=HOL.out;have hr:=(HRw.out.1.fr0 HF3).fr0 hf;refine(sQ hr HP.out.2.2.1.lt x.u (by omega)).mono ?_;rintro _ w1 ⟨v1,rfl,h1,hF1,hq1⟩;obtain⟨a1,k1,rfl⟩:=h1.slice;refine⟨_,_,_,rfl,hf.trans' hF1,(sQ h1 (gN HP.out.2.2.1.lt) x.v (by have:=kW x.u out'; have:=HP.out.2.2.1.len;have:=eH o.L _ rfl;have:=H.out.2.2.1;omega)).mono ?_⟩;rintro _ w2 ⟨v2,rfl,h2,hF2,hq2⟩;obtain⟨a2,k2,rfl⟩:=h2.slice;refine⟨_,_,_,rfl,h2,(hf.trans' hF1).trans' hF2,fun q hq=>?_⟩;have s0:=((HRw.out.2.trans' HF3).trans' hf).size;have s1:=hF1.size;rcases hq2 q hq with e|e
                  · rcases hq1 q e with e | e
                    · exact HP.out.2.1 q e
                    · omega
                  · omega)
                have HW3:=qB (HRw.out.2.trans' HF3);have HQ:=qB (fun(w' :World) (hf:Fr [] w3 w')=>zR (hf.cell q0 (by simp)) (hf.cell q1 (by simp)));clear HF3 HRw x6;go_wp2_with fail
                go_region_held3 (fun w' => w'.cell? ⟨rb, 0, none⟩ = some (.int .u64 x.u) /\ w'.cell? ⟨rb, 1, none⟩ = some (.int .u64 x.v))
                  (first
                    | go_keep
                    | exact HQ.out _ hfB
                    | exact HQ.out _ hfA)
                  (first
                    | (go_at_call 126;with_reducible refine Calls.mono (HPut.out _ (Fr.refl [] w3).drew) ?_;rintro r wA ⟨a3,n3,k3,rfl,hfA,hcA⟩)
                    | (go_at_call 126;with_reducible refine Calls.mono hcA ?_;rintro r wB ⟨a4,n4,k4,rfl,hB,hfB,hqB⟩))
                have HN:Hid (n4=(cP x.v (cP x.u out')).length/\cQ wB (.slice a4 n4 k4) (cP x.v (cP x.u out'))/\Fr [] w wB/\(∀q,(Value.slice a4 n4 k4).ownBlock=some q->w.heap.size<=q)/\Prt o.L f u (cP x.v (cP x.u out'))/\(true=false->cP x.v (cP x.u out')=out/\∀j (hj:j<o.L.length),j<i+1->oM f out o.L[j])/\(true=true->n1<n4)):=qB (by
                  obtain⟨p1,p2,p3,p4,p5⟩:=HP.out;obtain⟨a5,k5,e5⟩:=hB.slice;simp only[qY]at e5;have hm:=p3.more HG.out.2;have hxm:x∈o.L:=List.mem_of_getElem? HX.out;refine⟨e5.2.1,hB,HW3.out.trans' hfB,hqB,p3.put hxm HG.out.1 (HG.out.2.imp And.left And.right),fun e=>(by cases e),fun _=>?_⟩;have:=e5.2.1;cases b with
                  | true=>have:=p5 rfl;omega
                  | false=>have h1:=(p4 rfl).1;have h2:=HN1.out.2.1;rw[h1]at hm this p1;omega)
                clear hB hfB hqB hcA hfA HPut HQ HP q0 q1;go_wp2_with fail
                go_roundw
                case rel=>exact⟨a4,n4,k4,true,i+1,_,rfl,rfl,by go_num,by omega,HN⟩
                case measure=>simp[intOf];omega
          · have d1 : decide (x.x ≥ f) = false := qK hfx
            have d2:decide (f<=x.x)=false:=qK hfx;have HS:=qB (show oM f out' x from fun h=>(hfx h).elim);clear hfx;go_quiet (fail)
            have HF3:=(Fr.refl [] w2).drewN nq;generalize w2.drewN nq=w3 at *;have HN:Hid (n2=out'.length/\cQ w3 (.slice a2 n2 c2) out' /\ Fr [] w w3/\(∀q,(Value.slice a2 n2 c2).ownBlock=some q->w.heap.size<=q)/\Prt o.L f u out' /\ (b=false->out' =out/\∀j (hj:j<o.L.length),j<i+1->oM f out o.L[j])/\(b=true->n1<n2)):=qB (by
              obtain⟨p1,p2,p3,p4,p5⟩:=HP.out;refine⟨p1,HRw.out.1.fr0 HF3,HRw.out.2.trans' HF3,p2,p3,fun e=>⟨(p4 e).1,fun j hj hji=>?_⟩,p5⟩;by_cases hji' :j<i
              · exact(p4 e).2 j hj hji'
              · have hj' : j = i := by omega
                subst hj';have hx:o.L[j]'hj=x:=by have:=HX.out;rw[qT hj]at this;exact Option.some.inj this
                rw[hx,<-(p4 e).1];exact HS.out)
            clear HF3 HP HRw q0 q1 x6;go_wp2_with fail
            go_roundw
            case rel=>exact⟨a2,n2,c2,b,i+1,out', rfl,rfl,by go_num,by omega,HN⟩
            case measure=>simp[intOf];omega
        · obtain rfl : i = n := by omega
          have HN:Hid (n2=out'.length/\cQ wr (.slice a2 n2 c2) out' /\ Fr [] w wr/\(∀q,(Value.slice a2 n2 c2).ownBlock=some q->w.heap.size<=q)/\Prt o.L f u out' /\ (b=false->∀e∈o.L,oM f out' e)):=qB (by
            obtain⟨p1,p2,p3,p4,p5,p6,p7⟩:=HR.out;refine⟨p1,p2,p3,p4,p5,fun e d hd=>?_⟩;obtain⟨j,hj,rfl⟩:=List.mem_iff_getElem.1 hd;rw[(p6 e).1];exact(p6 e).2 j hj (by have:=H.out.2.2.1;omega))
          have HM:Hid (aRT M (.slice a2 n2 c2) (.bool b)<aRT M (.slice a1 n1 c1) (.bool true)):=qB (by
            obtain⟨p1,p2,p3,p4,p5,p6,p7⟩:=HR.out;have h1:=p5.len;have h2:=H.out.2.2.2;cases b with
            | true=>have:=p7 rfl;show 1+(M-n2)<1+(M-n1);omega
            | false=>show 0<1+(M-n1);omega)
          clear HR;go_wp2_with fail
          go_roundw
          case rel=>exact⟨a2,n2,c2,b,out', rfl,rfl,HN⟩
          case measure=>exact HM.out
end
end Go.Proofs.YtgmnemndjjmgkaaGreat
namespace Go.Proofs.YtgmnemndjjmgkaaGreat
open Go.RowKit Classical
def wV(L:List Lv)(l:List Nat):Nat:=if ∀x∈l,x∈bD L then 0 else 13
section
variable {w w' :World} {p:Nat} {o:Ob} {a:Option Addr} {c:Nat}
theorem wW(hb:Blk w p 115 (rfC o (.slice a o.L.length c)))(hr:aS w (.slice a o.L.length c) o.L)(hl:o.L.length<=16384){v:Value}{l:List Nat}(hv:cQ w v l)(hn:l.length<=60000):
    Calls Tryz.prog 127 #[aN p,v] w fun e w' =>e=.returned (.int .i64 (wV o.L l:Nat))/\Fr [] w w' :=by
 obtain⟨av,cv,rfl⟩:=hv.slice;have HV:=qB (oL hb);have c6:=hb.cell 6;simp only[rfC,zS,zT]at c6;obtain⟨n,hn'⟩:∃n,n=o.L.length:=⟨_,rfl⟩;rw[<-hn']at hr c6 hl;have H:=qB (zR hr (zR hv hn'));have HLN:=qB (zR hl hn);clear hb hr hv hl hn';go_enter Tryz.func127,Tryz.ntmps127
 go_wp2_with fail
 refine HV.out.mono ?_;rintro _ w ⟨rfl,rfl⟩;clear HV;go_wp2_with fail
 go_loopw [5] (fun x wr=>∃i:Nat,i<=l.length/\x=.int .i64 i/\Hid (Fr [] w wr/\∀j (hj:j<l.length),j<i->l[j]∈bD o.L)) (fun x _=>l.length-(intOf x).toNat)
 case atStart=>exact⟨0,zB _,rfl,qB ⟨Fr.refl _ _,fun j hj h=>by omega⟩⟩
 case round=>
  obtain⟨i,hi,rfl,HR⟩:=hrel;rename_i wr;by_cases hlt:i<l.length
  {
  obtain⟨b1,c1', e1,hb1,r1⟩:=(H.out.2.1.fr0 HR.out.1).at hlt;simp only[qY,true_and]at e1;obtain⟨rfl,rfl⟩:=e1;clear hb1;have hi1:(i:Int)<l.length:=by omega
  have hi0:(0:Int)<=i:=by omega
  obtain⟨x,hx⟩:∃x,x=l[i]'hlt:=⟨_,rfl⟩;rw[<-hx]at r1;have HX:=qB (show l[i]? =some x by rw[hx];exact qT hlt);clear hx;have c6:=HR.out.1.cell c6 (by simp);have HI:=qB (wQ (H.out.1.fr0 (HR.out.1.trans' (Fr.refl [] wr).drew)) (by have:=H.out.2.2;have:=HLN.out.1;omega));have HQ:=qB (fun(w' :World) (hf:Fr [] wr.drew w')=>zR (hf.cell (((Fr.refl [] wr).drew).cell c6 (by simp)) (by simp)) (hf.cell (((Fr.refl [] wr).drew).cell r1 (by simp)) (by simp)));obtain⟨bx,hbx⟩:∃bx,bx=decide (x∈bD o.L):=⟨_,rfl⟩;have HBX:=qB hbx;have HIL:=qB (show(bD o.L).length<=65536 by have:=eH o.L _ rfl;have:=H.out.2.2;have:=HLN.out.1;omega);clear hbx;cases bx with
  | true=>{
  go_wp2_with fail
  go_region_held3 (fun w' => w'.cell? ⟨p, 6, none⟩ = some (.slice a n c) /\ w'.cell? ⟨b1, i, none⟩ = some (.int .u64 x))
    (first
      | go_keep
      | (exact HQ.out _ hF5))
    (first
      | (go_at_call 128;refine(nG hr5 x HIL.out).mono ?_;rintro _ w6 ⟨hee,rfl⟩;rw[<-HBX.out]at hee;subst hee)
      | (go_at_call 79;refine HI.out.mono ?_;rintro _ w5 ⟨v5,rfl,hr5,hF5,hq5⟩))
  have HN:=qB (show Fr [] w w6/\∀j (hj:j<l.length),j<i+1->l[j]∈bD o.L from⟨(HR.out.1.trans' (Fr.refl [] wr).drew).trans' hF5,fun j hj hji=>by
    by_cases h:j<i
    · exact HR.out.2 j hj h
    · have hj' : j = i := by omega
      subst hj';have hx:l[j]'hj=x:=by have:=HX.out;rw[qT hj]at this;exact Option.some.inj this
      rw[hx];exact of_decide_eq_true HBX.out.symm⟩)
  clear hr5 hF5 hq5 HQ HI HR r1;go_wp2_with fail
  go_roundw
  case rel=>exact⟨i+1,by omega,by go_num,HN⟩
  case measure=>simp[intOf];omega}
  | false=>{
  go_wp2_with fail
  go_region_held3 (fun w' => w'.cell? ⟨p, 6, none⟩ = some (.slice a n c) /\ w'.cell? ⟨b1, i, none⟩ = some (.int .u64 x))
    (first
      | go_keep
      | (exact HQ.out _ hF5))
    (first
      | (go_at_call 128;refine(nG hr5 x HIL.out).mono ?_;rintro _ w6 ⟨hee,rfl⟩;rw[<-HBX.out]at hee;subst hee)
      | (go_at_call 79;refine HI.out.mono ?_;rintro _ w5 ⟨v5,rfl,hr5,hF5,hq5⟩))
  have HN:=qB (show Fr [] w w6 from(HR.out.1.trans' (Fr.refl [] wr).drew).trans' hF5);have HC:=qB (show wV o.L l=13 from qH fun h=>absurd (h x (List.mem_of_getElem? HX.out)) (of_decide_eq_false HBX.out.symm));clear hr5 hF5 hq5 HQ HI HR r1;go_wp2_with fail
  go_ret;exact⟨by rw[HC.out];rfl,HN.out⟩}}
  {
  obtain rfl:i=l.length:=by omega
  have HC:=qB (show wV o.L l=0 from qI fun x hx=>by
    obtain⟨j,hj,rfl⟩:=List.mem_iff_getElem.1 hx;exact HR.out.2 j hj hj)
  have HN:=qB HR.out.1;go_wp2_with fail
  go_ret;exact⟨by rw[HC.out];rfl,HN.out⟩}
end
section
variable {W wr w w' :World} {p:Nat} {o:Ob} {ts:List Th}
theorem aAH(L:List Lv)(u v:Nat):(wV L [u,v]:Int)=eO L u v:=by
 unfold wV eO;by_cases h:inL L u/\inL L v
 {
 rw[qI h,qI (fun x hx=>by
   rcases qF.1 hx with rfl|hx
   · exact dA.2 h.1
   · rw[qP.1 hx];exact dA.2 h.2)]
 rfl}
 {
 rw[qH h,qH (fun k=>h ⟨dA.1 (k u (by simp)),dA.1 (k v (by simp))⟩)];rfl}
theorem aMP(L:List Lv)(u:Nat):(wV L [u]:Int)=eO L u u:=by
 unfold wV eO;by_cases h:inL L u
 {
 rw[qI (fun x hx=>by rw[qP.1 hx];exact dA.2 h),qI ⟨h,h⟩];rfl}
 {
 rw[qH (fun k=>h (dA.1 (k u (by simp)))),qH (fun k=>h k.1)];rfl}
theorem aFG(w:World)(u v:Nat):cQ (w.alloc (.cells #[.int .u64 u,.int .u64 v] 26)) (.slice (some ⟨w.heap.size,0,none⟩) 2 2) [u,v]:=
  ⟨by simp[eB],.inr ⟨w.heap.size,2,#[.int .u64 u,.int .u64 v],rfl,zB _,Blk.new w [.int .u64 u,.int .u64 v] 26,qS _,by decide,by simp,by simp[eB]⟩⟩
theorem aRU(w:World)(u:Nat):cQ (w.alloc (.cells #[.int .u64 u] 26)) (.slice (some ⟨w.heap.size,0,none⟩) 1 1) [u]:=
  ⟨by simp[eB],.inr ⟨w.heap.size,1,#[.int .u64 u],rfl,zB _,Blk.new w [.int .u64 u] 26,qS _,by decide,by simp,by simp[eB]⟩⟩
theorem aWM(h:Wd W wr (thF p o::ts))(hl:o.L.length<=16384)(u v:Nat):
    Calls Tryz.prog 74 #[aN p,.int .u64 u,.int .u64 v] wr fun e w' =>e=.returned (.tuple #[.bool (jM o.L u v),.int .i64 (eO o.L u v)])/\Wd W w' (thF p o::ts):=by
 have hF1:Fr [] wr (wr.alloc (.cells #[.int .u64 u,.int .u64 v] 26)):=(Fr.refl [] wr).alloc _;obtain⟨_,a,c,h1,h2,_⟩:=(h.fr0 hF1).get;have HC:=qB (wW h1 h2 hl (aFG wr u v) (by simp));rw[aAH]at HC;have HW:=qB (h.fr0 hF1);have HP:=qB (fun(w' :World) (hf:Fr [] (wr.alloc (.cells #[.int .u64 u,.int .u64 v] 26)) w')=>tZ (hf.blk h1 (by simp)) (h2.fr0 hf) hl u gM);obtain⟨ci,hci⟩:∃ci,ci=eO o.L u v:=⟨_,rfl⟩;obtain⟨bi,hbi⟩:∃bi,bi=jM o.L u v:=⟨_,rfl⟩;rw[<-hci]at HC ⊢;rw[<-hbi];have HE:=qB (zR hci hbi);clear h h1 h2 hF1 hci hbi;by_cases hin:inL o.L u/\inL o.L v
 {
 have e:ci=0:=HE.out.1.trans (qI hin);have HB:=qB (show bi=decide (Rl o.L gM u v) by rw[HE.out.2];unfold jM;exact decide_eq_decide.2 ⟨fun k=>k.2.2,fun k=>⟨hin.1,hin.2,k⟩⟩);subst e;clear hin;go_enter Tryz.func74,Tryz.ntmps74
 go_wp2_with fail
 refine HC.out.mono ?_;rintro _ w2 ⟨rfl,hF2⟩;have HW2:=qB (HW.out.fr0 hF2);have HP2:=qB (HP.out w2 hF2);clear hF2 HP HW HC;go_wp2_with fail
 refine HP2.out.mono ?_;rintro _ w3 ⟨v3,l3,rfl,hr3,hF3,_,hlt3,hm3,hn3⟩;have HW3:=qB (HW2.out.fr0 hF3);have HH:=qB (nG hr3 v (by have:=eH o.L _ rfl;omega));have HB2:=qB (show decide (v∈l3)=bi by rw[HB.out];exact decide_eq_decide.2 (hm3 v));rw[HB2.out]at HH;clear hr3 hF3 hlt3 hm3 hn3 HP2 HW2;go_wp2_with fail
 refine HH.out.mono ?_;rintro _ w3 ⟨rfl,rfl⟩;go_wp2_with fail
 go_ret2;exact⟨rfl,HW3.out⟩}
 {
 have e:ci=13:=HE.out.1.trans (qH hin);have e2:bi=false:=by rw[HE.out.2];unfold jM;exact qK fun h=>hin ⟨h.1,h.2.1⟩
 subst e;subst e2;clear hin HP;go_enter Tryz.func74,Tryz.ntmps74
 go_wp2_with fail
 refine HC.out.mono ?_;rintro _ w2 ⟨rfl,hF2⟩;have HW2:=qB (HW.out.fr0 hF2);clear hF2 HW HC;go_wp2_with fail
 go_ret2;exact⟨rfl,HW2.out⟩}
theorem aWN(h:Wd W wr (thF p o::ts))(hl:o.L.length<=16384)(u:Nat):
    Calls Tryz.prog 75 #[aN p,.int .u64 u] wr fun e w' =>e=.returned (.tuple #[.int .i64 (lW o.L u:Nat),.int .i64 (eO o.L u u)])/\Wd W w' (thF p o::ts):=by
 have hF1:Fr [] wr (wr.alloc (.cells #[.int .u64 u] 26)):=(Fr.refl [] wr).alloc _;obtain⟨_,a,c,h1,h2,_⟩:=(h.fr0 hF1).get;have HC:=qB (wW h1 h2 hl (aRU wr u) (by simp));rw[aMP]at HC;have HW:=qB (h.fr0 hF1);have HP:=qB (fun(w' :World) (hf:Fr [] (wr.alloc (.cells #[.int .u64 u] 26)) w')=>tZ (hf.blk h1 (by simp)) (h2.fr0 hf) hl u gM);obtain⟨ci,hci⟩:∃ci,ci=eO o.L u u:=⟨_,rfl⟩;obtain⟨bi,hbi⟩:∃bi,bi=lW o.L u:=⟨_,rfl⟩;rw[<-hci]at HC ⊢;rw[<-hbi];have HE:=qB (zR hci hbi);clear h h1 h2 hF1 hci hbi;by_cases hin:inL o.L u
 {
 have e:ci=0:=HE.out.1.trans (qI ⟨hin,hin⟩);have HB:=qB (show bi=((bD o.L).filter fun v=>decide (Rl o.L gM u v)).length by rw[HE.out.2];exact qI hin);have HI:=qB hin;subst e;clear hin;go_enter Tryz.func75,Tryz.ntmps75
 go_wp2_with fail
 refine HC.out.mono ?_;rintro _ w2 ⟨rfl,hF2⟩;have HW2:=qB (HW.out.fr0 hF2);have HP2:=qB (HP.out w2 hF2);clear hF2 HP HW HC;go_wp2_with fail
 refine HP2.out.mono ?_;rintro _ w3 ⟨v3,l3,rfl,hr3,hF3,_,hlt3,hm3,hn3⟩;have HW3:=qB (HW2.out.fr0 hF3);obtain⟨a3,k3,rfl⟩:=hr3.slice;have e3:l3.length=bi:=by {
 rw[HB.out];apply List.Perm.length_eq;rw[List.perm_ext_iff_of_nodup (hlt3.imp fun h=>Nat.ne_of_lt h) ((wM o.L).filter _)];intro x;rw[hm3 x,zJ,decide_eq_true_eq];refine⟨fun hx=>⟨?_,hx⟩,And.right⟩;by_cases e:u=x
 · subst e;exact dA.2 HI.out
 {
 obtain⟨d,hd,h1,_⟩:=hx.last e;exact dA.2 ⟨d,hd,h1⟩}};rw[e3];clear hr3 hF3 hlt3 hm3 hn3 HP2 HW2 e3;go_wp2_with fail
 go_ret2;exact⟨rfl,HW3.out⟩}
 {
 have e:ci=13:=HE.out.1.trans (qH fun h=>hin h.1);have e2:bi=0:=HE.out.2.trans (qH hin);subst e;subst e2;clear hin HP;go_enter Tryz.func75,Tryz.ntmps75
 go_wp2_with fail
 refine HC.out.mono ?_;rintro _ w2 ⟨rfl,hF2⟩;have HW2:=qB (HW.out.fr0 hF2);clear hF2 HW HC;go_wp2_with fail
 go_ret2;exact⟨rfl,HW2.out⟩}
end
section
variable {L:List Lv} {f:Int} {a b u v:Nat}
theorem aRV(h:Rl L f a b)(hne:a≠b):∃e∈L,f<=e.x/\Rl L e.x a b:=by
 induction h with
 | refl=>exact absurd rfl hne
 | @step b c e0 h0 h1 h2 h3 ih=>{
 by_cases hab:a=b
 {
 subst hab;exact⟨e0,h1,h2,.step e0 (.refl _) h1 (Int.le_refl _) h3⟩}
 {
 obtain⟨e1,k1,k2,k3⟩:=ih hab;by_cases hle:e1.x<=e0.x
 · exact⟨e1,k1,k2,.step e0 k3 h1 hle h3⟩
 · exact⟨e0,h1,h2,.step e0 (k3.less (by omega)) h1 (Int.le_refl _) h3⟩}}
def lY(L:List Lv)(u v i:Nat)(fd:Bool)(at' :Int):Prop:=
  (fd=false->at' =0/\∀j (hj:j<L.length),j<i->¬Rl L L[j].x u v)/\(fd=true->(∃e∈L,e.x=at' /\ Rl L at' u v)/\∀j (hj:j<L.length),j<i->Rl L L[j].x u v->L[j].x<=at')
theorem lY.zero:lY L u v 0 false 0:=⟨fun _=>⟨rfl,fun j _ h=>by omega⟩,fun e=>by cases e⟩
theorem lY.skip{i:Nat}{fd:Bool}{at' :Int}(h:lY L u v i fd at')(hi:i<L.length)(hx:Rl L L[i].x u v->fd=true/\L[i].x<=at'):lY L u v (i+1) fd at' :=by
 refine⟨fun e=>⟨(h.1 e).1,fun j hj hji hr=>?_⟩,fun e=>⟨(h.2 e).1,fun j hj hji hr=>?_⟩⟩
 {
 by_cases h' :j<i
 · exact(h.1 e).2 j hj h' hr
 {
 obtain rfl:j=i:=by omega
 rw[(hx hr).1]at e;cases e}}
 {
 by_cases h' :j<i
 · exact(h.2 e).2 j hj h' hr
 {
 obtain rfl:j=i:=by omega
 exact(hx hr).2}}
theorem lY.take{i:Nat}{fd:Bool}{at' :Int}(h:lY L u v i fd at')(hi:i<L.length)(hx:Rl L L[i].x u v)(ht:fd=false∨at' < L[i].x):lY L u v (i+1) true L[i].x:=by
 refine⟨fun e=>(by cases e),fun _=>⟨⟨L[i],List.getElem_mem hi,rfl,hx⟩,fun j hj hji hr=>?_⟩⟩;by_cases h' :j<i
 {
 cases hf:fd with
 | false=>exact absurd hr ((h.1 hf).2 j hj h')
 | true=>{
 have:=(h.2 hf).2 j hj h' hr;rcases ht with e|e
 · rw[hf]at e;cases e
 · omega}}
 {
 obtain rfl:j=i:=by omega
 exact Int.le_refl _}
theorem lY.done{fd:Bool}{at' :Int}(h:lY L u v L.length fd at')(hne:u≠v)(hu:inL L u)(hv:inL L v)(hx:∀e∈L,gM<=e.x):jZ L u v=fd/\oC L u v=at' :=by
 cases fd with
 | false=>{
 have hb:jZ L u v=false:=qK fun⟨_,_,_,hr⟩=>by
   obtain⟨e,he,_,k⟩:=aRV hr hne;obtain⟨j,hj,rfl⟩:=List.mem_iff_getElem.1 he;exact(h.1 rfl).2 j hj hj k
 exact⟨hb,by rw[rJ hb,(h.1 rfl).1]⟩}
 | true=>{
 obtain⟨⟨e,he,ex,hr⟩,hmax⟩:=h.2 rfl;have hb:jZ L u v=true:=qO ⟨hu,hv,hne,hr.less (by rw[<-ex];exact hx e he)⟩;refine⟨hb,aJS hb ⟨hr,fun h1=>?_⟩⟩;obtain⟨d,hd,k1,k2⟩:=aRV h1 hne;obtain⟨j,hj,rfl⟩:=List.mem_iff_getElem.1 hd;have:=hmax j hj hj k2;omega}
end
section
variable {W wr w w' :World} {p:Nat} {o:Ob} {ts:List Th}
theorem aRW(h:Wd W wr (thF p o::ts))(hl:o.L.length<=16384)(hx:∀e∈o.L,gM<=e.x)(u v:Nat):
    Calls Tryz.prog 76 #[aN p,.int .u64 u,.int .u64 v] wr fun e w' =>e=.returned (.tuple #[.int .i64 (oC o.L u v),.bool (jZ o.L u v),.int .i64 (eO o.L u v)])/\Wd W w' (thF p o::ts):=by
 have hF1:Fr [] wr (wr.alloc (.cells #[.int .u64 u,.int .u64 v] 26)):=(Fr.refl [] wr).alloc _;obtain⟨_,a,c,h1,h2,_⟩:=(h.fr0 hF1).get;have HC:=qB (wW h1 h2 hl (aFG wr u v) (by simp));rw[aAH]at HC;have HW:=qB (h.fr0 hF1);obtain⟨n,hn⟩:∃n,n=o.L.length:=⟨_,rfl⟩;have HP:=qB (fun(w' :World) (hf:Fr [] (wr.alloc (.cells #[.int .u64 u,.int .u64 v] 26)) w') (t:Int)=>tZ (hf.blk h1 (by simp)) (h2.fr0 hf) hl u t);have h1' :=h1;have h2' :=h2;rw[<-hn]at hl h1' h2';have H2:=qB (zR h1' (zR h2' (zR hn hx)));obtain⟨ci,hci⟩:∃ci,ci=eO o.L u v:=⟨_,rfl⟩;obtain⟨bi,hbi⟩:∃bi,bi=jZ o.L u v:=⟨_,rfl⟩;obtain⟨ri,hri⟩:∃ri,ri=oC o.L u v:=⟨_,rfl⟩;rw[<-hci]at HC ⊢;rw[<-hbi,<-hri];have HE:=qB (zR hci (zR hbi hri));clear h h1 h2 h1' h2' hF1 hci hbi hri hn hx;by_cases hin:inL o.L u/\inL o.L v
 {
 have e:ci=0:=HE.out.1.trans (qI hin);subst e;by_cases hne:u=v
 {
 have d1:((u:Int) == v)=true:=by simp;omega
 have e1:bi=false:=by rw[HE.out.2.1];exact qK fun h=>h.2.2.1 hne
 have e2:ri=0:=by rw[HE.out.2.2];exact rJ (by rw[<-HE.out.2.1];exact e1)
 subst e1;subst e2;clear hin HP H2 hne;go_enter Tryz.func76,Tryz.ntmps76
 go_wp2_with fail
 refine HC.out.mono ?_;rintro _ w2 ⟨rfl,hF2⟩;have HW2:=qB (HW.out.fr0 hF2);clear hF2 HW HC;go_wp2_with fail
 go_ret3;exact⟨rfl,HW2.out⟩}
 {
 have d1:((u:Int) == v)=false:=by simp;omega
 have HI:=qB (zR hne hin);clear hne hin;go_enter Tryz.func76,Tryz.ntmps76
 go_wp2_with fail
 refine HC.out.mono ?_;rintro _ w2 ⟨rfl,hF2⟩;have H3:=qB (zR (hF2.blk H2.out.1 (by simp)) (zR (H2.out.2.1.fr0 hF2) H2.out.2.2));have HP2:=qB (fun(w' :World) (hf:Fr [] w2 w') (t:Int)=>HP.out w' (hF2.trans' hf) t);have HW2:=qB (HW.out.fr0 hF2);have c6:=H3.out.1.cell 6;simp only[rfC,zS,zT]at c6;clear hF2 HW HC HP H2;go_wp2_with fail
 clear d1;go_loopw [10,11,12] (fun x y z wr=>∃(at' :Int) (fd:Bool) (i:Nat),i<=n/\x=.int .i64 at' /\ y=.bool fd/\z=.int .i64 i/\Hid (Fr [] w2 wr/\lY o.L u v i fd at')) (fun _ _ z _=>n-(intOf z).toNat)
 case atStart=>exact⟨0,false,0,zB _,rfl,rfl,rfl,qB ⟨Fr.refl _ _,lY.zero⟩⟩
 case round=>
  obtain⟨at', fd,i,hi,rfl,rfl,rfl,HR⟩:=hrel;rename_i wr;have c6:=HR.out.1.cell c6 (by simp);by_cases hlt:i<n
  {
  have hiL:i<o.L.length:=by have:=H3.out.2.2.1;omega
  obtain⟨b1,c1', e1,hx1,hx2,hx3,r1⟩:=(H3.out.2.1.fr0 HR.out.1).at hiL;rw[<-H3.out.2.2.1]at e1;simp only[qY,true_and]at e1;obtain⟨rfl,rfl⟩:=e1;clear hx1 hx2 hx3;have hi1:(i:Int)<n:=by omega
  have hi0:(0:Int)<=i:=by omega
  obtain⟨x0,x1,x2,x3,x4,x5,x6⟩:=r1;clear x0 x1 x2 x3 x4 x5;obtain⟨t,ht⟩:∃t,t=(o.L[i]'hiL).x:=⟨_,rfl⟩;rw[<-ht]at x6;have HX:=qB (show ∃h:i<o.L.length,t=(o.L[i]'h).x from⟨hiL,ht⟩);have HPt:=qB (HP2.out wr HR.out.1 t);clear ht hiL;by_cases htest:fd=true/\¬at' < t
  {
  obtain⟨rfl,hnt⟩:=htest;have d1:decide (t>at')=false:=qK hnt;have d2:decide (at' < t)=false:=qK hnt;have HN:=qB (show Fr [] w2 wr/\lY o.L u v (i+1) true at' from⟨HR.out.1,by
    obtain⟨hiL,ht⟩:=HX.out;exact HR.out.2.skip hiL fun _=>⟨rfl,by rw[<-ht];omega⟩⟩)
  clear HR hnt HPt;go_wp2_with fail
  go_roundw
  case rel=>exact⟨at', true,i+1,by omega,rfl,rfl,by go_num,HN⟩
  case measure=>simp[intOf];omega}
  {
  have hcase:fd=false∨(fd=true/\at' < t):=by {
  cases hfd:fd with
  | false=>exact .inl rfl
  | true=>exact .inr ⟨rfl,by rw[hfd]at htest;simpa using htest⟩};have HT:=qB (show fd=false∨at' < t from hcase.imp id And.right);rcases hcase with rfl|⟨rfl,htt⟩
  {
  clear htest;go_wp2_with fail
  refine HPt.out.mono ?_;rintro _ w3 ⟨v3,l3,rfl,hr3,hF3,_,hlt3,hm3,hn3⟩;have HH:=qB (nG hr3 v (by have h1:=eH o.L _ rfl;have h2:=H3.out.2.2.1;omega));by_cases hr:Rl o.L t u v
  {
  rw[qO ((hm3 v).2 hr)]at HH;have HN:=qB (show Fr [] w2 w3/\lY o.L u v (i+1) true t from⟨HR.out.1.trans' hF3,by
    obtain⟨hiL,ht⟩:=HX.out;have k:=HR.out.2;have kt:=HT.out;rw[ht]at hr kt ⊢;exact k.take hiL hr (.inl rfl)⟩)
  clear hr3 hF3 hlt3 hm3 hn3 HR HPt hr;go_wp2_with fail
  refine HH.out.mono ?_;rintro _ w3 ⟨rfl,rfl⟩;go_wp2_with fail
  go_roundw
  case rel=>exact⟨t,true,i+1,by omega,rfl,rfl,by go_num,HN⟩
  case measure=>simp[intOf];omega}
  {
  rw[qK fun h=>hr ((hm3 v).1 h)]at HH;have HN:=qB (show Fr [] w2 w3/\lY o.L u v (i+1) false at' from⟨HR.out.1.trans' hF3,by
    obtain⟨hiL,ht⟩:=HX.out;exact HR.out.2.skip hiL fun h=>absurd (by rw[<-ht]at h;exact h) hr⟩)
  clear hr3 hF3 hlt3 hm3 hn3 HR HPt hr;go_wp2_with fail
  refine HH.out.mono ?_;rintro _ w3 ⟨rfl,rfl⟩;go_wp2_with fail
  go_roundw
  case rel=>exact⟨at', false,i+1,by omega,rfl,rfl,by go_num,HN⟩
  case measure=>simp[intOf];omega}}
  {
  have d1:decide (t>at')=true:=qO htt;have d2:decide (at' < t)=true:=qO htt;clear htest htt;go_wp2_with fail
  refine HPt.out.mono ?_;rintro _ w3 ⟨v3,l3,rfl,hr3,hF3,_,hlt3,hm3,hn3⟩;have HH:=qB (nG hr3 v (by have h1:=eH o.L _ rfl;have h2:=H3.out.2.2.1;omega));by_cases hr:Rl o.L t u v
  {
  rw[qO ((hm3 v).2 hr)]at HH;have HN:=qB (show Fr [] w2 w3/\lY o.L u v (i+1) true t from⟨HR.out.1.trans' hF3,by
    obtain⟨hiL,ht⟩:=HX.out;have k:=HR.out.2;have kt:=HT.out;rw[ht]at hr kt ⊢;exact k.take hiL hr kt⟩)
  clear hr3 hF3 hlt3 hm3 hn3 HR HPt hr;go_wp2_with fail
  refine HH.out.mono ?_;rintro _ w3 ⟨rfl,rfl⟩;go_wp2_with fail
  go_roundw
  case rel=>exact⟨t,true,i+1,by omega,rfl,rfl,by go_num,HN⟩
  case measure=>simp[intOf];omega}
  {
  rw[qK fun h=>hr ((hm3 v).1 h)]at HH;have HN:=qB (show Fr [] w2 w3/\lY o.L u v (i+1) true at' from⟨HR.out.1.trans' hF3,by
    obtain⟨hiL,ht⟩:=HX.out;exact HR.out.2.skip hiL fun h=>absurd (by rw[<-ht]at h;exact h) hr⟩)
  clear hr3 hF3 hlt3 hm3 hn3 HR HPt hr;go_wp2_with fail
  refine HH.out.mono ?_;rintro _ w3 ⟨rfl,rfl⟩;go_wp2_with fail
  go_roundw
  case rel=>exact⟨at', true,i+1,by omega,rfl,rfl,by go_num,HN⟩
  case measure=>simp[intOf];omega}}}}
  {
  obtain rfl:i=n:=by omega
  have HD:=qB (show jZ o.L u v=fd/\oC o.L u v=at' from lY.done (by have:=HR.out.2;rw[H3.out.2.2.1]at this;exact this) HI.out.1 HI.out.2.1 HI.out.2.2 H3.out.2.2.2);have HW3:=qB (HW2.out.fr0 HR.out.1);clear HR;go_wp2_with fail
  go_ret3;exact⟨by rw[HE.out.2.1,HE.out.2.2,HD.out.1,HD.out.2];rfl,HW3.out⟩}}}
 {
 have e:ci=13:=HE.out.1.trans (qH hin);have e1:bi=false:=by rw[HE.out.2.1];exact qK fun h=>hin ⟨h.1,h.2.1⟩
 have e2:ri=0:=by rw[HE.out.2.2];exact rJ (by rw[<-HE.out.2.1];exact e1)
 subst e;subst e1;subst e2;clear hin HP H2;go_enter Tryz.func76,Tryz.ntmps76
 go_wp2_with fail
 refine HC.out.mono ?_;rintro _ w2 ⟨rfl,hF2⟩;have HW2:=qB (HW.out.fr0 hF2);clear hF2 HW HC;go_wp2_with fail
 go_ret3;exact⟨rfl,HW2.out⟩}
end
section
variable {L:List Lv} {x:Nat}
theorem aHV{l:List Nat}(hp:l.Pairwise (· < ·))(hm:∀y,y∈l↔Rl L gM x y){i:Nat}(hi:i<(bD L).length)(hx:(bD L)[i]=x)(h0:0<l.length):l[0]=x↔¬∃b∈(bD L).take i,Rl L gM x b:=by
 have hlt:=List.pairwise_iff_getElem.1 (iX L);have hmin:∀y∈l,l[0]<=y:=fun y hy=>by
   obtain⟨j,hj,rfl⟩:=List.mem_iff_getElem.1 hy;by_cases e:j=0
   · subst e;exact qS _
   · exact Nat.le_of_lt (List.pairwise_iff_getElem.1 hp 0 j h0 hj (by omega))
 constructor
 {
 rintro e ⟨b,hb,hr⟩;obtain⟨j,hj,rfl⟩:=List.mem_iff_getElem.1 hb;rw[List.length_take]at hj;rw[List.getElem_take]at hr;have h1:=hmin _ ((hm _).2 hr);have h2:=hlt j i (by omega) hi (by omega);omega}
 {
 intro h;have h1:=hmin x ((hm x).2 (.refl _));have h2:=(hm _).1 (List.getElem_mem h0);by_cases e:l[0]=x
 · exact e
 {
 exfalso
 obtain⟨d,hd,h3,_⟩:=h2.last (fun k=>e k.symm);have h4:l[0]∈bD L:=dA.2 ⟨d,hd,h3⟩;obtain⟨j,hj,ej⟩:=List.mem_iff_getElem.1 h4;have hji:j<i:=by {
 by_cases k:j<i
 · exact k
 {
 exfalso
 by_cases k2:j=i
 · subst k2;exact e (ej.symm.trans hx)
 · have:=hlt i j hi hj (by omega);omega}};exact h ⟨l[0],by rw[<-ej];exact List.mem_iff_getElem.2 ⟨j,by rw[List.length_take];omega,by rw[List.getElem_take]⟩,h2⟩}}
theorem aRX{i:Nat}(hi:i<(bD L).length):ncl (Rl L gM) ((bD L).take (i+1))=ncl (Rl L gM) ((bD L).take i)+if ∃b∈(bD L).take i,Rl L gM (bD L)[i] b then 0 else 1:=by
 rw[List.take_add_one,qT hi];exact aEV (fun _ _ h=>h.symm) (fun _ _ _ h k=>h.trans k) _ _
end
section
variable {W wr w w' :World} {p:Nat} {o:Ob} {ts:List Th}
theorem aRY(h:Wd W wr (thF p o::ts))(hl:o.L.length<=16384):Calls Tryz.prog 61 #[aN p] wr fun e w' =>e=.returned (.tuple #[.int .i64 o.L.length,.int .i64 (bD o.L).length,.int .i64 (oJ o.L:Nat)])/\Fr [] wr w' :=by
 obtain⟨_,a,c,h1,h2,_⟩:=h.get;have HV:=qB (oL h1);have HI:=qB (wQ h2 hl);have c6:=h1.cell 6;simp only[rfC,zS,zT]at c6;have HP:=qB (fun(w' :World) (hf:Fr [] wr w') (u:Nat)=>tZ (hf.blk h1 (by simp)) (h2.fr0 hf) hl u gM);obtain⟨n,hn⟩:∃n,n=o.L.length:=⟨_,rfl⟩;rw[<-hn]at c6 HI ⊢;have hnl:n<=16384:=by rw[hn];exact hl
 clear hl;obtain⟨ds,hds⟩:∃ds,ds=bD o.L:=⟨_,rfl⟩;have hdl:ds.length<=32768:=by rw[hds];have h3:=eH o.L _ rfl;rw[<-hn]at h3;omega
 rw[<-hds]at HI ⊢;obtain⟨nd,hnd⟩:∃nd,nd=ds.length:=⟨_,rfl⟩;rw[<-hnd]at hdl ⊢;obtain⟨ci,hci⟩:∃ci,ci=oJ o.L:=⟨_,rfl⟩;rw[<-hci];have hcl:ci<=nd:=by rw[hci,hnd,hds];exact(show ncl (Rl o.L gM) (bD o.L)<=(bD o.L).length from bAF _)
 have HE:=qB (zR hds (zR hnd hci));clear h h1 h2 hn hds hnd hci;go_enter Tryz.func61,Tryz.ntmps61
 go_wp2_with fail
 refine HV.out.mono ?_;rintro _ wr ⟨rfl,rfl⟩;go_wp2_with fail
 refine HI.out.mono ?_;rintro _ w2 ⟨v2,rfl,hr2,hF2,_⟩;obtain⟨a2,k2,rfl⟩:=hr2.slice;rw[<-HE.out.2.1]at hr2 ⊢;have HR2:=qB (zR hr2 hF2);have c6:=hF2.cell c6 (by simp);clear hr2 hF2 HI HV;go_wp2_with fail
 go_loopw [6,7] (fun x z wr=>∃i k:Nat,i<=nd/\k<=i/\x=.int .i64 k/\z=.int .i64 i/\Hid (Fr [] w2 wr/\k=ncl (Rl o.L gM) (ds.take i))) (fun _ z _=>nd-(intOf z).toNat)
 case atStart=>exact⟨0,0,zB _,zB _,rfl,rfl,qB ⟨Fr.refl _ _,rfl⟩⟩
 case round=>
  obtain⟨i,k,hi,hki,rfl,rfl,HR⟩:=hrel;rename World=>wx
  by_cases hlt:i<nd
  {
  have hiL:i<ds.length:=by have:=HE.out.2.1;omega
  obtain⟨b1,c1', e1,hb1,r1⟩:=(HR2.out.1.fr0 HR.out.1).at hiL;rw[<-HE.out.2.1]at e1;simp only[qY,true_and]at e1;obtain⟨rfl,rfl⟩:=e1;clear hb1;have hi1:(i:Int)<nd:=by omega
  have hi0:(0:Int)<=i:=by omega
  obtain⟨x,hx⟩:∃x,x=ds[i]'hiL:=⟨_,rfl⟩;rw[<-hx]at r1;have HX:=qB (show ∃h:i<ds.length,x=ds[i]'h from⟨hiL,hx⟩);clear hx hiL;have HPx:=qB (HP.out wx.drew ((HR2.out.2.trans' HR.out.1).trans' (Fr.refl [] wx).drew) x);have HQ:=qB (fun(w' :World) (hf:Fr [] wx.drew w')=>hf.cell (((Fr.refl [] wx).drew).cell r1 (by simp)) (by simp));go_wp2_with fail
  go_region_with (go_at_call 118;refine HPx.out.mono ?_;rintro _ w3 ⟨v3,l3,rfl,hr3,hF3,_,hlt3,hm3,hn3⟩;have h0:0<l3.length:=List.length_pos_iff_exists_mem.2 ⟨x,(hm3 x).2 (.refl _)⟩;obtain⟨b3,k3,e3,hb3,q3⟩:=hr3.at h0;subst e3;obtain⟨x3,hx3⟩:∃x3,x3=l3[0]'h0:=⟨_,rfl⟩;rw[<-hx3]at q3;have H3:=qB (zR hF3 (zR hlt3 (zR hm3 (show ∃h:0<l3.length,x3=l3[0]'h from⟨h0,hx3⟩))));have h0i:(0:Int)<l3.length:=(by omega);have r3:=HQ.out _ hF3;clear hx3 hb3 hlt3 hm3 hn3 hr3 hF3)
  all_goals
   have HL:=qB (show x3=x↔¬∃b∈ds.take i,Rl o.L gM x b by
     obtain⟨_,k2,k3,h0,e0⟩:=H3.out;obtain⟨hiL,ex⟩:=HX.out;rw[e0];have hds:=HE.out.1;subst hds;exact aHV k2 k3 hiL ex.symm h0)
   have HS:=qB (show ncl (Rl o.L gM) (ds.take (i+1))=k+if x3=x then 1 else 0 by
     obtain⟨hiL,ex⟩:=HX.out;have hk:=HR.out.2;have hds:=HE.out.1;have hl:=HL.out;subst hds;rw[aRX hiL,<-hk,<-ex];by_cases e:x3=x
     · rw[qI e,qH (hl.1 e)]
     · rw[qH e,qI (Classical.not_not.1 fun h=>e (hl.2 h))])
   have HF:=qB ((HR.out.1.trans' (Fr.refl [] wx).drew).trans' H3.out.1);by_cases hxx:x3=x
   {
   have d1:((x3:Int) == x)=true:=by simp;omega
   have HN:=qB (show Fr [] w2 _/\k+1=ncl (Rl o.L gM) (ds.take (i+1)) from⟨HF.out,by rw[HS.out,qI hxx]⟩);clear hxx HL HS HF H3 HPx HQ HR r1 q3 r3 h0 h0i;try rw[d1]
   go_wp2_with fail
   go_roundw
   case rel=>exact⟨i+1,k+1,by omega,by omega,by go_num,by go_num,HN⟩
   case measure=>simp[intOf];omega}
   {
   have d1:((x3:Int) == x)=false:=by simp;omega
   have HN:=qB (show Fr [] w2 _/\k=ncl (Rl o.L gM) (ds.take (i+1)) from⟨HF.out,by rw[HS.out,qH hxx];rfl⟩);clear hxx HL HS HF H3 HPx HQ HR r1 q3 r3 h0 h0i;try rw[d1]
   go_wp2_with fail
   go_roundw
   case rel=>exact⟨i+1,k,by omega,by omega,rfl,by go_num,HN⟩
   case measure=>simp[intOf];omega}}
  {
  obtain rfl:i=nd:=by omega
  have HK:=qB (show k=ci by
    rw[HR.out.2,HE.out.2.2,HE.out.2.1,List.take_length,HE.out.1];rfl)
  have HF:=qB (HR2.out.2.trans' HR.out.1);have c6:=HR.out.1.cell c6 (by simp);clear HR;go_wp2_with fail
  go_ret3;exact⟨by rw[HK.out];rfl,HF.out⟩}
end
end Go.Proofs.YtgmnemndjjmgkaaGreat
namespace Go.Proofs.YtgmnemndjjmgkaaGreat
open Go.RowKit
section
variable {W wr w w' :World} {ts:List Th}
end
section
variable {w:World}
theorem fK:Calls Tryz.prog 117 #[.pointer none] w fun e w' =>e=.returned (.bool false)/\w' =w:=by
 go_enter Tryz.func117,Tryz.ntmps117
 go_wp2
 go_ret;exact⟨rfl,rfl⟩
theorem aRZ:Calls Tryz.prog 61 #[.pointer none] w fun e w' =>e=.returned (.tuple #[.int .i64 0,.int .i64 0,.int .i64 0])/\w' =w:=by
 have HV:=qB (fK (w:=w));go_enter Tryz.func61,Tryz.ntmps61
 go_wp2_with fail
 refine HV.out.mono ?_;rintro _ w ⟨rfl,rfl⟩;go_wp2
 go_ret3;exact⟨rfl,rfl⟩
theorem aFH:Calls Tryz.prog 62 #[.pointer none] w fun e w' =>e=.returned (.tuple #[.int .u64 0,.int .u64 0])/\w' =w:=by
 have HV:=qB (fK (w:=w));go_enter Tryz.func62,Tryz.ntmps62
 go_wp2_with fail
 refine HV.out.mono ?_;rintro _ w ⟨rfl,rfl⟩;go_wp2
 go_ret2;exact⟨rfl,rfl⟩
theorem aHW:Calls Tryz.prog 63 #[.pointer none] w fun e w' =>e=.returned (.int .u64 0)/\w' =w:=by
 have HV:=qB (aFH (w:=w));go_enter Tryz.func63,Tryz.ntmps63
 go_wp2_with fail
 refine HV.out.mono ?_;rintro _ w ⟨rfl,rfl⟩;go_wp2
 go_ret;exact⟨rfl,rfl⟩
theorem bAV:Calls Tryz.prog 64 #[.pointer none] w fun e w' =>e=.returned (.int .i64 0)/\w' =w:=by
 have HV:=qB (fK (w:=w));go_enter Tryz.func64,Tryz.ntmps64
 go_wp2_with fail
 refine HV.out.mono ?_;rintro _ w ⟨rfl,rfl⟩;go_wp2
 go_ret;exact⟨rfl,rfl⟩
theorem aWO:Calls Tryz.prog 66 #[.pointer none] w fun e w' =>e=.returned (.slice none 0 0)/\w' =w:=by
 have HV:=qB (fK (w:=w));go_enter Tryz.func66,Tryz.ntmps66
 go_wp2_with fail
 refine HV.out.mono ?_;rintro _ w ⟨rfl,rfl⟩;go_wp2
 go_ret;exact⟨rfl,rfl⟩
theorem bAW:Calls Tryz.prog 67 #[.pointer none] w fun e w' =>e=.returned (.slice none 0 0)/\w' =w:=by
 have HV:=qB (fK (w:=w));go_enter Tryz.func67,Tryz.ntmps67
 go_wp2_with fail
 refine HV.out.mono ?_;rintro _ w ⟨rfl,rfl⟩;go_wp2
 go_ret;exact⟨rfl,rfl⟩
theorem aWP:Calls Tryz.prog 73 #[.pointer none] w fun e w' =>e=.returned (.pointer none)/\w' =w:=by
 have HV:=qB (fK (w:=w));go_enter Tryz.func73,Tryz.ntmps73
 go_wp2_with fail
 refine HV.out.mono ?_;rintro _ w ⟨rfl,rfl⟩;go_wp2
 go_ret;exact⟨rfl,rfl⟩
theorem aWQ(t:Int):Calls Tryz.prog 72 #[.pointer none,.int .i64 t] w fun e w' =>e=.returned (.int .i64 1)/\w' =w:=by
 have HV:=qB (fK (w:=w));go_enter Tryz.func72,Tryz.ntmps72
 go_wp2_with fail
 refine HV.out.mono ?_;rintro _ w ⟨rfl,rfl⟩;go_wp2
 go_ret;exact⟨rfl,rfl⟩
theorem bAX(u v:Nat)(wt t:Int):Calls Tryz.prog 71 #[.pointer none,iK u v wt t] w fun e w' =>e=.returned (.int .i64 1)/\Fr [] w w' :=by
 have HV:=qB (fK (w:=w.alloc (.cells #[.int .u64 u,.int .u64 v,.int .i64 wt,.int .i64 t] 42)));have HF:=qB ((Fr.refl [] w).alloc (.cells #[.int .u64 u,.int .u64 v,.int .i64 wt,.int .i64 t] 42));go_enter Tryz.func71,Tryz.ntmps71
 go_wp2_with fail
 refine HV.out.mono ?_;rintro _ w2 ⟨rfl,rfl⟩;go_wp2
 go_ret;exact⟨rfl,HF.out⟩
theorem aMQ:Calls Tryz.prog 65 #[.pointer none] w fun e w' =>e=.returned (.agg #[.int .i64 0,.int .i64 0,.int .i64 0,.int .i64 0])/\Fr [] w w' :=by
 have hb:=Blk.new w [.int .i64 0,.int .i64 0,.int .i64 0,.int .i64 0] 55;have r0:=hb.cell 0;have r1:=hb.cell 1;have r2:=hb.cell 2;have r3:=hb.cell 3;simp only[zS,zT]at r0 r1 r2 r3;have HV:=qB (fK (w:=w.alloc (.cells #[.int .i64 0,.int .i64 0,.int .i64 0,.int .i64 0] 55)));have HF:=qB ((Fr.refl [] w).alloc (.cells #[.int .i64 0,.int .i64 0,.int .i64 0,.int .i64 0] 55));clear hb;go_enter Tryz.func65,Tryz.ntmps65
 go_wp2_with fail
 refine HV.out.mono ?_;rintro _ w2 ⟨rfl,rfl⟩;go_wp2
 exact bodyPost_ret (v:=.agg #[.int .i64 0,.int .i64 0,.int .i64 0,.int .i64 0]) (by simp[results,Tryz.results65,go_sem,r0,r1,r2,r3]) rfl ⟨rfl,HF.out⟩
theorem wX(v:Value):Calls Tryz.prog 127 #[.pointer none,v] w fun e w' =>e=.returned (.int .i64 1)/\w' =w:=by
 have HV:=qB (fK (w:=w));go_enter Tryz.func127,Tryz.ntmps127
 go_wp2_with fail
 refine HV.out.mono ?_;rintro _ w ⟨rfl,rfl⟩;go_wp2
 go_ret;exact⟨rfl,rfl⟩
theorem aWR(u v:Nat):Calls Tryz.prog 74 #[.pointer none,.int .u64 u,.int .u64 v] w fun e w' =>e=.returned (.tuple #[.bool false,.int .i64 1])/\Fr [] w w' :=by
 have HC:=qB (fun v w' =>wX (w:=w') v);have HF:=qB ((Fr.refl [] w).alloc (.cells #[.int .u64 u,.int .u64 v] 26));go_enter Tryz.func74,Tryz.ntmps74
 go_wp2_with fail
 refine(HC.out _ _).mono ?_;rintro _ w2 ⟨rfl,rfl⟩;go_wp2
 go_ret2;exact⟨rfl,HF.out⟩
theorem aWS(u:Nat):Calls Tryz.prog 75 #[.pointer none,.int .u64 u] w fun e w' =>e=.returned (.tuple #[.int .i64 0,.int .i64 1])/\Fr [] w w' :=by
 have HC:=qB (fun v w' =>wX (w:=w') v);have HF:=qB ((Fr.refl [] w).alloc (.cells #[.int .u64 u] 26));go_enter Tryz.func75,Tryz.ntmps75
 go_wp2_with fail
 refine(HC.out _ _).mono ?_;rintro _ w2 ⟨rfl,rfl⟩;go_wp2
 go_ret2;exact⟨rfl,HF.out⟩
theorem aSA(u v:Nat):Calls Tryz.prog 76 #[.pointer none,.int .u64 u,.int .u64 v] w fun e w' =>e=.returned (.tuple #[.int .i64 0,.bool false,.int .i64 1])/\Fr [] w w' :=by
 have HC:=qB (fun v w' =>wX (w:=w') v);have HF:=qB ((Fr.refl [] w).alloc (.cells #[.int .u64 u,.int .u64 v] 26));go_enter Tryz.func76,Tryz.ntmps76
 go_wp2_with fail
 refine(HC.out _ _).mono ?_;rintro _ w2 ⟨rfl,rfl⟩;go_wp2
 go_ret3;exact⟨rfl,HF.out⟩
end
def eS(w:World)(v:Value):Prop:=v=.pointer none∨∃b,v=aN b/\w.cell? ⟨b,4,none⟩=some (.pointer none)
theorem eS.fr{w w' :World}{v:Value}{S:List Nat}(h:eS w v)(hf:Fr S w w')(hs:∀b,v=aN b->b∉S):eS w' v:=by
 rcases h with h|⟨b,h,c⟩
 · exact .inl h
 · exact .inr ⟨b,h,hf.cell c (hs b h)⟩
theorem eS.fr0{w w' :World}{v:Value}(h:eS w v)(hf:Fr [] w w'):eS w' v:=h.fr hf (by simp)
theorem eS.none(w:World):eS w (.pointer none):=.inl rfl
section
variable {w:World} {v:Value}
theorem dY(h:eS w v):Calls Tryz.prog 41 #[v] w fun e w' =>e=.returned (.bool false)/\w' =w:=by
 rcases h with rfl|⟨b,rfl,c4⟩
 {
 go_enter Tryz.func41,Tryz.ntmps41
 go_wp2
 go_ret;exact⟨rfl,rfl⟩}
 {
 go_enter Tryz.func41,Tryz.ntmps41
 go_wp2
 go_ret;exact⟨rfl,rfl⟩}
theorem aMR(h:eS w v):Calls Tryz.prog 18 #[v] w fun e w' =>e=.returned (.tuple #[.int .i64 0,.int .i64 0,.int .i64 0])/\w' =w:=by
 have HV:=qB (dY h);clear h;go_enter Tryz.func18,Tryz.ntmps18
 go_wp2_with fail
 refine HV.out.mono ?_;rintro _ w ⟨rfl,rfl⟩;go_wp2
 go_ret3;exact⟨rfl,rfl⟩
theorem aMS(h:eS w v):Calls Tryz.prog 23 #[v] w fun e w' =>e=.returned (.tuple #[.int .u64 0,.int .u64 0])/\w' =w:=by
 have HV:=qB (dY h);clear h;go_enter Tryz.func23,Tryz.ntmps23
 go_wp2_with fail
 refine HV.out.mono ?_;rintro _ w ⟨rfl,rfl⟩;go_wp2
 go_ret2;exact⟨rfl,rfl⟩
theorem aFI(h:eS w v):Calls Tryz.prog 22 #[v] w fun e w' =>e=.returned (.int .u64 0)/\w' =w:=by
 have HV:=qB (dY h);clear h;go_enter Tryz.func22,Tryz.ntmps22
 go_wp2_with fail
 refine HV.out.mono ?_;rintro _ w ⟨rfl,rfl⟩;go_wp2
 go_ret;exact⟨rfl,rfl⟩
theorem aWT(h:eS w v):Calls Tryz.prog 16 #[v] w fun e w' =>e=.returned (.int .i64 0)/\w' =w:=by
 have HV:=qB (dY h);clear h;go_enter Tryz.func16,Tryz.ntmps16
 go_wp2_with fail
 refine HV.out.mono ?_;rintro _ w ⟨rfl,rfl⟩;go_wp2
 go_ret;exact⟨rfl,rfl⟩
theorem aSB(h:eS w v):Calls Tryz.prog 19 #[v] w fun e w' =>e=.returned (.slice none 0 0)/\w' =w:=by
 have HV:=qB (dY h);clear h;go_enter Tryz.func19,Tryz.ntmps19
 go_wp2_with fail
 refine HV.out.mono ?_;rintro _ w ⟨rfl,rfl⟩;go_wp2
 go_ret;exact⟨rfl,rfl⟩
theorem aWU(h:eS w v):Calls Tryz.prog 24 #[v] w fun e w' =>e=.returned (.slice none 0 0)/\w' =w:=by
 have HV:=qB (dY h);clear h;go_enter Tryz.func24,Tryz.ntmps24
 go_wp2_with fail
 refine HV.out.mono ?_;rintro _ w ⟨rfl,rfl⟩;go_wp2
 go_ret;exact⟨rfl,rfl⟩
theorem aSC(h:eS w v):Calls Tryz.prog 20 #[v] w fun e w' =>e=.returned (.pointer none)/\w' =w:=by
 have HV:=qB (dY h);clear h;go_enter Tryz.func20,Tryz.ntmps20
 go_wp2_with fail
 refine HV.out.mono ?_;rintro _ w ⟨rfl,rfl⟩;go_wp2
 go_ret;exact⟨rfl,rfl⟩
theorem aSD(h:eS w v)(t:Int):Calls Tryz.prog 17 #[v,.int .i64 t] w fun e w' =>e=.returned (.int .i64 1)/\w' =w:=by
 have HV:=qB (dY h);clear h;go_enter Tryz.func17,Tryz.ntmps17
 go_wp2_with fail
 refine HV.out.mono ?_;rintro _ w ⟨rfl,rfl⟩;go_wp2
 go_ret;exact⟨rfl,rfl⟩
theorem aWV(h:eS w v)(u x:Nat)(wt t:Int):Calls Tryz.prog 21 #[v,iK u x wt t] w fun e w' =>e=.returned (.int .i64 1)/\Fr [] w w' :=by
 have HV:=qB (dY (h.fr0 ((Fr.refl [] w).alloc (.cells #[.int .u64 u,.int .u64 x,.int .i64 wt,.int .i64 t] 42))));clear h;have HF:=qB ((Fr.refl [] w).alloc (.cells #[.int .u64 u,.int .u64 x,.int .i64 wt,.int .i64 t] 42));go_enter Tryz.func21,Tryz.ntmps21
 go_wp2_with fail
 refine HV.out.mono ?_;rintro _ w1 ⟨rfl,rfl⟩;go_wp2
 go_ret;exact⟨rfl,HF.out⟩
theorem wY(h:eS w v)(u x:Nat):Calls Tryz.prog 38 #[v,.int .u64 u,.int .u64 x] w fun e w' =>e=.returned (.tuple #[.int .i64 0,.int .i64 0,.int .i64 1])/\w' =w:=by
 have HV:=qB (dY h);clear h;go_enter Tryz.func38,Tryz.ntmps38
 go_wp2_with fail
 refine HV.out.mono ?_;rintro _ w ⟨rfl,rfl⟩;go_wp2
 go_ret3;exact⟨rfl,rfl⟩
theorem xT(h:eS w v)(u x:Nat):Calls Tryz.prog 15 #[v,.int .u64 u,.int .u64 x] w fun e w' =>e=.returned (.tuple #[.bool false,.int .i64 1])/\w' =w:=by
 have HV:=qB (wY h u x);clear h;go_enter Tryz.func15,Tryz.ntmps15
 go_wp2_with fail
 refine HV.out.mono ?_;rintro _ w ⟨rfl,rfl⟩;go_wp2
 go_ret2;exact⟨rfl,rfl⟩
theorem aMT(h:eS w v)(u x:Nat):Calls Tryz.prog 14 #[v,.int .u64 u,.int .u64 x] w fun e w' =>e=.returned (.tuple #[.int .i64 0,.bool false,.int .i64 1])/\w' =w:=by
 have HV:=qB (wY h u x);clear h;go_enter Tryz.func14,Tryz.ntmps14
 go_wp2_with fail
 refine HV.out.mono ?_;rintro _ w ⟨rfl,rfl⟩;go_wp2
 go_ret3;exact⟨rfl,rfl⟩
theorem aSE(h:eS w v)(u:Nat):Calls Tryz.prog 26 #[v,.int .u64 u] w fun e w' =>e=.returned (.tuple #[.int .i64 0,.int .i64 1])/\w' =w:=by
 have HV:=qB (wY h u u);clear h;go_enter Tryz.func26,Tryz.ntmps26
 go_wp2_with fail
 refine HV.out.mono ?_;rintro _ w ⟨rfl,rfl⟩;go_wp2
 go_ret2;exact⟨rfl,rfl⟩
theorem aHX(h:eS w v):Calls Tryz.prog 33 #[v] w fun e w' =>e=.returned (.agg #[.int .i64 0,.int .i64 0,.int .i64 0,.int .i64 0])/\Fr [] w w' :=by
 have HV:=qB (dY (h.fr0 ((Fr.refl [] w).alloc (.cells #[.int .i64 0,.int .i64 0,.int .i64 0,.int .i64 0] 55))));clear h;have HF:=qB ((Fr.refl [] w).alloc (.cells #[.int .i64 0,.int .i64 0,.int .i64 0,.int .i64 0] 55));have hb:=Blk.new w [.int .i64 0,.int .i64 0,.int .i64 0,.int .i64 0] 55;have r0:=hb.cell 0;have r1:=hb.cell 1;have r2:=hb.cell 2;have r3:=hb.cell 3;simp only[zS,zT]at r0 r1 r2 r3;clear hb;go_enter Tryz.func33,Tryz.ntmps33
 go_wp2_with fail
 refine HV.out.mono ?_;rintro _ w1 ⟨rfl,rfl⟩;go_wp2
 exact bodyPost_ret (v:=.agg #[.int .i64 0,.int .i64 0,.int .i64 0,.int .i64 0]) (by simp[results,Tryz.results33,go_sem,r0,r1,r2,r3]) rfl ⟨rfl,HF.out⟩
end
def thN(f:Nat->Ob->Th)(v:Value)(so:Option Ob):Th:=
  ⟨fun w K=>match so with|some o=>∃p,v=aN p/\(f p o).P w K|none=>v=.pointer none/\K=[],
    fun {w K} h=>by
      cases so with
      | none=>rw[h.2];simp
      | some o=>obtain⟨p,_,h⟩:=h;exact(f p o).lt h,
    fun {w w' S K} h hf hs=>by
      cases so with
      | none=>exact h
      | some o=>obtain⟨p,e,h⟩:=h;exact⟨p,e,(f p o).fr h hf hs⟩⟩
def qL:Option Ob->List Lv|some o=>o.L|none=>[]
def qA:Option Ob->Nat|some o=>o.last|none=>0
def qG:Option Ob->Nat|some o=>o.gone|none=>0
def qN:Option Ob->Int|some o=>o.now|none=>0
def qM:Option Ob->Int|some o=>o.m|none=>0
def qE:Option Ob->Nat|some o=>o.E|none=>0
def qV:Option Ob->Nat|some o=>o.V|none=>0
def qD:Option Ob->Int|some o=>o.D|none=>0
noncomputable def qC(so:Option Ob)(u v:Nat):Int:=match so with|some o=>eO o.L u v|none=>1
def aYA(so:Option Ob)(u v:Nat)(t:Int):Nat:=match so with|some o=>o.addC u v t|none=>1
def qAdd(so:Option Ob)(u v:Nat)(wt t:Int):Option Ob:=match so with|some o=>some (o.add u v wt t)|none=>none
def aSF(so:Option Ob)(t:Int):Int:=match so with|some o=>cN o.m o.now t|none=>1
def aYB(so:Option Ob)(t:Int):Option Ob:=match so with|some o=>some (o.tickS t)|none=>none
def QOk(so:Option Ob):Prop:=∀o,so=some o->o.Ok
theorem aAI(u v:Nat):jM [] u v=false:=by unfold jM inL;simp
theorem aAJ(u:Nat):lW [] u=0:=by unfold lW inL;simp
theorem wZ(u v:Nat):jZ [] u v=false:=by unfold jZ inL;simp
theorem aFJ(u v:Nat):oC [] u v=0:=rJ (wZ u v)
section
variable {W wr w w' :World} {f:Nat->Ob->Th} {v:Value} {so:Option Ob} {o:Ob} {ts:List Th} {p:Nat}
theorem Wd.head{t:Th}(h:Wd W wr (t::ts)):∃K,t.P wr K/\∀t' :Th,t'.P wr K->Wd W wr (t' :: ts):=by
 obtain⟨K,h1,hs⟩:=h.open;exact⟨K,h1,fun t' h' =>hs ⟨K,h', Fr.refl _ _,fun q hq=>.inl hq⟩⟩
theorem Wd.isW(h:Wd W wr (thN f v (some o)::ts)):∃p,v=aN p/\Wd W wr (f p o::ts):=by
 obtain⟨K,⟨p,e,h1⟩,hs⟩:=h.head;exact⟨p,e,hs _ h1⟩
theorem Wd.back(h:Wd W wr (f p o::ts)):Wd W wr (thN f (aN p) (some o)::ts):=by
 obtain⟨K,h1,hs⟩:=h.head;exact hs _ ⟨p,rfl,h1⟩
theorem Wd.isN(h:Wd W wr (thN f v none::ts)):v=.pointer none:=by
 obtain⟨K,h1,_⟩:=h.head;exact h1.1
theorem Wd.mkNil(h:Wd W wr ts):Wd W wr (thN f (.pointer none) none::ts):=h.new (K:=[]) (Fr.refl _ _) ⟨rfl,rfl⟩ (by simp)
theorem aSG(h:Wd W wr (thN thO v so::ts)):Calls Tryz.prog 18 #[v] wr fun e w' =>e=.returned (.tuple #[.int .i64 (qL so).length,.int .i64 (bD (qL so)).length,.int .i64 (oJ (qL so):Nat)])/\Wd W w' (thN thO v so::ts):=by
 cases so with
 | none=>{
 obtain rfl:=h.isN;refine(aMR (eS.none wr)).mono ?_;rintro _ w' ⟨rfl,hF⟩;exact⟨rfl,hF▸h⟩}
 | some o=>{
 obtain⟨p,rfl,h1⟩:=h.isW;refine(aQZ h1).mono ?_;rintro _ w' ⟨rfl,hF⟩;exact⟨rfl,(h1.fr0 hF).back⟩}
theorem aSH(h:Wd W wr (thN thO v so::ts)):Calls Tryz.prog 23 #[v] wr fun e w' =>e=.returned (.tuple #[.int .u64 (qA so),.int .u64 (qG so)])/\Wd W w' (thN thO v so::ts):=by
 cases so with
 | none=>{
 obtain rfl:=h.isN;refine(aMS (eS.none wr)).mono ?_;rintro _ w' ⟨rfl,hF⟩;exact⟨rfl,hF▸h⟩}
 | some o=>{
 obtain⟨p,rfl,h1⟩:=h.isW;refine(aRA h1).mono ?_;rintro _ w' ⟨rfl,hF⟩;exact⟨rfl,(h1.fr0 hF).back⟩}
theorem aHY(h:Wd W wr (thN thO v so::ts)):Calls Tryz.prog 22 #[v] wr fun e w' =>e=.returned (.int .u64 (qA so+qG so:Nat))/\Wd W w' (thN thO v so::ts):=by
 cases so with
 | none=>{
 obtain rfl:=h.isN;refine(aFI (eS.none wr)).mono ?_;rintro _ w' ⟨rfl,hF⟩;exact⟨rfl,hF▸h⟩}
 | some o=>{
 obtain⟨p,rfl,h1⟩:=h.isW;refine(aHM h1).mono ?_;rintro _ w' ⟨rfl,hF⟩;exact⟨rfl,(h1.fr0 hF).back⟩}
theorem bAY(h:Wd W wr (thN thO v so::ts)):Calls Tryz.prog 16 #[v] wr fun e w' =>e=.returned (.int .i64 (qN so))/\Wd W w' (thN thO v so::ts):=by
 cases so with
 | none=>{
 obtain rfl:=h.isN;refine(aWT (eS.none wr)).mono ?_;rintro _ w' ⟨rfl,hF⟩;exact⟨rfl,hF▸h⟩}
 | some o=>{
 obtain⟨p,rfl,h1⟩:=h.isW;refine(bAJ h1).mono ?_;rintro _ w' ⟨rfl,hF⟩;exact⟨rfl,hF▸h1.back⟩}
theorem aAK(h:Wd W wr (thN thO v so::ts)):Calls Tryz.prog 33 #[v] wr fun e w' =>e=.returned (.agg #[.int .i64 (qM so),.int .i64 (qE so),.int .i64 (qV so),.int .i64 (qD so)])/\Wd W w' (thN thO v so::ts):=by
 cases so with
 | none=>{
 obtain rfl:=h.isN;refine(aHX (eS.none wr)).mono ?_;rintro _ w' ⟨rfl,hF⟩;exact⟨rfl,h.fr0 hF⟩}
 | some o=>{
 obtain⟨p,rfl,h1⟩:=h.isW;refine(aMI h1).mono ?_;rintro _ w' ⟨rfl,hF⟩;exact⟨rfl,(h1.fr0 hF).back⟩}
theorem aWW(h:Wd W wr (thN thO v so::ts))(u x:Nat)(hu:u<18446744073709551616)(hx:x<18446744073709551616):Calls Tryz.prog 15 #[v,.int .u64 u,.int .u64 x] wr fun e w' =>e=.returned (.tuple #[.bool (jM (qL so) u x),.int .i64 (qC so u x)])/\Wd W w' (thN thO v so::ts):=by
 cases so with
 | none=>{
 obtain rfl:=h.isN;refine(xT (eS.none wr) u x).mono ?_;rintro _ w' ⟨rfl,hF⟩;exact⟨by rw[show qL none=[] from rfl,aAI];rfl,hF▸h⟩}
 | some o=>{
 obtain⟨p,rfl,h1⟩:=h.isW;refine(aVV h1 u x hu hx).mono ?_;rintro _ w' ⟨rfl,hF⟩;exact⟨rfl,hF.back⟩}
theorem aWX(h:Wd W wr (thN thO v so::ts))(u:Nat)(hu:u<18446744073709551616):Calls Tryz.prog 26 #[v,.int .u64 u] wr fun e w' =>e=.returned (.tuple #[.int .i64 (lW (qL so) u:Nat),.int .i64 (qC so u u)])/\Wd W w' (thN thO v so::ts):=by
 cases so with
 | none=>{
 obtain rfl:=h.isN;refine(aSE (eS.none wr) u).mono ?_;rintro _ w' ⟨rfl,hF⟩;exact⟨by rw[show qL none=[] from rfl,aAJ];rfl,hF▸h⟩}
 | some o=>{
 obtain⟨p,rfl,h1⟩:=h.isW;refine(aVW h1 u hu).mono ?_;rintro _ w' ⟨rfl,hF⟩;exact⟨rfl,hF.back⟩}
theorem aSI(h:Wd W wr (thN thO v so::ts))(u x:Nat)(hu:u<18446744073709551616)(hx:x<18446744073709551616):Calls Tryz.prog 14 #[v,.int .u64 u,.int .u64 x] wr fun e w' =>e=.returned (.tuple #[.int .i64 (oC (qL so) u x),.bool (jZ (qL so) u x),.int .i64 (qC so u x)])/\Wd W w' (thN thO v so::ts):=by
 cases so with
 | none=>{
 obtain rfl:=h.isN;refine(aMT (eS.none wr) u x).mono ?_;rintro _ w' ⟨rfl,hF⟩;exact⟨by rw[show qL none=[] from rfl,aFJ,wZ];rfl,hF▸h⟩}
 | some o=>{
 obtain⟨p,rfl,h1⟩:=h.isW;refine(aQY h1 u x hu hx).mono ?_;rintro _ w' ⟨rfl,hF⟩;exact⟨rfl,hF.back⟩}
theorem aSJ(h:Wd W wr (thN thO v so::ts))(u x:Nat)(hu:u<18446744073709551616)(hx:x<18446744073709551616)(wt t:Int)(ht1:-9223372036854775808<=t)(ht2:t<=9223372036854775807):Calls Tryz.prog 21 #[v,iK u x wt t] wr fun e w' =>e=.returned (.int .i64 (aYA so u x t:Nat))/\Wd W w' (thN thO v (qAdd so u x wt t)::ts):=by
 cases so with
 | none=>{
 obtain rfl:=h.isN;refine(aWV (eS.none wr) u x wt t).mono ?_;rintro _ w' ⟨rfl,hF⟩;exact⟨rfl,h.fr0 hF⟩}
 | some o=>{
 obtain⟨p,rfl,h1⟩:=h.isW;refine(bAL h1 u x hu hx wt t ht1 ht2).mono ?_;rintro _ w' ⟨rfl,hF⟩;exact⟨rfl,hF.back⟩}
theorem aWY(h:Wd W wr (thN thO v so::ts))(t:Int)(ht1:-9223372036854775808<=t)(ht2:t<=9223372036854775807):Calls Tryz.prog 17 #[v,.int .i64 t] wr fun e w' =>e=.returned (.int .i64 (aSF so t))/\Wd W w' (thN thO v (aYB so t)::ts):=by
 cases so with
 | none=>{
 obtain rfl:=h.isN;refine(aSD (eS.none wr) t).mono ?_;rintro _ w' ⟨rfl,hF⟩;exact⟨rfl,hF▸h⟩}
 | some o=>{
 obtain⟨p,rfl,h1⟩:=h.isW;refine(aVZ h1 t ht1 ht2).mono ?_;rintro _ w' ⟨rfl,hF⟩;exact⟨rfl,hF.back⟩}
theorem aWZ(h:Wd W wr (thN thO v so::ts)):Calls Tryz.prog 20 #[v] wr fun e w' =>∃v', e=.returned v' /\ Wd W w' (thN thO v' so::thN thO v so::ts):=by
 cases so with
 | none=>{
 obtain rfl:=h.isN;refine(aSC (eS.none wr)).mono ?_;rintro _ w' ⟨rfl,hF⟩;exact⟨_,rfl,(hF▸h).mkNil⟩}
 | some o=>{
 obtain⟨p,rfl,h1⟩:=h.isW;refine(aVY h1).mono ?_;rintro _ w' ⟨q,rfl,hF⟩;exact⟨_,rfl,hF.swap.back.swap.back⟩}
theorem bAZ(h:Wd W wr (thN thO v so::ts)):Calls Tryz.prog 24 #[v] wr fun e w' =>∃v', e=.returned v' /\ Wd W w' (thU v' (bD (qL so))::thN thO v so::ts):=by
 cases so with
 | none=>{
 obtain rfl:=h.isN;refine(aWU (eS.none wr)).mono ?_;rintro _ w' ⟨rfl,hF⟩;exact⟨_,rfl,(hF▸h).new (K:=[]) (Fr.refl _ _) ⟨⟨rfl,.inl ⟨rfl,rfl⟩⟩,rfl⟩ (by simp)⟩}
 | some o=>{
 obtain⟨p,rfl,h1⟩:=h.isW;refine(bAK h1).mono ?_;rintro _ w' ⟨q,rfl,hF⟩;exact⟨_,rfl,hF.swap.back.swap⟩}
theorem aXA(h:Wd W wr (thN thO v so::ts)):Calls Tryz.prog 19 #[v] wr fun e w' =>∃v' l,e=.returned v' /\ (l.map dT=qL so/\(l.map (·.slot)).Nodup/\∀e∈l,e.slot<qE so)/\Wd W w' (thV v' l::thN thO v so::ts):=by
 cases so with
 | none=>{
 obtain rfl:=h.isN;refine(aSB (eS.none wr)).mono ?_;rintro _ w' ⟨rfl,hF⟩;exact⟨_,[],rfl,⟨rfl,.nil,by simp⟩,(hF▸h).new (K:=[]) (Fr.refl _ _) ⟨⟨rfl,.inl ⟨rfl,rfl⟩⟩,rfl⟩ (by simp)⟩}
 | some o=>{
 obtain⟨p,rfl,h1⟩:=h.isW;refine(aVX h1).mono ?_;rintro _ w' ⟨q,l,rfl,hl,hF⟩;exact⟨_,l,rfl,hl,hF.swap.back.swap⟩}
theorem aSK(h:Wd W wr (thN thF v so::ts))(hok:QOk so):Calls Tryz.prog 61 #[v] wr fun e w' =>e=.returned (.tuple #[.int .i64 (qL so).length,.int .i64 (bD (qL so)).length,.int .i64 (oJ (qL so):Nat)])/\Wd W w' (thN thF v so::ts):=by
 cases so with
 | none=>{
 obtain rfl:=h.isN;refine(aRZ).mono ?_;rintro _ w' ⟨rfl,hF⟩;exact⟨rfl,hF▸h⟩}
 | some o=>{
 obtain⟨p,rfl,h1⟩:=h.isW;refine(aRY h1 (Ob.lenE (hok o rfl))).mono ?_;rintro _ w' ⟨rfl,hF⟩;exact⟨rfl,(h1.fr0 hF).back⟩}
theorem aSL(h:Wd W wr (thN thF v so::ts)):Calls Tryz.prog 62 #[v] wr fun e w' =>e=.returned (.tuple #[.int .u64 (qA so),.int .u64 (qG so)])/\Wd W w' (thN thF v so::ts):=by
 cases so with
 | none=>{
 obtain rfl:=h.isN;refine(aFH).mono ?_;rintro _ w' ⟨rfl,hF⟩;exact⟨rfl,hF▸h⟩}
 | some o=>{
 obtain⟨p,rfl,h1⟩:=h.isW;refine(aFF h1).mono ?_;rintro _ w' ⟨rfl,hF⟩;exact⟨rfl,(h1.fr0 hF).back⟩}
theorem aHZ(h:Wd W wr (thN thF v so::ts))(hok:QOk so):Calls Tryz.prog 63 #[v] wr fun e w' =>e=.returned (.int .u64 (qA so+qG so:Nat))/\Wd W w' (thN thF v so::ts):=by
 cases so with
 | none=>{
 obtain rfl:=h.isN;refine(aHW).mono ?_;rintro _ w' ⟨rfl,hF⟩;exact⟨rfl,hF▸h⟩}
 | some o=>{
 obtain⟨p,rfl,h1⟩:=h.isW;refine(aHS h1 (by have h2:=(hok o rfl).last;have h3:=(hok o rfl).max;omega)).mono ?_;rintro _ w' ⟨rfl,hF⟩;exact⟨rfl,(h1.fr0 hF).back⟩}
theorem bBA(h:Wd W wr (thN thF v so::ts)):Calls Tryz.prog 64 #[v] wr fun e w' =>e=.returned (.int .i64 (qN so))/\Wd W w' (thN thF v so::ts):=by
 cases so with
 | none=>{
 obtain rfl:=h.isN;refine(bAV).mono ?_;rintro _ w' ⟨rfl,hF⟩;exact⟨rfl,hF▸h⟩}
 | some o=>{
 obtain⟨p,rfl,h1⟩:=h.isW;refine(bAS h1).mono ?_;rintro _ w' ⟨rfl,hF⟩;exact⟨rfl,hF▸h1.back⟩}
theorem aMU(h:Wd W wr (thN thF v so::ts)):Calls Tryz.prog 65 #[v] wr fun e w' =>e=.returned (.agg #[.int .i64 (qM so),.int .i64 (qE so),.int .i64 (qV so),.int .i64 (qD so)])/\Wd W w' (thN thF v so::ts):=by
 cases so with
 | none=>{
 obtain rfl:=h.isN;refine(aMQ).mono ?_;rintro _ w' ⟨rfl,hF⟩;exact⟨rfl,h.fr0 hF⟩}
 | some o=>{
 obtain⟨p,rfl,h1⟩:=h.isW;refine(aMM h1).mono ?_;rintro _ w' ⟨rfl,hF⟩;exact⟨rfl,(h1.fr0 hF).back⟩}
theorem aXB(h:Wd W wr (thN thF v so::ts))(hok:QOk so)(u x:Nat):Calls Tryz.prog 74 #[v,.int .u64 u,.int .u64 x] wr fun e w' =>e=.returned (.tuple #[.bool (jM (qL so) u x),.int .i64 (qC so u x)])/\Wd W w' (thN thF v so::ts):=by
 cases so with
 | none=>{
 obtain rfl:=h.isN;refine(aWR u x).mono ?_;rintro _ w' ⟨rfl,hF⟩;exact⟨by rw[show qL none=[] from rfl,aAI];rfl,h.fr0 hF⟩}
 | some o=>{
 obtain⟨p,rfl,h1⟩:=h.isW;refine(aWM h1 (Ob.lenE (hok o rfl)) u x).mono ?_;rintro _ w' ⟨rfl,hF⟩;exact⟨rfl,hF.back⟩}
theorem aXC(h:Wd W wr (thN thF v so::ts))(hok:QOk so)(u:Nat):Calls Tryz.prog 75 #[v,.int .u64 u] wr fun e w' =>e=.returned (.tuple #[.int .i64 (lW (qL so) u:Nat),.int .i64 (qC so u u)])/\Wd W w' (thN thF v so::ts):=by
 cases so with
 | none=>{
 obtain rfl:=h.isN;refine(aWS u).mono ?_;rintro _ w' ⟨rfl,hF⟩;exact⟨by rw[show qL none=[] from rfl,aAJ];rfl,h.fr0 hF⟩}
 | some o=>{
 obtain⟨p,rfl,h1⟩:=h.isW;refine(aWN h1 (Ob.lenE (hok o rfl)) u).mono ?_;rintro _ w' ⟨rfl,hF⟩;exact⟨rfl,hF.back⟩}
theorem aSM(h:Wd W wr (thN thF v so::ts))(hok:QOk so)(u x:Nat):Calls Tryz.prog 76 #[v,.int .u64 u,.int .u64 x] wr fun e w' =>e=.returned (.tuple #[.int .i64 (oC (qL so) u x),.bool (jZ (qL so) u x),.int .i64 (qC so u x)])/\Wd W w' (thN thF v so::ts):=by
 cases so with
 | none=>{
 obtain rfl:=h.isN;refine(aSA u x).mono ?_;rintro _ w' ⟨rfl,hF⟩;exact⟨by rw[show qL none=[] from rfl,aFJ,wZ];rfl,h.fr0 hF⟩}
 | some o=>{
 obtain⟨p,rfl,h1⟩:=h.isW;refine(aRW h1 (Ob.lenE (hok o rfl)) (fun e he=>by have h2:=(hok o rfl).x e he;unfold gM;omega) u x).mono ?_;rintro _ w' ⟨rfl,hF⟩;exact⟨rfl,hF.back⟩}
theorem bBB(h:Wd W wr (thN thF v so::ts))(hok:QOk so)(u x:Nat)(wt t:Int)(ht2:t<=9223372036854775807):Calls Tryz.prog 71 #[v,iK u x wt t] wr fun e w' =>e=.returned (.int .i64 (aYA so u x t:Nat))/\Wd W w' (thN thF v (qAdd so u x wt t)::ts):=by
 cases so with
 | none=>{
 obtain rfl:=h.isN;refine(bAX u x wt t).mono ?_;rintro _ w' ⟨rfl,hF⟩;exact⟨rfl,h.fr0 hF⟩}
 | some o=>{
 obtain⟨p,rfl,h1⟩:=h.isW;refine(bAU h1 (hok o rfl) u x wt t ht2).mono ?_;rintro _ w' ⟨rfl,hF⟩;exact⟨rfl,hF.back⟩}
theorem aXD(h:Wd W wr (thN thF v so::ts))(hok:QOk so)(t:Int)(ht2:t<=9223372036854775807):Calls Tryz.prog 72 #[v,.int .i64 t] wr fun e w' =>e=.returned (.int .i64 (aSF so t))/\Wd W w' (thN thF v (aYB so t)::ts):=by
 cases so with
 | none=>{
 obtain rfl:=h.isN;refine(aWQ t).mono ?_;rintro _ w' ⟨rfl,hF⟩;exact⟨rfl,hF▸h⟩}
 | some o=>{
 obtain⟨p,rfl,h1⟩:=h.isW;refine(aJW h1 (hok o rfl) t ht2).mono ?_;rintro _ w' ⟨rfl,hF⟩;exact⟨rfl,hF.back⟩}
theorem aXE(h:Wd W wr (thN thF v so::ts))(hok:QOk so):Calls Tryz.prog 73 #[v] wr fun e w' =>∃v', e=.returned v' /\ Wd W w' (thN thF v' so::thN thF v so::ts):=by
 cases so with
 | none=>{
 obtain rfl:=h.isN;refine(aWP).mono ?_;rintro _ w' ⟨rfl,hF⟩;exact⟨_,rfl,(hF▸h).mkNil⟩}
 | some o=>{
 obtain⟨p,rfl,h1⟩:=h.isW;refine(aWL h1 (Ob.lenE (hok o rfl))).mono ?_;rintro _ w' ⟨q,rfl,hF⟩;exact⟨_,rfl,hF.swap.back.swap.back⟩}
theorem bBC(h:Wd W wr (thN thF v so::ts))(hok:QOk so):Calls Tryz.prog 67 #[v] wr fun e w' =>∃v', e=.returned v' /\ Wd W w' (thU v' (bD (qL so))::thN thF v so::ts):=by
 cases so with
 | none=>{
 obtain rfl:=h.isN;refine(bAW).mono ?_;rintro _ w' ⟨rfl,hF⟩;exact⟨_,rfl,(hF▸h).new (K:=[]) (Fr.refl _ _) ⟨⟨rfl,.inl ⟨rfl,rfl⟩⟩,rfl⟩ (by simp)⟩}
 | some o=>{
 obtain⟨p,rfl,h1⟩:=h.isW;refine(bAT h1 (Ob.lenE (hok o rfl))).mono ?_;rintro _ w' ⟨q,rfl,hF⟩;exact⟨_,rfl,hF.swap.back.swap⟩}
theorem aXF(h:Wd W wr (thN thF v so::ts))(hok:QOk so):Calls Tryz.prog 66 #[v] wr fun e w' =>∃v', e=.returned v' /\ Wd W w' (thV v' (qL so)::thN thF v so::ts):=by
 cases so with
 | none=>{
 obtain rfl:=h.isN;refine(aWO).mono ?_;rintro _ w' ⟨rfl,hF⟩;exact⟨_,rfl,(hF▸h).new (K:=[]) (Fr.refl _ _) ⟨⟨rfl,.inl ⟨rfl,rfl⟩⟩,rfl⟩ (by simp)⟩}
 | some o=>{
 obtain⟨p,rfl,h1⟩:=h.isW;refine(aJV h1 (Ob.lenE (hok o rfl))).mono ?_;rintro _ w' ⟨a,c,rfl,hF⟩;exact⟨_,rfl,hF.swap.back.swap⟩}
end
def aXG(a b c d a' b' c' d' :Int):Bool:=(a == a')&&(b == b')&&(c == c')&&(d == d')
theorem aMV(a b c d:Int):aXG a b c d a b c d=true:=by simp[aXG]
@[go_sem high] theorem bBD(a b c d a' b' c' d' :Int)(w:World):(Op.equalIn 10000 55 (.agg #[.int .i64 a,.int .i64 b,.int .i64 c,.int .i64 d]) (.agg #[.int .i64 a', .int .i64 b', .int .i64 c', .int .i64 d'])).run Tryz.prog w=.ok (aXG a b c d a' b' c' d') w:=by
 rw[show(10000:Nat)=9999+1 from rfl,run_equalIn_struct w 9999 _ _ _ (by kernel_rfl) (by kernel_rfl)];unfold aXG;simp only[Program.fieldsOf,Tryz.underlying55,Op.eqFields];go_simp;by_cases h1:a=a' <;> by_cases h2:b=b' <;> by_cases h3:c=c' <;> by_cases h4:d=d' <;> simp[h1,h2,h3,h4]
@[go_sem] theorem aYC(op:BinOp)(x y:Operand)(xs ys:Array Value)(w:World):(eqGuard op 55 x y (.agg xs) (.agg ys)).run Tryz.prog w=.ok () w:=run_eqGuard_agg w op 55 x y xs ys (by kernel_rfl)
theorem Ob.ids_le{o:Ob}(h:o.Ok):(bD o.L).length<=65536:=by have:=h.leV;have:=h.mV;omega
section
variable {W wr:World} {v d:Value} {so:Option Ob} {ts:List Th}
@[go_sem] theorem bCN(a b c e:Int)(w:World):(Instr.field 55 (.agg #[.int .i64 a,.int .i64 b,.int .i64 c,.int .i64 e]) 1).run Tryz.prog w=.ok (.int .i64 b) w:=by kernel_rfl
theorem Hs.under{n:Nat}{t:Th}{ts us:List Th}{K:List Nat}(h:Hs n wr (t::ts) K)(hu:∀K,Hs n wr ts K->∃K', Hs n wr us K' /\ ∀q∈K', q∈K):∃K', Hs n wr (t::us) K' /\ ∀q∈K', q∈K:=by
 obtain⟨K1,K2,h2,h3,h4,h5,rfl⟩:=h;obtain⟨K', k1,k2⟩:=hu K2 h4;exact⟨K1++K', ⟨K1,K', h2,h3,k1,fun q hq hm=>h5 q hq (k2 q hm),rfl⟩,fun q hq=>by simp only[qJ]at hq ⊢;exact hq.imp id (k2 q)⟩
theorem Wd.fourth{a b c d:Th}{ts:List Th}(h:Wd W wr (a::b::c::d::ts)):Wd W wr (d::a::b::c::ts):=
  (h.under fun _ hk=>by
 obtain⟨K1,k1,s1⟩:=Hs.under hk (fun _=>Hs.swap);obtain⟨K2,k2,s2⟩:=Hs.swap k1;exact⟨K2,k2,fun q hq=>s1 q (s2 q hq)⟩).swap
theorem aXH(h:QOk so):(qL so).map dT=qL so:=by
 cases so with
 | none=>rfl
 | some o=>{
 refine(List.map_congr_left fun e he=>?_).trans (List.map_id _);have:=(h o rfl).sl e he;show { e with slot:=0 }=e
 rw[<-this]}
theorem QOk.len(h:QOk so):(qL so).length<=16384:=by
 cases so with
 | none=>exact zB _
 | some o=>exact Ob.lenE (h o rfl)
theorem QOk.ids(h:QOk so):(bD (qL so)).length<=65536:=by
 cases so with
 | none=>exact zB _
 | some o=>exact Ob.ids_le (h o rfl)
theorem aJX(h:Wd W wr (thN thO v so::thN thF d so::ts))(hok:QOk so)(u x:Nat)(hu:u<18446744073709551616)(hx:x<18446744073709551616):
    Calls Tryz.prog 36 #[v,d,.int .u64 u,.int .u64 x] wr fun e w' =>e=.returned (.bool true)/\Wd W w' (thN thO v so::thN thF d so::ts):=by
 have HO:=qB (zR hok (zR hu hx));clear hok hu hx;have hW:=h;clear h;go_enter Tryz.func36,Tryz.ntmps36
 have H:=qB (aWW hW u x HO.out.2.1 HO.out.2.2);clear hW;go_wp2_with fail
 refine H.out.mono ?_;rintro _ w1 ⟨rfl,hV⟩;have hW:=hV.swap;clear H hV;have H:=qB (aXB hW HO.out.1 u x);clear hW;go_wp2_with fail
 refine H.out.mono ?_;rintro _ w1 ⟨rfl,hV⟩;have hW:=hV.swap;clear H hV;have H:=qB (aWX hW u HO.out.2.1);clear hW;go_wp2_with fail
 refine H.out.mono ?_;rintro _ w1 ⟨rfl,hV⟩;have hW:=hV.swap;clear H hV;have H:=qB (aXC hW HO.out.1 u);clear hW;go_wp2_with fail
 refine H.out.mono ?_;rintro _ w1 ⟨rfl,hV⟩;have hW:=hV.swap;clear H hV;have H:=qB (aSI hW u x HO.out.2.1 HO.out.2.2);clear hW;go_wp2_with fail
 refine H.out.mono ?_;rintro _ w1 ⟨rfl,hV⟩;have hW:=hV.swap;clear H hV;have H:=qB (aSM hW HO.out.1 u x);clear hW;go_wp2_with fail
 refine H.out.mono ?_;rintro _ w1 ⟨rfl,hV⟩;have hW:=hV.swap;clear H hV;have HW:=qB hW;clear hW;go_wp2_with fail
 go_ret;exact⟨rfl,HW.out⟩
theorem aJY(h:Wd W wr (thN thO v so::thN thF d so::ts))(hok:QOk so)(u x:Nat)(hu:u<18446744073709551616)(hx:x<18446744073709551616):
    Calls Tryz.prog 28 #[v,d,.int .u64 u,.int .u64 x] wr fun e w' =>e=.returned (.bool true)/\Wd W w' (thN thO v so::thN thF d so::ts):=by
 have HO:=qB (zR hok (zR hu hx));clear hok hu hx;have hW:=h;clear h;have hcf:=aMV (qM so) (qE so) (qV so) (qD so);go_enter Tryz.func28,Tryz.ntmps28
 have H:=qB (aSG hW);clear hW;go_wp2_with fail
 refine H.out.mono ?_;rintro _ w1 ⟨rfl,hV⟩;have hW:=hV.swap;clear H hV;have H:=qB (aSK hW HO.out.1);clear hW;go_wp2_with fail
 refine H.out.mono ?_;rintro _ w1 ⟨rfl,hV⟩;have hW:=hV.swap;clear H hV;have H:=qB (aSH hW);clear hW;go_wp2_with fail
 refine H.out.mono ?_;rintro _ w1 ⟨rfl,hV⟩;have hW:=hV.swap;clear H hV;have H:=qB (aSL hW);clear hW;go_wp2_with fail
 refine H.out.mono ?_;rintro _ w1 ⟨rfl,hV⟩;have hW:=hV.swap;clear H hV;have H:=qB (aHY hW);clear hW;go_wp2_with fail
 refine H.out.mono ?_;rintro _ w1 ⟨rfl,hV⟩;have hW:=hV.swap;clear H hV;have H:=qB (aHZ hW HO.out.1);clear hW;go_wp2_with fail
 refine H.out.mono ?_;rintro _ w1 ⟨rfl,hV⟩;have hW:=hV.swap;clear H hV;have H:=qB (bAY hW);clear hW;go_wp2_with fail
 refine H.out.mono ?_;rintro _ w1 ⟨rfl,hV⟩;have hW:=hV.swap;clear H hV;have H:=qB (bBA hW);clear hW;go_wp2_with fail
 refine H.out.mono ?_;rintro _ w1 ⟨rfl,hV⟩;have hW:=hV.swap;clear H hV;have H:=qB (aAK hW);clear hW;go_wp2_with fail
 refine H.out.mono ?_;rintro _ w1 ⟨rfl,hV⟩;have hW:=hV.swap;clear H hV;have H:=qB (aMU hW);clear hW;go_wp2_with fail
 refine H.out.mono ?_;rintro _ w1 ⟨rfl,hV⟩;have hW:=hV.swap;clear H hV;have H:=qB (aXA hW);clear hW;go_wp2_with fail
 refine H.out.mono ?_;rintro _ w1 ⟨v1,l1,rfl,hl1,hW⟩;have H:=qB (aXF hW.third HO.out.1);have HL1:=qB hl1;clear hW hl1 hcf;go_wp2_with fail
 refine H.out.mono ?_;rintro _ w1 ⟨v2,rfl,hW⟩;have H:=qB (aAK hW.fourth);clear hW;go_wp2_with fail
 refine H.out.mono ?_;rintro _ w1 ⟨rfl,hW⟩;have hlen1:l1.length=(qL so).length:=by rw[<-HL1.out.1,List.length_map]
 have H:=qB (aWB (n:=qE so) hW.fourth.rowV hW.swap.rowV (HL1.out.1.trans (aXH HO.out.1).symm) HL1.out.2.1 HL1.out.2.2 (by rw[hlen1];have:=HO.out.1.len;omega));have HW:=qB hW.drop2.drop3;clear hW hlen1;go_wp2_with fail
 refine H.out.mono ?_;rintro _ w1 ⟨rfl,hF⟩;have hW:=HW.out.fr0 hF;have H:=qB (bAZ hW);clear hF hW HW HL1;go_wp2_with fail
 refine H.out.mono ?_;rintro _ w1 ⟨v3,rfl,hW⟩;have H:=qB (bBC hW.third HO.out.1);clear hW;go_wp2_with fail
 refine H.out.mono ?_;rintro _ w1 ⟨v4,rfl,hW⟩;have H:=qB (aWC hW.third.rowU hW.rowU HO.out.1.ids);have HW:=qB (hW.drop.drop2.swap);clear hW;go_wp2_with fail
 refine H.out.mono ?_;rintro _ w1 ⟨rfl,hF⟩;have H:=qB (aJX (HW.out.fr0 hF) HO.out.1 u x HO.out.2.1 HO.out.2.2);clear hF HW;go_wp2_with fail
 refine H.out.mono ?_;rintro _ w1 ⟨rfl,hW⟩;have H:=qB (aJX hW HO.out.1 u u HO.out.2.1 HO.out.2.1);clear hW;go_wp2_with fail
 refine H.out.mono ?_;rintro _ w1 ⟨rfl,hW⟩;have HW:=qB hW;clear hW H;go_wp2_with fail
 go_ret;exact⟨rfl,HW.out⟩
end
end Go.Proofs.YtgmnemndjjmgkaaGreat
