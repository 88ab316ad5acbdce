/- Configurations that are valid. -/
import Derived.Test.YtjdgpcjbgjnahaaGreatDoorH9
import Derived.Test.YtjdgpcjbgjnahaaGreatDoorH3
import Derived.RangeFuncNested
import Derived.RangeFuncCalls
import Derived.Test.YtjdgpcjbgjnahaaGreatDoorH1
import Derived.RangeFuncBox
import Derived.RangeFuncLeaves
import Derived.Shelf.Abstract
import Derived.WalkKit
import Derived.OwnWalkIn
import Derived.TacticsInMore
import Derived.LoopNIn
import Derived.LoopIn
import Derived.Maps.AppendAt
import Derived.Ground.SlmcProg
import Derived.Shelf.SlMaps.Clone
import Derived.StillTailTactics
import Derived.Test.YtjdgpcjbgjnahaaGreatDoorH8
import Derived.Test.YtjdgpcjbgjnahaaGreatDoorH7
import Derived.Deep.RegionHeld3
import Derived.Shelf.SlGeneric
import Derived.Ground.SlgnProg
import Derived.Shelf.SlicesE.Clone
set_option maxRecDepth 10000
set_option maxHeartbeats 1600000
set_option linter.unusedSimpArgs false
set_option linter.unusedVariables false
/- A window: an edge is put into its parts. -/
namespace Go.Proofs.YtjdgpcjbgjnahaaGreatDoor
open Go.RowKit
def IS(w0:World)(K:List Nat)(wr:World)(pw pc ps px pf:Nat)(P:Wp)(Ks lx Lf:List Nat)(Z:List (Nat×TypeId×List Value)):Prop:=
  (∃cl,eP wr pw pc ps px pf P Ks lx Lf cl)/\Fr K w0 wr/\(∀q∈eE pw pc Ks lx Lf,q∈K∨w0.heap.size<=q)/\∀z∈Z,Blk wr z.1 z.2.1 z.2.2/\z.1∉eE pw pc Ks lx Lf
section
variable {w0 wr w' :World} {K Ks Ks' lx lx' Lf Lf' :List Nat} {pw pc ps px pf:Nat} {P P' :Wp} {Z:List (Nat×TypeId×List Value)}
theorem IS.start{cl:Nat->Nat}(h:eP wr pw pc ps px pf P Ks lx Lf cl):IS wr (eE pw pc Ks lx Lf) wr pw pc ps px pf P Ks lx Lf []:=⟨⟨cl,h⟩,Fr.refl _ _,fun q hq=>.inl hq,by simp⟩
theorem IS.sub(h:IS w0 K wr pw pc ps px pf P Ks lx Lf Z){Y:List (Nat×TypeId×List Value)}(hy:∀y∈Y,y∈Z):IS w0 K wr pw pc ps px pf P Ks lx Lf Y:=⟨h.1,h.2.1,h.2.2.1,fun y hm=>h.2.2.2 y (hy y hm)⟩
theorem IS.step(h:IS w0 K wr pw pc ps px pf P Ks lx Lf Z){X:List Nat}(hB:∃cl,eP w' pw pc ps px pf P' Ks' lx' Lf' cl)(hF:Fr X wr w')(hX:∀q∈X,q∈eE pw pc Ks lx Lf)(hn:∀q∈eE pw pc Ks' lx' Lf', q∈eE pw pc Ks lx Lf∨wr.heap.size<=q):
    IS w0 K w' pw pc ps px pf P' Ks' lx' Lf' Z:=by
 obtain⟨_,hF0,hn0,hZ⟩:=h;have hs:=hF0.size;refine⟨hB,hF0.trans hF (fun b hb=>hn0 b (hX b hb)),fun q hq=>?_,fun z hz=>⟨hF.blk (hZ z hz).1 (fun hm=>(hZ z hz).2 (hX _ hm)),fun hm=>?_⟩⟩
 {
 rcases hn q hq with e|e
 · exact hn0 q e
 · exact .inr (by omega)}
 {
 rcases hn _ hm with e|e
 · exact(hZ z hz).2 e
 · have:=(hZ z hz).1.lt;omega}
theorem IS.fr0(h:IS w0 K wr pw pc ps px pf P Ks lx Lf Z)(hf:Fr [] wr w'):IS w0 K w' pw pc ps px pf P Ks lx Lf Z:=by
 obtain⟨cl,hB⟩:=h.1;exact h.step ⟨cl,hB.fr0 hf⟩ hf (by simp) (fun q hq=>.inl hq)
theorem IS.box(h:IS w0 K wr pw pc ps px pf P Ks lx Lf Z)(l:List Value)(t:TypeId):IS w0 K (wr.alloc (.cells l.toArray t)) pw pc ps px pf P Ks lx Lf ((wr.heap.size,t,l)::Z):=by
 have h1:=h.fr0 ((Fr.refl [] wr).alloc (.cells l.toArray t));refine⟨h1.1,h1.2.1,h1.2.2.1,fun z hz=>?_⟩;rcases qB.1 hz with rfl|hz
 {
 refine⟨Blk.new wr l t,fun hm=>?_⟩;obtain⟨cl,hB⟩:=h.1;have:=hB.lt _ hm;exact absurd this (Nat.lt_irrefl _)}
 · exact h1.2.2.2 z hz
theorem IS.other(h:IS w0 K wr pw pc ps px pf P Ks lx Lf Z){X:List Nat}(hF:Fr X wr w')(hX:∀q∈X,w0.heap.size<=q/\q∉eE pw pc Ks lx Lf/\∀z∈Z,z.1≠q):IS w0 K w' pw pc ps px pf P Ks lx Lf Z:=by
 obtain⟨⟨cl,hB⟩,hF0,hn0,hZ⟩:=h;exact⟨⟨cl,hB.fr hF (fun q hq hm=>(hX q hm).2.1 hq)⟩,hF0.trans hF (fun b hb=>.inr (hX b hb).1),hn0,fun z hz=>⟨hF.blk (hZ z hz).1 (fun hm=>(hX _ hm).2.2 z hz rfl),(hZ z hz).2⟩⟩
theorem IS.cons(h:IS w0 K wr pw pc ps px pf P Ks lx Lf Z){b:Nat}{t:TypeId}{l:List Value}(hb:Blk wr b t l)(hn:b∉eE pw pc Ks lx Lf):IS w0 K wr pw pc ps px pf P Ks lx Lf ((b,t,l)::Z):=
  ⟨h.1,h.2.1,h.2.2.1,fun z hz=>by
 rcases qB.1 hz with rfl|hz
 · exact⟨hb,hn⟩
 · exact h.2.2.2 z hz⟩
theorem aEP{q:Nat}(h:q∈Ks):q∈eE pw pc Ks lx Lf:=by simp[eE,h]
theorem aKD{q:Nat}(h:q∈lx):q∈eE pw pc Ks lx Lf:=by simp[eE,h]
theorem aOK{q:Nat}(h:q∈Lf):q∈eE pw pc Ks lx Lf:=by simp[eE,h]
theorem IS.st(h:IS w0 K wr pw pc ps px pf P Ks lx Lf Z){s' :Sm}(hs:bG w' ps s' Ks')(hF:Fr Ks wr w')(hq:∀q∈Ks', q∈Ks∨wr.heap.size<=q):IS w0 K w' pw pc ps px pf { P with s:=s' } Ks' lx Lf Z:=by
 obtain⟨cl,hB⟩:=h.1;refine h.step (hB.setSt hs hF hq) hF (fun q hq=>aEP hq) (fun q hm=>?_);simp only[eE,qB,qE]at hm ⊢;rcases hm with e|e|e|e|e
 · simp[e]
 · simp[e]
 · exact(hq q e).imp (fun e=>by simp[e]) id
 · simp[e]
 · simp[e]
theorem IS.sch(h:IS w0 K wr pw pc ps px pf P Ks lx Lf Z){Q' :Nat->Option Int}{nq' :Nat}(hs:fP w' px P.E Q' nq' lx')(hF:Fr lx wr w')(hq:∀q∈lx', q∈lx∨wr.heap.size<=q):IS w0 K w' pw pc ps px pf { P with Q:=Q', nq:=nq' } Ks lx' Lf Z:=by
 obtain⟨cl,hB⟩:=h.1;refine h.step (hB.setSch hs hF hq) hF (fun q hq=>aKD hq) (fun q hm=>?_);simp only[eE,qB,qE]at hm ⊢;rcases hm with e|e|e|e|e
 · simp[e]
 · simp[e]
 · simp[e]
 · exact(hq q e).imp (fun e=>by simp[e]) id
 · simp[e]
theorem IS.fo(h:IS w0 K wr pw pc ps px pf P Ks lx Lf Z){G' :Nat->Option (Nat×Nat×Int)}(hm:FMv wr w' pf P.E P.V G' Lf):∃Lf', IS w0 K w' pw pc ps px pf { P with G:=G' } Ks lx Lf' Z:=by
 obtain⟨cl,hB⟩:=h.1;obtain⟨Lf', h1,h2,h3⟩:=hm;refine⟨Lf', h.step (hB.setFo h1 h2 h3) h2 (fun q hq=>aOK hq) (fun q hm=>?_)⟩;simp only[eE,qB,qE]at hm ⊢;rcases hm with e|e|e|e|e
 · simp[e]
 · simp[e]
 · simp[e]
 · simp[e]
 · exact(h3 q e).imp (fun e=>by simp[e]) id
theorem IS.n(h:IS w0 K wr pw pc ps px pf P Ks lx Lf Z){a g:Nat}(hF:Fr [pw] wr w')(hb:Blk w' pw 38 [.int .i64 P.m,.int .i64 P.E,.int .i64 P.V,.int .i64 P.D,jS pc,iM ps,bQ px,eN pf,.int .u64 a,.int .u64 g]):IS w0 K w' pw pc ps px pf { P with added:=a,gone:=g } Ks lx Lf Z:=by
 obtain⟨cl,hB⟩:=h.1;exact h.step ⟨cl,hB.setN hF hb⟩ hF (fun q hq=>by simp at hq;simp[eE,hq]) (fun q hm=>.inl hm)
theorem IS.blk(h:IS w0 K wr pw pc ps px pf P Ks lx Lf Z){z:Nat×TypeId×List Value}(hz:z∈Z):Blk wr z.1 z.2.1 z.2.2:=(h.2.2.2 z hz).1
end
theorem Sm.idx_lt{s:Sm}(h:s.Ok){u i:Nat}(hf:s.M.find u=some i):i<s.V:=by
 have h1:=(h.md.used _ (Md.find_mem hf)).1;have h2:=h.md.ar.hb;have h3:s.M.ar.slots=s.M.slots:=rfl;have h4:=h.ms;simp only at h1;omega
section
variable {w w' :World} {pw pc ps px pf:Nat} {P:Wp} {Ks lx Lf:List Nat} {cl:Nat->Nat}
theorem vO(h:eP w pw pc ps px pf P Ks lx Lf cl)(hl:Lk P.s P.Q P.G)(hok:P.s.Ok)(hV:P.s.V=P.V)(hE:P.s.E=P.E)(u v:Nat)(hu:u<18446744073709551616)(hv:v<18446744073709551616)(wt t:Int)(ht:0<=t)(htm:t+P.m<=9223372036854775807)(hc:P.s.chk u v=0)(hla:P.s.last+1<=9223372036854775807)(had:P.added+1<=9223372036854775807):
    Calls Tryz.prog 91 #[eA pw,aBW u v wt t] w fun e w' =>e=.returned (.tuple #[])/\∃a b Ks' lx' Lf', (P.s.ins u v wt t (t+P.m)).M.find u=some a/\(P.s.ins u v wt t (t+P.m)).M.find v=some b /\
      IS w (eE pw pc Ks lx Lf) w' pw pc ps px pf { P with s:=P.s.ins u v wt t (t+P.m),Q:=fun j=>if j=P.s.slot then some (t+P.m) else P.Q j,nq:=P.nq+1,G:=fun j=>if j=P.s.slot then some (a,b,t+P.m) else P.G j,added:=P.added+1 } Ks' lx' Lf' []:=by
 have hm1:=h.clk.m1;have hm2:=h.clk.m2;have hI:=(IS.start h).box [.int .u64 u,.int .u64 v,.int .i64 wt,.int .i64 t] 72;obtain⟨w1,hw1⟩:∃w1,w1=w.alloc (.cells #[.int .u64 u,.int .u64 v,.int .i64 wt,.int .i64 t] 72):=⟨_,rfl⟩;obtain⟨x,hx⟩:∃x,x=t+P.m:=⟨_,rfl⟩;obtain⟨xb,hxb⟩:∃xb,xb=w.heap.size:=⟨_,rfl⟩;have hok1:=Sm.ok_ins hok hu hv hc (by omega) wt t x;have hne:u≠v:=(Sm.chk_ok hok hc).1;have hsn:=Sm.slot_next hok hc;have hslt:=sD hok.ar hsn;rw[hok.sl,hE]at hslt;obtain⟨hfq,hfg⟩:=hl.free hok (Md.isUsed_alloc' hok.ar hsn).1;have hmem:P.s.edge u v wt t x∈(P.s.ins u v wt t x).L:=by simp[Sm.ins]
 obtain⟨a,ha⟩:=qV.1 (iB hok1 hmem (x:=u) (by simp[Lv.at,Sm.edge]));obtain⟨b,hb⟩:=qV.1 (iB hok1 hmem (x:=v) (by simp[Lv.at,Sm.edge]));have hal:=Sm.idx_lt hok1 ha;have hbl:=Sm.idx_lt hok1 hb;have hab:a≠b:=fun e=>hne (oH hok1.md ha (by rw[e];exact hb));have hcode:eJ P.E P.V P.G P.s.slot a b=0:=by {
 have e1:inV P.E P.s.slot=true:=by simp[inV];omega
 have hV' :(P.s.ins u v wt t x).V=P.V:=hV;have e2:inV P.V a=true:=by simp[inV];omega
 have e3:inV P.V b=true:=by simp[inV];omega
 unfold eJ;rw[qD ⟨e1,e2,e3⟩,qC (by omega),qC (by simp[hfg])]};have haddG:rK P.E P.V P.G P.s.slot a b x=fun j=>if j=P.s.slot then some (a,b,x) else P.G j:=by {
 unfold rK;rw[qD hcode];funext j
 simp[cM]};rw[<-hw1,<-hxb]at hI;have hsx:gK t P.m=x:=by unfold gK;rw[qD htm,hx]
 have hcx:gJ t P.m=0:=by unfold gJ;rw[qD htm]
 rw[<-hx];have HI:=qA hI;obtain⟨cl1,hB1⟩:=hI.1;have HA:=qA (fun(nq:Nat)=>aRF (hB1.clk.fr0 ((Fr.refl [] w1).drewN nq)) t (by omega) (by omega));rw[hsx,hcx]at HA;have c4:=hB1.hd.cell 4;have hbx:Blk w1 xb 72 [.int .u64 u,.int .u64 v,.int .i64 wt,.int .i64 t]:=hI.blk (z:=(xb,72,[.int .u64 u,.int .u64 v,.int .i64 wt,.int .i64 t])) (by simp);have r0:=hbx.cell 0;have r1:=hbx.cell 1;have r2:=hbx.cell 2;have r3:=hbx.cell 3;simp only[zJ,zK]at c4 r0 r1 r2 r3;have HXR:=qA (show -9223372036854775808<=x/\x<=9223372036854775807 by omega);have HP:=qA (zI hok (zI hc (zI hla (zI hslt (zI hfq (zI ha (zI hb (zI hcode (zI haddG had)))))))));clear hI hbx hB1 hl hok hV hE hc hla hok1 hne hsn hslt hfq hfg hmem ha hb hal hbl hab hcode haddG hsx hcx h had;rw[hw1,hxb]at r0 r1 r2 r3;rw[hw1]at c4;go_enter Tryz.func91,Tryz.ntmps91
 go_wp2_with fail
 rw[<-hw1];rw[<-hw1,<-hxb]at r0 r1 r2 r3;rw[<-hw1]at c4;rw[<-hxb];clear hw1 hxb hx;refine bS 6 (fun w' =>∃nq,w' =w1.drewN nq) (by kernel_rfl) (by kernel_rfl) (by kernel_rfl) ?_;iterate 6 (refine cK (by decide) (fun K hK=>?_);go_simp;refine hK _ ?_;clear hK K)
 refine bL rfl (.tuple #[.int .i64 x,.int .i64 0]) (fun w' hw' =>?_) ?_
 {
 obtain⟨nq,rfl⟩:=hw';go_simp;refine(HA.out nq).mono ?_;rintro _ w1 ⟨rfl,rfl⟩;exact⟨rfl,nq,rfl⟩};iterate 5 (refine jL (by decide) (fun K hK=>?_);go_simp;refine hK _ ?_;clear hK K)
 refine cL ?_;rintro _ ⟨nq,rfl⟩;have hI2:=HI.out.fr0 ((Fr.refl [] w1).drewN nq);clear c4 r0 r1 r2 r3 HA HI;generalize w1.drewN nq=wz at *;obtain⟨cl2,hB2⟩:=hI2.1;have hbx:Blk wz xb 72 [.int .u64 u,.int .u64 v,.int .i64 wt,.int .i64 t]:=hI2.blk (z:=(xb,72,[.int .u64 u,.int .u64 v,.int .i64 wt,.int .i64 t])) (by simp);have c5:=hB2.hd.cell 5;have r0:=hbx.cell 0;have r1:=hbx.cell 1;have r2:=hbx.cell 2;have r3:=hbx.cell 3;simp only[zJ,zK]at c5 r0 r1 r2 r3;obtain⟨y,hy⟩:∃y,y=P.s.edge u v wt t x:=⟨_,rfl⟩;have HI:=qA (show ∀w', Fr [] wz w' -> Calls Tryz.prog 135 #[iM ps,aBW u v wt t,.int .i64 x] w' fun e w'' =>e=.returned (.tuple #[lvA y,.int .i64 0])/\∃K', bG w'' ps (P.s.ins u v wt t x) K' /\ Fr Ks w' w'' /\ ∀q∈K', q∈Ks∨w'.heap.size<=q from fun w' hf=>by
   rw[hy];exact aCN (hB2.st.fr0 hf) u v hu hv wt t x HP.out.2.1 (by have:=HP.out.2.2.1;omega))
 have HI2:=qA hI2;have hkx:xb∉Ks:=fun hm=>(hI2.2.2.2 (xb,_,_) (List.mem_cons_self ..)).2 (aEP hm);have hkp:pw∉Ks:=fun hm=>by have:=hB2.ks _ hm;have:=hB2.kw;omega
 have hkn:wz.heap.size∉Ks:=fun hm=>absurd (hB2.st.lt _ hm) (Nat.lt_irrefl _);have hxl:=hbx.lt;have hpl:=hB2.hd.lt;have hkx2:xb∉wz.heap.size::Ks:=fun hm=>(qB.1 hm).elim (fun e=>by omega) hkx;have hkp2:pw∉wz.heap.size::Ks:=fun hm=>(qB.1 hm).elim (fun e=>by omega) hkp;have HC:=qA (fun(w' :World) (hf:Fr (wz.heap.size::Ks) wz w')=>zI (hf.cell c5 hkp2) (zI (hf.cell r0 hkx2) (zI (hf.cell r1 hkx2) (zI (hf.cell r2 hkx2) (hf.cell r3 hkx2)))));have HST:=qA (show ∀(w' :World) (a0 a1 a2 a3 a4 a5 a6:Value),Fr (wz.heap.size::Ks) wz w' -> Fr (wz.heap.size::Ks) wz (((((((w'.setCell ⟨wz.heap.size,0,none⟩ a0).setCell ⟨wz.heap.size,1,none⟩ a1).setCell ⟨wz.heap.size,2,none⟩ a2).setCell ⟨wz.heap.size,3,none⟩ a3).setCell ⟨wz.heap.size,4,none⟩ a4).setCell ⟨wz.heap.size,5,none⟩ a5).setCell ⟨wz.heap.size,6,none⟩ a6) from fun w' _ _ _ _ _ _ _ hf=>
   (((((((hf).setCell _ _ (.inl (by simp))).setCell _ _ (.inl (by simp))).setCell _ _ (.inl (by simp))).setCell _ _ (.inl (by simp))).setCell _ _ (.inl (by simp))).setCell _ _ (.inl (by simp))).setCell _ _ (.inl (by simp)))
 have HB0:=qA (show ∀(w5:World) (S:List Nat),Fr Ks (wz.alloc (.cells #[.int .i64 0,.int .u64 0,.int .u64 0,.int .u64 0,.int .i64 0,.int .i64 0,.int .i64 0] 74)).drew w5->Blk w5 wz.heap.size 74 [.int .i64 0,.int .u64 0,.int .u64 0,.int .u64 0,.int .i64 0,.int .i64 0,.int .i64 0] from fun w5 _ hf=>
   hf.blk ((Blk.new wz [.int .i64 0,.int .u64 0,.int .u64 0,.int .u64 0,.int .i64 0,.int .i64 0,.int .i64 0] 74).drew) hkn)
 have hpz:pw≠wz.heap.size:=by omega
 have hxz:xb≠wz.heap.size:=by omega
 have HY:=qA hy;clear hy hB2 hbx hI2 c5 r0 r1 r2 r3 hkx2 hkp2 hkx hkp hxl hpl;go_wp2_with fail
 go_region_held3 (fun w' => w'.cell? ⟨pw, 5, none⟩ = some (iM ps) /\ w'.cell? ⟨xb, 0, none⟩ = some (.int .u64 u) /\ w'.cell? ⟨xb, 1, none⟩ = some (.int .u64 v) /\ w'.cell? ⟨xb, 2, none⟩ = some (.int .i64 wt) /\ w'.cell? ⟨xb, 3, none⟩ = some (.int .i64 t))
   (first
     | with_reducible exact HC.out _ (HST.out w5 _ _ _ _ _ _ _ HF7.out)
     | with_reducible exact HC.out _ HF7.out
     | with_reducible exact HC.out _ (Fr.refl (wz.heap.size::Ks) wz).drew
     | with_reducible exact HC.out _ (Fr.trans' (Fr.refl (wz.heap.size::Ks) wz).drew hF6)
     | with_reducible exact HC.out _ ((Fr.trans' (Fr.refl (wz.heap.size::Ks) wz).drew hF6).alloc _)
     | with_reducible exact HC.out _ ((Fr.refl (wz.heap.size::Ks) wz).alloc _).drew
     )
   (first
     | (go_at_call 135;with_reducible refine Calls.mono (HI.out _ ((Fr.refl [] wz).drew)) ?_;rintro r w5 ⟨rfl,Ks5,hS5,hF5,hN5⟩;have hF6:=hF5.mono (S' :=wz.heap.size::Ks) (fun q hq=>.inl (List.mem_cons_of_mem _ hq)))
     | (go_at_call 135; with_reducible refine Calls.mono (HI.out _ ((Fr.refl [] wz).alloc _).drew) ?_; rintro r w5 ⟨rfl, Ks5, hS5, hF5, hN5⟩
        go_loud (have hF6:=hF5.mono (S' :=wz.heap.size::Ks) (fun q hq=>.inl (List.mem_cons_of_mem _ hq)));go_loud (have HF7:=qA (Fr.trans' ((Fr.refl (wz.heap.size::Ks) wz).alloc _).drew hF6));go_loud (have hB5:=HB0.out _ [] hF5);go_loud (have hz5:=hB5.frozen);go_loud (have t0:=hB5.cell 0;have t1:=hB5.cell 1;have t2:=hB5.cell 2;have t3:=hB5.cell 3;have t4:=hB5.cell 4;have t5:=hB5.cell 5;have t6:=hB5.cell 6;simp only[zJ,zK]at t0 t1 t2 t3 t4 t5 t6)))
 focus
   have hX:IS w (eE pw pc Ks lx Lf) (w5.alloc (.cells #[.int .i64 y.slot,.int .u64 y.seq,.int .u64 y.u,.int .u64 y.v,.int .i64 y.wt,.int .i64 y.t,.int .i64 y.x] 74)) pw pc ps px pf { P with s:=P.s.ins u v wt t x } Ks5 lx Lf [(w5.heap.size,74,[.int .i64 y.slot,.int .u64 y.seq,.int .u64 y.u,.int .u64 y.v,.int .i64 y.wt,.int .i64 y.t,.int .i64 y.x]),(xb,72,[.int .u64 u,.int .u64 v,.int .i64 wt,.int .i64 t])]:=
     ((HI2.out.fr0 (Fr.refl [] wz).drew).st hS5 hF5 hN5).box [.int .i64 y.slot,.int .u64 y.seq,.int .u64 y.u,.int .u64 y.v,.int .i64 y.wt,.int .i64 y.t,.int .i64 y.x] 74
   have HX:=qA hX;clear hX hS5 hF5 hN5 hF6 HI HC HST HB0 hpz hxz hkn HI2;generalize (w5.alloc (.cells #[.int .i64 y.slot,.int .u64 y.seq,.int .u64 y.u,.int .u64 y.v,.int .i64 y.wt,.int .i64 y.t,.int .i64 y.x] 74))=W6 at *;generalize w5.heap.size=eb at *;rename_i hHH;clear hHH
 rotate_left
 focus
   have h5:=(((HI2.out.box [.int .i64 0,.int .u64 0,.int .u64 0,.int .u64 0,.int .i64 0,.int .i64 0,.int .i64 0] 74).fr0 (Fr.refl [] _).drew).st hS5 hF5 hN5);have hnz:=(h5.2.2.2 _ (List.mem_cons_self ..)).2;have hws:=HI2.out.2.1.size;have hxn:=(HI2.out.2.2.2 _ (List.mem_cons_self ..)).1.lt;simp only at hnz hxn;have hfc:Fr [wz.heap.size] w5 (((((((w5.setCell ⟨wz.heap.size,0,none⟩ (.int .i64 y.slot)).setCell ⟨wz.heap.size,1,none⟩ (.int .u64 y.seq)).setCell ⟨wz.heap.size,2,none⟩ (.int .u64 y.u)).setCell ⟨wz.heap.size,3,none⟩ (.int .u64 y.v)).setCell ⟨wz.heap.size,4,none⟩ (.int .i64 y.wt)).setCell ⟨wz.heap.size,5,none⟩ (.int .i64 y.t)).setCell ⟨wz.heap.size,6,none⟩ (.int .i64 y.x)):=
     (((((((Fr.refl _ w5).setCell _ _ (.inl (by simp))).setCell _ _ (.inl (by simp))).setCell _ _ (.inl (by simp))).setCell _ _ (.inl (by simp))).setCell _ _ (.inl (by simp))).setCell _ _ (.inl (by simp))).setCell _ _ (.inl (by simp))
   have hb7:=((((((hB5.set 0 (.int .i64 y.slot)).set 1 (.int .u64 y.seq)).set 2 (.int .u64 y.u)).set 3 (.int .u64 y.v)).set 4 (.int .i64 y.wt)).set 5 (.int .i64 y.t)).set 6 (.int .i64 y.x);simp only[qY,qU]at hb7;have hX:IS w (eE pw pc Ks lx Lf) (((((((w5.setCell ⟨wz.heap.size,0,none⟩ (.int .i64 y.slot)).setCell ⟨wz.heap.size,1,none⟩ (.int .u64 y.seq)).setCell ⟨wz.heap.size,2,none⟩ (.int .u64 y.u)).setCell ⟨wz.heap.size,3,none⟩ (.int .u64 y.v)).setCell ⟨wz.heap.size,4,none⟩ (.int .i64 y.wt)).setCell ⟨wz.heap.size,5,none⟩ (.int .i64 y.t)).setCell ⟨wz.heap.size,6,none⟩ (.int .i64 y.x)) pw pc ps px pf { P with s:=P.s.ins u v wt t x } Ks5 lx Lf [(wz.heap.size,74,[.int .i64 y.slot,.int .u64 y.seq,.int .u64 y.u,.int .u64 y.v,.int .i64 y.wt,.int .i64 y.t,.int .i64 y.x]),(xb,72,[.int .u64 u,.int .u64 v,.int .i64 wt,.int .i64 t])]:=
     ((h5.sub (Y:=[(xb,72,[.int .u64 u,.int .u64 v,.int .i64 wt,.int .i64 t])]) (fun z hz=>List.mem_cons_of_mem _ hz)).other hfc (fun q hq=>by
       rw[qH]at hq;subst hq;exact⟨hws,hnz,fun z hz=>by rw[qH]at hz;subst hz;simp only;omega⟩)).cons hb7 hnz
   have HX:=qA hX;clear hX hS5 hF5 hN5 hF6 HI HC HST HB0 hpz hxz hkn HI2 h5 hnz hws hxn hfc hb7 hB5 hz5 t0 t1 t2 t3 t4 t5 t6 HF7;generalize (((((((w5.setCell ⟨wz.heap.size,0,none⟩ (.int .i64 y.slot)).setCell ⟨wz.heap.size,1,none⟩ (.int .u64 y.seq)).setCell ⟨wz.heap.size,2,none⟩ (.int .u64 y.u)).setCell ⟨wz.heap.size,3,none⟩ (.int .u64 y.v)).setCell ⟨wz.heap.size,4,none⟩ (.int .i64 y.wt)).setCell ⟨wz.heap.size,5,none⟩ (.int .i64 y.t)).setCell ⟨wz.heap.size,6,none⟩ (.int .i64 y.x))=W6 at *;generalize wz.heap.size=eb at *;rename_i hHH;clear hHH
 all_goals
  have hys:y.slot=P.s.slot:=by rw[HY.out];rfl
  obtain⟨cl6,hB6⟩:=HX.out.1;have hbx:Blk W6 xb 72 [.int .u64 u,.int .u64 v,.int .i64 wt,.int .i64 t]:=HX.out.blk (z:=(xb,72,[.int .u64 u,.int .u64 v,.int .i64 wt,.int .i64 t])) (by simp);have hcx:∀w', Fr [] W6 w' -> w'.cell? ⟨pw,5,none⟩=some (iM ps)/\w'.cell? ⟨xb,0,none⟩=some (.int .u64 u)/\w'.cell? ⟨xb,1,none⟩=some (.int .u64 v):=fun w' hf=>⟨(hf.blk hB6.hd (by simp)).cell 5,(hf.blk hbx (by simp)).cell 0,(hf.blk hbx (by simp)).cell 1⟩;have HU:=qA (fun(w' :World) (hf:Fr [] W6 w')=>yT (hB6.st.fr0 hf) u hu);have HW:=qA (fun(w' :World) (hf:Fr [] W6 w')=>yT (hB6.st.fr0 hf) v hv);simp only[HP.out.2.2.2.2.2.1,HP.out.2.2.2.2.2.2.1,Option.getD_some,Option.isSome_some]at HU HW;have HCX:=qA hcx;obtain⟨c5,r0,r1⟩:=hcx W6 (Fr.refl _ _);clear hB6 hbx hcx;have HYS:=qA hys;clear hys;go_wp2_with fail
  refine bS 6 (fun w' =>Fr [] W6 w') (by kernel_rfl) (by kernel_rfl) (by kernel_rfl) ?_;iterate 6 (refine cK (by decide) (fun K hK=>?_);go_simp;refine hK _ ?_;clear hK K)
  refine bL rfl (.tuple #[.int .i64 a,.bool true]) (fun w' hw' =>?_) ?_
  {
  obtain⟨nq,rfl⟩:=hw';go_simp;refine(HU.out _ ((Fr.refl [] W6).drewN nq)).mono ?_;rintro _ w1 ⟨rfl,hf⟩;exact⟨rfl,((Fr.refl [] W6).drewN nq).trans' hf⟩};iterate 5 (refine jL (by decide) (fun K hK=>?_);go_simp;refine hK _ ?_;clear hK K)
  refine cL ?_;rintro W7 hF7;clear c5 r0 r1;obtain⟨c5,r0,r1⟩:=HCX.out W7 hF7;have HW7:=qA (fun(nq:Nat)=>HW.out _ (hF7.trans' ((Fr.refl [] W7).drewN nq)));have HX7:=qA (HX.out.fr0 hF7);clear HX HU HW HCX hF7 r0;go_wp2_with fail
  refine bS 6 (fun w' =>Fr [] W7 w') (by kernel_rfl) (by kernel_rfl) (by kernel_rfl) ?_;iterate 6 (refine cK (by decide) (fun K hK=>?_);go_simp;refine hK _ ?_;clear hK K)
  refine bL rfl (.tuple #[.int .i64 b,.bool true]) (fun w' hw' =>?_) ?_
  {
  obtain⟨nq,rfl⟩:=hw';go_simp;refine(HW7.out nq).mono ?_;rintro _ w1 ⟨rfl,hf⟩;exact⟨rfl,((Fr.refl [] W7).drewN nq).trans' hf⟩};iterate 5 (refine jL (by decide) (fun K hK=>?_);go_simp;refine hK _ ?_;clear hK K)
  refine cL ?_;rintro W8 hF8;have hX8:=HX7.out.fr0 hF8;obtain⟨cl8,hB8⟩:=hX8.1;have hbe:Blk W8 eb 74 [.int .i64 y.slot,.int .u64 y.seq,.int .u64 y.u,.int .u64 y.v,.int .i64 y.wt,.int .i64 y.t,.int .i64 y.x]:=hX8.blk (z:=(eb,74,[.int .i64 y.slot,.int .u64 y.seq,.int .u64 y.u,.int .u64 y.v,.int .i64 y.wt,.int .i64 y.t,.int .i64 y.x])) (by simp);have c6:=hB8.hd.cell 6;have e0:=hbe.cell 0;simp only[zJ,zK]at c6 e0;rw[HYS.out]at e0;have HS:=qA (fun(nq:Nat)=>aRI (hB8.sch.fr0 ((Fr.refl [] W8).drewN nq)) (i:=P.s.slot) HP.out.2.2.2.1 HP.out.2.2.2.2.1 x);have HX8:=qA hX8;clear HX7 HW7 hF8 c5 r1 hX8 hB8 hbe;go_wp2_with fail
  refine bS 7 (fun w' =>∃l', fP w' px P.E (uJ P.Q P.s.slot (some x)) (P.nq+1) l' /\ Fr lx W8 w' /\ ∀b∈l', b∈lx∨W8.heap.size<=b) (by kernel_rfl) (by kernel_rfl) (by kernel_rfl) ?_;iterate 7 (refine cK (by decide) (fun K hK=>?_);go_simp;refine hK _ ?_;clear hK K)
  refine bL rfl (.int .i64 0) (fun w' hw' =>?_) ?_
  {
  obtain⟨nq,rfl⟩:=hw';go_simp;refine(HS.out nq).mono ?_;rintro _ w1 ⟨rfl,l', k1,k2,k3⟩;exact⟨rfl,l', k1,((Fr.refl lx W8).drewN nq).trans' k2,k3⟩};refine cL ?_;rintro W9 ⟨lx9,k1,k2,k3⟩;have hX9:=HX8.out.sch k1 k2 k3;obtain⟨cl9,hB9⟩:=hX9.1;have hbe:Blk W9 eb 74 [.int .i64 y.slot,.int .u64 y.seq,.int .u64 y.u,.int .u64 y.v,.int .i64 y.wt,.int .i64 y.t,.int .i64 y.x]:=hX9.blk (z:=(eb,74,[.int .i64 y.slot,.int .u64 y.seq,.int .u64 y.u,.int .u64 y.v,.int .i64 y.wt,.int .i64 y.t,.int .i64 y.x])) (by simp);clear c6 e0;have c7:=hB9.hd.cell 7;have e0:=hbe.cell 0;simp only[zJ,zK]at c7 e0;rw[HYS.out]at e0;have hxr:-9223372036854775808<=x/\x<=9223372036854775807:=HXR.out;have hA:=fun(nq:Nat)=>aRH (hB9.fo.fr ((Fr.refl [] W9).drewN nq) (by simp)) P.s.slot a b x hxr;simp only[HP.out.2.2.2.2.2.2.2.1,HP.out.2.2.2.2.2.2.2.2.1]at hA;have HA:=qA hA;have HX9:=qA hX9;clear HX8 HS k1 k2 k3 hX9 hB9 hbe hA hxr;go_wp2_with fail
  refine bS 9 (fun w' =>FMv W9 w' pf P.E P.V (fun j=>if j=P.s.slot then some (a,b,x) else P.G j) Lf) (by kernel_rfl) (by kernel_rfl) (by kernel_rfl) ?_;iterate 9 (refine cK (by decide) (fun K hK=>?_);go_simp;refine hK _ ?_;clear hK K)
  refine bL rfl (.int .i64 0) (fun w' hw' =>?_) ?_
  {
  obtain⟨nq,rfl⟩:=hw';go_simp;refine(HA.out nq).mono ?_;rintro _ w1 ⟨rfl,L', k1,k2,k3⟩;exact⟨rfl,L', k1,((Fr.refl Lf W9).drewN nq).trans' k2,k3⟩};refine cL ?_;rintro W10 k1;obtain⟨Lf10,hX10⟩:=HX9.out.fo k1;obtain⟨cl10,hB10⟩:=hX10.1;clear c7 e0;have c8:=hB10.hd.cell 8;have z8:=hB10.hd.frozen 8;simp only[zJ,zK]at c8;have hb11:=hB10.hd.set 8 (.int .u64 ((P.added:Int)+1));simp only[qY,qU]at hb11;have hadd:=HP.out.2.2.2.2.2.2.2.2.2;have hw1:IntKind.u64.wrap ((P.added:Int)+1)=(P.added:Int)+1:=by simp[IntKind.wrap,IntKind.bits,IntKind.signed];omega
  have HX10:=qA (zI hX10 hb11);clear HX9 HA k1 hX10 hB10 hb11;go_wp2_with fail
  go_end0
  have hF:Fr [pw] W10 (W10.setCell ⟨pw,8,none⟩ (.int .u64 ((P.added:Int)+1))):=(Fr.refl _ _).setCell _ _ (.inl (by simp));exact⟨rfl,a,HP.out.2.2.2.2.2.1,b,HP.out.2.2.2.2.2.2.1,Ks5,lx9,Lf10,(HX10.out.1.n hF (a:=P.added+1) (g:=P.gone) (by rw[Int.natCast_add];exact HX10.out.2)).sub (by simp)⟩
end
structure Owned {α:Type} (base:Nat) (I:List α->List Nat->World->Prop):Prop where
  fr:∀{pre:List α} {K S:List Nat} {A B:World},I pre K A->Fr S A B->(∀b∈K,b∉S)->I pre K B
  lt:∀{pre:List α} {K:List Nat} {A:World},I pre K A->∀b∈K,base<=b/\b<A.heap.size
section
variable {F:Fence} {n:Nat} {P:Program}
end
end Go.Proofs.YtjdgpcjbgjnahaaGreatDoor
namespace Go.Proofs.YtjdgpcjbgjnahaaGreatDoor
open Go.RowKit Go.Shelf
attribute [local go_sem] Oper.semAt_some
end Go.Proofs.YtjdgpcjbgjnahaaGreatDoor
namespace Go.Proofs.YtjdgpcjbgjnahaaGreatDoor
open Go.RowKit
section
variable {w w' :World} {pw pc ps px pf:Nat} {P:Wp} {Ks lx Lf K:List Nat} {cl:Nat->Nat}
end
structure CI (w:World) (B mc:Nat) (iv iv' :Int->Option Value) (f:Nat->List Nat) (n:Nat) (dn:List Int) (lc:List Nat):Prop where
  im:fH Tryz.prog 36 .u64 okS w mc iv' n
  ge:∀q∈lc,B<=q
  lt:∀q∈lc,q<w.heap.size
  nm:mc∉lc
  row:∀id:Nat,id<U64->(id:Int)∈dn->((iv' id).isSome=true/\(iv id).isSome=true)/\gR w ((iv' id).getD iL) (f id)/\∀q,((iv' id).getD iL).ownBlock=some q->q∈lc
  old:∀id:Nat,id<U64->(id:Int)∉dn->iv' id=iv id
  inj:∀(id id' q:Nat),id<U64->id' < U64->(id:Int)∈dn->(id' :Int)∈dn->((iv' id).getD iL).ownBlock=some q->((iv' id').getD iL).ownBlock=some q->id=id'
section
variable {w w' w1 w2:World} {B mc n:Nat} {iv iv' :Int->Option Value} {f:Nat->List Nat} {dn:List Int} {lc S:List Nat}
end
section
variable {w w' :World} {ps:Nat} {s:Sm} {K:List Nat}
end
section
variable {w w' :World} {pw pc ps px pf:Nat} {P:Wp} {Ks lx Lf K:List Nat} {cl:Nat->Nat}
end
section
variable {w w' :World} {pw:Nat} {W:Wm} {K:List Nat}
end
theorem Tryz.infoe39:∃i,Tryz.prog.info? 39=some i:=qV.1 (by kernel_rfl)
@[go_sem] theorem aSV(w:World):(Op.equalIn 10000 125 (.agg #[.int .i64 0,.int .i64 0,.int .i64 0,.int .i64 0]) (.agg #[.int .i64 0,.int .i64 0,.int .i64 0,.int .i64 0])).run Tryz.prog w=.ok true w:=by
 obtain⟨i,hi⟩:=Tryz.infoe39;have u3:=Tryz.underlying39;have a3:=Tryz.isAgg39;have z3:=Tryz.sizeOf39;have hc:Tryz.prog.cellsOf 39=1:=by kernel_rfl
 rw[show(10000:Nat)=9999+1 from rfl,run_equalIn_array w 9999 _ _ Tryz.underlying125 hi,hc];have r2:List.range 4=[0,1,2,3]:=rfl;rw[r2];simp only[Op.eqItems];go_simp
@[go_sem] theorem aRJ(x y:Operand)(xs ys:Array Value)(w:World):(eqGuard .neq 125 x y (.agg xs) (.agg ys)).run Tryz.prog w=.ok () w:=run_eqGuard_agg w .neq 125 x y xs ys (by kernel_rfl)
theorem aTO(m D:Int)(E V:Nat)(w:World)(h1:1<=m)(h2:1<=E)(h3:E<=16384)(h4:2<=V)(h5:V<=4096)(h6:0<=D)(h7:D<=16384):
    Calls Tryz.prog 82 #[.agg #[.int .i64 m,.int .i64 E,.int .i64 V,.int .i64 D]] w fun e w' =>e=.returned (.bool true)/\Fr [] w w' :=by
 have d1:decide (m≥1)=true:=qG h1;have d2:decide ((E:Int)≥1)=true:=qG (by omega);have d3:decide ((E:Int)<=16384)=true:=qG (by omega);have d4:decide ((V:Int)≥2)=true:=qG (by omega);have d5:decide ((V:Int)<=4096)=true:=qG (by omega);have d6:decide (D≥0)=true:=qG h6;have d7:decide (D<=16384)=true:=qG h7;go_enter Tryz.func82,Tryz.ntmps82
 go_wp2
 go_ret;exact⟨rfl,(Fr.refl _ _).alloc _⟩
structure NS (w0 w:World) (b be bc:Nat) (l:List Value) (m D:Int) (E V:Nat):Prop where
  hd:Blk w b 38 l
  er:Blk w be 125 [.int .i64 0,.int .i64 0,.int .i64 0,.int .i64 0]
  co:Blk w bc 31 [.int .i64 m,.int .i64 E,.int .i64 V,.int .i64 D]
  fr:Fr [] w0 w
  lb:w0.heap.size<=bc
  le:bc<be
  lw:be<b
theorem NS.go{w0 w w' :World}{b be bc:Nat}{l:List Value}{m D:Int}{E V:Nat}(h:NS w0 w b be bc l m D E V)(hf:Fr [] w w'):NS w0 w' b be bc l m D E V:=
  ⟨hf.blk h.hd (by simp),hf.blk h.er (by simp),hf.blk h.co (by simp),h.fr.trans' hf,h.lb,h.le,h.lw⟩
theorem NS.put{w0 w:World}{b be bc:Nat}{l:List Value}{m D:Int}{E V:Nat}(h:NS w0 w b be bc l m D E V)(i j:Nat)(v:Value)(hj:j<4):
    NS w0 ((w.setCell ⟨b,i,none⟩ v).setCell ⟨be,j,none⟩ (.int .i64 0)) b be bc (l.set i v) m D E V/\Fr [b,be] w ((w.setCell ⟨b,i,none⟩ v).setCell ⟨be,j,none⟩ (.int .i64 0)):=by
 have h1:=h.lb;have h2:=h.le;have h3:=h.lw;have f1:Fr [b] w (w.setCell ⟨b,i,none⟩ v):=(Fr.refl _ _).setCell _ _ (.inl (by simp));have f2:Fr [be] (w.setCell ⟨b,i,none⟩ v) ((w.setCell ⟨b,i,none⟩ v).setCell ⟨be,j,none⟩ (.int .i64 0)):=(Fr.refl _ _).setCell _ _ (.inl (by simp));have he:=(f1.blk h.er (by simp;omega)).set j (.int .i64 0);refine⟨⟨f2.blk (h.hd.set i v) (by simp;omega),?_,f2.blk (f1.blk h.co (by simp;omega)) (by simp;omega),(h.fr.setCell _ _ (.inr (by simp;omega))).setCell _ _ (.inr (by simp;omega)),h1,h2,h3⟩,((Fr.refl _ _).setCell _ _ (.inl (by simp))).setCell _ _ (.inl (by simp))⟩;match j,hj with
 | 0,_=>exact he
 | 1,_=>exact he
 | 2,_=>exact he
 | 3,_=>exact he
theorem NS.mid{w0 w:World}{b be bc:Nat}{l:List Value}{m D:Int}{E V:Nat}(h:NS w0 w b be bc l m D E V)(i:Nat)(v:Value):NS w0 (w.setCell ⟨b,i,none⟩ v) b be bc (l.set i v) m D E V:=by
 have h1:=h.lb;have h2:=h.le;have h3:=h.lw;have f1:Fr [b] w (w.setCell ⟨b,i,none⟩ v):=(Fr.refl _ _).setCell _ _ (.inl (by simp));exact⟨h.hd.set i v,f1.blk h.er (by simp;omega),f1.blk h.co (by simp;omega),h.fr.setCell _ _ (.inr (by simp;omega)),h1,h2,h3⟩
theorem aEQ(m D:Int)(E V g:Nat)(w:World)(h1:1<=m)(h1' :m<=9223372036854775807)(h2:1<=E)(h3:E<=16384)(h4:2<=V)(h5:V<=4096)(h6:0<=D)(h7:D<=16384)(hg:g<=9223372036854775807):
    Calls Tryz.prog 46 #[.agg #[.int .i64 m,.int .i64 E,.int .i64 V,.int .i64 D],.int .u64 g] w fun e w' =>∃pw,e=.returned (.tuple #[eA pw,.int .i64 0])/\∃K,kD w' pw (Wm.new m E V D g) K/\Fr [] w w' /\ ∀q∈K,w.heap.size<=q:=by
 have HC:=qA (aTO m D E V (w.alloc (.cells #[.int .i64 m,.int .i64 E,.int .i64 V,.int .i64 D] 31)) h1 h2 h3 h4 h5 h6 h7);have bc:=Blk.new w [.int .i64 m,.int .i64 E,.int .i64 V,.int .i64 D] 31;have HNC:=qA (fun w' =>aRD m h1 h1' w');have HNS:=qA (fun w' =>aOC V E g w' h5 h3 hg);have HNX:=qA (fun w' =>aRC E w' (by omega));have HNF:=qA (fun w' =>aRA V E w' h5 h3);have HOK:=qA (Wm.new_ok (m:=m) (E:=E) (V:=V) (D:=D) (gone:=g) h1 h1' h3 h5 hg);go_enter Tryz.func46,Tryz.ntmps46
 go_wp2_with fail
 refine HC.out.mono ?_;rintro _ w1 ⟨rfl,hF1⟩;have hs1:=hF1.size;simp only[World.size_alloc]at hs1;obtain⟨W,hW⟩:∃W,W=(w1.alloc (.cells #[.int .i64 0,.int .i64 0,.int .i64 0,.int .i64 0] 125)).alloc (.cells #[.int .i64 m,.int .i64 E,.int .i64 V,.int .i64 D,.pointer none,.pointer none,.pointer none,.pointer none,.int .u64 g,.int .u64 g] 38):=⟨_,rfl⟩;have hN:NS w W (w1.heap.size+1) w1.heap.size w.heap.size [.int .i64 m,.int .i64 E,.int .i64 V,.int .i64 D,.pointer none,.pointer none,.pointer none,.pointer none,.int .u64 g,.int .u64 g] m D E V:=by {
 have k1:=(Blk.new w1 [.int .i64 0,.int .i64 0,.int .i64 0,.int .i64 0] 125).alloc (.cells #[.int .i64 m,.int .i64 E,.int .i64 V,.int .i64 D,.pointer none,.pointer none,.pointer none,.pointer none,.int .u64 g,.int .u64 g] 38);have k2:=Blk.new (w1.alloc (.cells #[.int .i64 0,.int .i64 0,.int .i64 0,.int .i64 0] 125)) [.int .i64 m,.int .i64 E,.int .i64 V,.int .i64 D,.pointer none,.pointer none,.pointer none,.pointer none,.int .u64 g,.int .u64 g] 38;rw[World.size_alloc]at k2;subst hW;exact⟨k2,k1,((hF1.blk bc (by simp)).alloc _).alloc _,((((Fr.refl _ _).alloc _).trans' hF1).alloc _).alloc _,qK _,by omega,by omega⟩};have x0:=((hF1.blk bc (by simp)).alloc (.cells #[.int .i64 0,.int .i64 0,.int .i64 0,.int .i64 0] 125)).cell 0;have x1:=((hF1.blk bc (by simp)).alloc (.cells #[.int .i64 0,.int .i64 0,.int .i64 0,.int .i64 0] 125)).cell 1;have x2:=((hF1.blk bc (by simp)).alloc (.cells #[.int .i64 0,.int .i64 0,.int .i64 0,.int .i64 0] 125)).cell 2;have x3:=((hF1.blk bc (by simp)).alloc (.cells #[.int .i64 0,.int .i64 0,.int .i64 0,.int .i64 0] 125)).cell 3;have y0:=hN.co.cell 0;rw[hW]at y0;simp only[zJ,zK]at x0 x1 x2 x3 y0;have HN:=qA hN;clear hN bc hF1 HC;go_wp2_with fail
 clear x0 x1 x2 x3 y0;rw[<-hW];clear hW;generalize hb:w1.heap.size+1=b at *;generalize hbe:w1.heap.size=be at *;generalize hbc:w.heap.size=bc at *;clear hb hbe;refine(HNC.out W).mono ?_;rintro _ W1 ⟨pc,rfl,hc,hF1,hpc⟩;have hN1:=HN.out.go hF1;have hp1:=hN1.put 4 0 (jS pc) (by decide);have b4:=hN1.hd.cell 4;have z4:=hN1.hd.frozen 4;have e0:=(hN1.mid 4 (jS pc)).er.cell 0;have f0:=(hN1.mid 4 (jS pc)).er.frozen 0;have c1:=hp1.1.co.cell 1;have c2:=hp1.1.co.cell 2;simp only[zJ,zK,qU,qY]at b4 e0 c1 c2 hp1;have H1:=qA (zI hc (zI hF1 (zI hpc hp1)));have HNb:=qA (zI HN.out.hd.lt HN.out.lw);clear hc hF1 hpc hN1 hp1 HNC HN;go_wp2_with fail
 clear b4 z4 e0 f0 c1 c2;generalize (W1.setCell ⟨b,4,none⟩ (jS pc)).setCell ⟨be,0,none⟩ (.int .i64 0)=V1 at *;refine(HNS.out V1).mono ?_;rintro _ W2 ⟨ps,rfl,Ks,hc,hF2,hk2⟩;have hN2:=H1.out.2.2.2.1.go hF2;have hp2:=hN2.put 5 1 (iM ps) (by decide);have b4:=hN2.hd.cell 5;have z4:=hN2.hd.frozen 5;have e0:=(hN2.mid 5 (iM ps)).er.cell 1;have f0:=(hN2.mid 5 (iM ps)).er.frozen 1;have c1:=hp2.1.co.cell 1;simp only[zJ,zK,qU,qY]at b4 e0 c1 hp2;have H2:=qA (zI hc (zI hF2 (zI hk2 hp2)));clear hc hF2 hk2 hN2 hp2 HNS;go_wp2_with fail
 clear b4 z4 e0 f0 c1;generalize (W2.setCell ⟨b,5,none⟩ (iM ps)).setCell ⟨be,1,none⟩ (.int .i64 0)=V2 at *;refine(HNX.out V2).mono ?_;rintro _ W3 ⟨px,rfl,lx,hc,hF3,hk3⟩;have hN3:=H2.out.2.2.2.1.go hF3;have hp3:=hN3.put 6 2 (bQ px) (by decide);have b4:=hN3.hd.cell 6;have z4:=hN3.hd.frozen 6;have e0:=(hN3.mid 6 (bQ px)).er.cell 2;have f0:=(hN3.mid 6 (bQ px)).er.frozen 2;have c1:=hp3.1.co.cell 1;have c2:=hp3.1.co.cell 2;simp only[zJ,zK,qU,qY]at b4 e0 c1 c2 hp3;have H3:=qA (zI hc (zI hF3 (zI hk3 hp3)));clear hc hF3 hk3 hN3 hp3 HNX;go_wp2_with fail
 clear b4 z4 e0 f0 c1 c2;generalize (W3.setCell ⟨b,6,none⟩ (bQ px)).setCell ⟨be,2,none⟩ (.int .i64 0)=V3 at *;refine(HNF.out V3).mono ?_;rintro _ W4 ⟨pf,rfl,Lf,hc,hF4,hk4⟩;have hN4:=H3.out.2.2.2.1.go hF4;have hp4:=hN4.put 7 3 (eN pf) (by decide);have b4:=hN4.hd.cell 7;have z4:=hN4.hd.frozen 7;have e0:=(hN4.mid 7 (eN pf)).er.cell 3;have f0:=(hN4.mid 7 (eN pf)).er.frozen 3;have g0:=hp4.1.er.cell 0;have g1:=hp4.1.er.cell 1;have g2:=hp4.1.er.cell 2;have g3:=hp4.1.er.cell 3;simp only[zJ,zK,qU,qY]at b4 e0 g0 g1 g2 g3 hp4;have H4:=qA (zI hc (zI hF4 (zI hk4 hp4)));clear hc hF4 hk4 hN4 hp4 HNF;go_wp2_with fail
 clear b4 z4 e0 f0 g0 g1 g2 g3;generalize (W4.setCell ⟨b,7,none⟩ (eN pf)).setCell ⟨be,3,none⟩ (.int .i64 0)=V4 at *;go_ret2;obtain⟨hc1,hF1,hpc,hn1,hG1⟩:=H1.out;obtain⟨hc2,hF2,hk2,hn2,hG2⟩:=H2.out;obtain⟨hc3,hF3,hk3,hn3,hG3⟩:=H3.out;obtain⟨hc4,hF4,hk4,hn4,hG4⟩:=H4.out;have hbW:=HNb.out.1;have hbb:=HNb.out.2;have s1:=hF1.size;have s2:=hF2.size;have s3:=hF3.size;have s4:=hF4.size;have t1:=hG1.size;have t2:=hG2.size;have t3:=hG3.size;have t4:=hG4.size;have e1:=hc1.hd.lt;have hlb:=hn4.lb;have hle:=hn4.le;have a1:∀q,W.heap.size<=q->q∉[b,be]:=fun q hq hm=>by
   simp only[qB,List.not_mem_nil,or_false]at hm;rcases hm with rfl|rfl<;>omega
 have k2:∀q∈Ks,W1.heap.size<=q:=fun q hq=>zH t1 (hk2 q hq);have k3:∀q∈lx,W2.heap.size<=q:=fun q hq=>zH t2 (hk3 q hq);have k4:∀q∈Lf,W3.heap.size<=q:=fun q hq=>zH t3 (hk4 q hq);refine⟨b,rfl,eE b pc Ks lx Lf,⟨HOK.out,pc,ps,px,pf,0,Ks,lx,Lf,fun x=>if x=b then 0 else if x=pc then 1 else if x<W2.heap.size then 2 else if x<W3.heap.size then 3 else 4,⟨hn4.hd,?_,?_,?_,?_,by simp,?_,?_,?_,?_⟩,rfl⟩,hn4.fr,?_⟩
 · exact((((((hc1.fr hG1 (a1 _ (by omega))).fr0 hF2).fr hG2 (a1 _ (by omega))).fr0 hF3).fr hG3 (a1 _ (by omega))).fr0 hF4).fr hG4 (a1 _ (by omega))
 · exact((((hc2.fr hG2 (fun q hq=>a1 q (by have:=k2 q hq;omega))).fr0 hF3).fr hG3 (fun q hq=>a1 q (by have:=k2 q hq;omega))).fr0 hF4).fr hG4 (fun q hq=>a1 q (by have:=k2 q hq;omega))
 · exact((hc3.fr hG3 (fun q hq=>a1 q (by have:=k3 q hq;omega))).fr0 hF4).fr hG4 (fun q hq=>a1 q (by have:=k3 q hq;omega))
 · exact hc4.fr hG4 (fun q hq=>a1 q (by have:=k4 q hq;omega))
 · rw[qC (by omega),qD rfl]
 {
 intro q hq;have:=k2 q hq;have:=hc2.lt q hq;rw[qC (by omega),qC (by omega),qD (by omega)]}
 {
 intro q hq;have:=k3 q hq;have:=hc3.lt q hq;rw[qC (by omega),qC (by omega),qC (by omega),qD (by omega)]}
 {
 intro q hq;have:=k4 q hq;rw[qC (by omega),qC (by omega),qC (by omega),qC (by omega)]}
 {
 intro q hq;simp only[eE,qB,qE]at hq;rcases hq with rfl|rfl|hq|hq|hq
 · omega
 · omega
 · have:=k2 q hq;omega
 · have:=k3 q hq;omega
 · have:=k4 q hq;omega}
theorem aRK(m D:Int)(E V:Nat)(w:World)(h1:1<=m)(h1' :m<=9223372036854775807)(h2:1<=E)(h3:E<=16384)(h4:2<=V)(h5:V<=4096)(h6:0<=D)(h7:D<=16384):
    Calls Tryz.prog 18 #[.agg #[.int .i64 m,.int .i64 E,.int .i64 V,.int .i64 D]] w fun e w' =>∃pw,e=.returned (.tuple #[eA pw,.int .i64 0])/\∃K,kD w' pw (Wm.new m E V D 0) K/\Fr [] w w' /\ ∀q∈K,w.heap.size<=q:=by
 have HF:=qA (aEQ m D E V 0 (w.alloc (.cells #[.int .i64 m,.int .i64 E,.int .i64 V,.int .i64 D] 31)) h1 h1' h2 h3 h4 h5 h6 h7 (by decide));have x0:=(Blk.new w [.int .i64 m,.int .i64 E,.int .i64 V,.int .i64 D] 31).cell 0;have x1:=(Blk.new w [.int .i64 m,.int .i64 E,.int .i64 V,.int .i64 D] 31).cell 1;have x2:=(Blk.new w [.int .i64 m,.int .i64 E,.int .i64 V,.int .i64 D] 31).cell 2;have x3:=(Blk.new w [.int .i64 m,.int .i64 E,.int .i64 V,.int .i64 D] 31).cell 3;simp only[zJ,zK]at x0 x1 x2 x3;go_enter Tryz.func18,Tryz.ntmps18
 go_wp2_with fail
 refine HF.out.mono ?_;rintro _ w1 ⟨pw,rfl,K,h1,h2,h3⟩;have HH:=qA (zI h1 (zI h2 h3));clear h1 h2 h3 x0 x1 x2 x3;go_wp2
 go_ret2;exact⟨pw,rfl,K,HH.out.1,((Fr.refl _ _).alloc _).trans' HH.out.2.1,fun q hq=>by have:=HH.out.2.2 q hq;simp at this;omega⟩
section
variable {w w' :World} {pw:Nat} {W:Wm} {K:List Nat}
theorem aOL(h:kD w pw W K):Calls Tryz.prog 29 #[eA pw] w fun e w' =>e=.returned (.int .i64 W.now)/\w' =w:=by
 obtain⟨hok,pc,ps,px,pf,nq,Ks,lx,Lf,cl,hB,rfl⟩:=h;exact aRG hB
noncomputable def xX(W:Wm):Int:=(kC W.V W.G:Int)-(W.V-W.s.M.L.length)
theorem aGO(h:kD w pw W K):Calls Tryz.prog 27 #[eA pw] w fun e w' =>e=.returned (.tuple #[.int .i64 W.s.L.length,.int .i64 W.s.M.L.length,.int .i64 (xX W)])/\Fr [] w w' :=by
 obtain⟨hok,pc,ps,px,pf,nq,Ks,lx,Lf,cl,hB,rfl⟩:=h;have hvl:W.s.M.L.length<=W.V/\W.V<=4096:=by {
 have h1:=hok.ok.md.cnt;have h2:=hok.ok.md.ar.hb;have h3:=hok.ok.ms;have h4:=hok.hV;have h5:=hok.ok.leV;have h6:W.s.M.ar.slots=W.s.M.slots:=rfl;have h7:W.s.M.ar.begun=W.s.M.given:=rfl;omega};have hcl:kC W.V W.G<=W.V:=by unfold kC bZ;exact zH (List.length_filter_le _ _) (by simp)
 have HV:=qA (lG hB);have HSV:=qA (aHY hB.st);have HSL:=qA (fun(w' :World) (hf:Fr [] w w')=>aQF (hB.st.fr0 hf));have HFC:=qA (fun(w' :World) (hf:Fr [] w w')=>aKB (hB.fo.fr hf (by simp)));have c2:=hB.hd.cell 2;have c5:=hB.hd.cell 5;have c7:=hB.hd.cell 7;simp only[zJ,zK]at c2 c5 c7;have HC:=qA (fun(w' :World) (hf:Fr [] w w')=>zI (hf.cell c5 (by simp)) (hf.cell c7 (by simp)));clear hB;unfold xX;have e1:(W.wp nq).s=W.s:=rfl;have e2:(W.wp nq).V=W.V:=rfl;have e3:(W.wp nq).G=W.G:=rfl;rw[e1]at HSV HSL;rw[e2,e3]at HFC;rw[e2]at c2;clear e1 e2 e3;generalize kC W.V W.G=cg at *;generalize W.s.M.L.length=vl at *;generalize W.s.L.length=el at *;generalize W.V=V at *;have hwr:IntKind.i64.wrap ((cg:Int)-(V-vl))=(cg:Int)-(V-vl):=by simp[IntKind.wrap,IntKind.bits,IntKind.signed];omega
 go_enter Tryz.func27,Tryz.ntmps27
 go_wp2_with fail
 refine HV.out.mono ?_;rintro _ w ⟨rfl,rfl⟩;go_wp2_with fail
 refine HSV.out.mono ?_;rintro _ w ⟨rfl,rfl⟩;go_wp2_with fail
 go_region_held3 (fun w' => w'.cell? ⟨pw, 5, none⟩ = some (iM ps) /\ w'.cell? ⟨pw, 7, none⟩ = some (eN pf))
   (first
     | with_reducible exact HC.out _ HF2.out
     | with_reducible exact HC.out _ (Fr.refl [] w).drew)
   (first
     | (go_at_call 60;with_reducible refine Calls.mono (HSL.out _ ((Fr.refl [] w).drew)) ?_;rintro r w2 ⟨rfl,rfl⟩)
     | (go_at_call 60;with_reducible refine Calls.mono (HSL.out _ HF2.out) ?_;rintro r w3 ⟨rfl,rfl⟩)
     | (go_at_call 61;with_reducible refine Calls.mono (HFC.out _ ((Fr.refl [] w).drew)) ?_;rintro r w2 ⟨rfl,hF2⟩;have HF2:=qA (Fr.trans' (Fr.refl [] w).drew hF2)))
 all_goals
  go_wp2
  go_ret3;exact⟨rfl,HF2.out⟩
end
end Go.Proofs.YtjdgpcjbgjnahaaGreatDoor
namespace Go.Proofs.YtjdgpcjbgjnahaaGreatDoor
open Go.RowKit Classical
end Go.Proofs.YtjdgpcjbgjnahaaGreatDoor
namespace Go.Proofs.YtjdgpcjbgjnahaaGreatDoor
open Go.RowKit
section
variable {w0 wr w' :World} {pw:Nat} {W W' :Wm} {K:List Nat}
end
structure Bg (W:Wm) (k:Nat):Prop where
  m:W.m=20
  E:W.E=40
  V:W.V=12
  D:W.D=0
  now:W.now<=3*k
  id:∀e∈W.s.L,e.u<12/\e.v<12
  last:W.s.last<=k
structure Wm.Later (W1 W2:Wm):Prop where
  G:∀i a b x,W2.G i=some (a,b,x)↔W1.G i=some (a,b,x)/\W2.now<x
  find:∀u j,W2.s.M.find u=some j->W1.s.M.find u=some j
theorem Cx.first{G:cF}{U:Nat->Prop}{a b:Nat}(h:Cx G U a b)(hne:a≠b):(∃s c x,U s/\(G s=some (c,b,x)∨G s=some (b,c,x))):=by
 cases h with
 | refl=>exact absurd rfl hne
 | step s x h1 h2 h3=>exact⟨s,_,x,h2,h3⟩
end Go.Proofs.YtjdgpcjbgjnahaaGreatDoor
namespace Go.Proofs.YtjdgpcjbgjnahaaGreatDoor
open Go.RowKit Classical
section
variable {S V:Nat} {z:Nat->Int×Int×Int} {P P' :Nat->Prop} {i:Nat}
end
end Go.Proofs.YtjdgpcjbgjnahaaGreatDoor
namespace Go.Proofs.YtjdgpcjbgjnahaaGreatDoor
open Classical
section
variable (use:Nat->Bool) (A B:Nat->Nat)
variable {use A B} {len n:Nat} {f:Nat->Bool}
end
end Go.Proofs.YtjdgpcjbgjnahaaGreatDoor
namespace Go.Proofs.YtjdgpcjbgjnahaaGreatDoor
open Go.RowKit Classical
end Go.Proofs.YtjdgpcjbgjnahaaGreatDoor
namespace Go.Proofs.YtjdgpcjbgjnahaaGreatDoor
open Classical
section
variable {S V:Nat} {z:Nat->Int×Int×Int} {P:Nat->Prop} {D:Nat->Prop} {t m k:Nat}
end
end Go.Proofs.YtjdgpcjbgjnahaaGreatDoor
namespace Go.Proofs.YtjdgpcjbgjnahaaGreatDoor
open Go.RowKit Classical
section
variable {W wr w' :World} {pf S V tb m:Nat} {G G' :cF} {f:Nat->Bool} {L:List Nat}
end
section
variable {S V:Nat} {z:Nat->Int×Int×Int} {P:Nat->Prop} {a b:Nat} {T:Int}
end
section
variable {W w wr:World} {pw:Nat} {X Y:Wm}
end
inductive Rl (L:List Lv) (f:Int):Nat->Nat->Prop
  | refl (u:Nat):Rl L f u u
  | step {a b c:Nat} (e:Lv):Rl L f a b->e∈L->f<=e.x->(e.u=b/\e.v=c∨e.u=c/\e.v=b)->Rl L f a c
section
variable {L L' :List Lv} {f g:Int} {a b c:Nat}
theorem Rl.trans(h:Rl L f a b)(h' :Rl L f b c):Rl L f a c:=by
 induction h' with
 | refl=>exact h
 | step e _ h1 h2 h3 ih=>exact .step e ih h1 h2 h3
theorem Rl.edge{e:Lv}(he:e∈L)(hx:f<=e.x):Rl L f e.u e.v:=.step e (.refl _) he hx (.inl ⟨rfl,rfl⟩)
theorem Rl.edge' {e:Lv}(he:e∈L)(hx:f<=e.x):Rl L f e.v e.u:=.step e (.refl _) he hx (.inr ⟨rfl,rfl⟩)
theorem Rl.symm(h:Rl L f a b):Rl L f b a:=by
 induction h with
 | refl=>exact .refl _
 | step e _ h1 h2 h3 ih=>{
 rcases h3 with⟨rfl,rfl⟩|⟨rfl,rfl⟩
 · exact(Rl.edge' h1 h2).trans ih
 · exact(Rl.edge h1 h2).trans ih}
theorem Rl.mono(h:Rl L f a b)(hm:∀e∈L,f<=e.x->∃d∈L', d.u=e.u/\d.v=e.v/\g<=d.x):Rl L' g a b:=by
 induction h with
 | refl=>exact .refl _
 | step e _ h1 h2 h3 ih=>{
 obtain⟨d,hd,e1,e2,hx⟩:=hm e h1 h2;exact .step d ih hd hx (by rw[e1,e2];exact h3)}
theorem Rl.inv(P:Nat->Prop)(hP:∀e∈L,f<=e.x->(P e.u↔P e.v))(h:Rl L f a b):P a↔P b:=by
 induction h with
 | refl=>exact Iff.rfl
 | step e _ h1 h2 h3 ih=>{
 rw[ih];rcases h3 with⟨rfl,rfl⟩|⟨rfl,rfl⟩
 · exact hP e h1 h2
 · exact(hP e h1 h2).symm}
theorem Rl.last(h:Rl L f a b)(hne:a≠b):∃e∈L,e.at b=true/\f<=e.x:=by
 cases h with
 | refl=>exact absurd rfl hne
 | step e _ h1 h2 h3=>exact⟨e,h1,by unfold Lv.at;rcases h3 with⟨_,h⟩|⟨h,_⟩<;>simp[h],h2⟩
end
def inL(L:List Lv)(u:Nat):Prop:=∃e∈L,e.at u=true
def kH:Int:=-9223372036854775808
def cQ(e:Lv):Lv:={ e with slot:=0 }
theorem aAG{L:List Lv}{u:Nat}:inL (L.map cQ) u↔inL L u:=by
 unfold inL;constructor
 {
 rintro⟨e,he,h⟩;obtain⟨d,hd,rfl⟩:=qW.1 he;exact⟨d,hd,h⟩}
 {
 rintro⟨e,he,h⟩;exact⟨cQ e,qW.2 ⟨e,he,rfl⟩,h⟩}
theorem aOM{L:List Lv}{f:Int}{a b:Nat}:Rl (L.map cQ) f a b↔Rl L f a b:=by
 constructor
 {
 intro h;refine h.mono fun e he hx=>?_;obtain⟨d,hd,rfl⟩:=qW.1 he;exact⟨d,hd,rfl,rfl,hx⟩}
 {
 intro h;exact h.mono fun e he hx=>⟨cQ e,qW.2 ⟨e,he,rfl⟩,rfl,rfl,hx⟩}
noncomputable def ncl(R:Nat->Nat->Prop):List Nat->Nat
  | []=>0
  | a::r=>ncl R r+if ∃b∈r,R a b then 0 else 1
section
variable {R R' :Nat->Nat->Prop} {l m:List Nat}
theorem tI(hs:∀a b,R a b->R b a)(ht:∀a b c,R a b->R b c->R a c)(h:l.Perm m):ncl R l=ncl R m:=by
 induction h with
 | nil=>rfl
 | cons a h ih=>{
 have e:(∃b∈_,R a b)↔∃b∈_,R a b:=⟨fun⟨b,hb,hr⟩=>⟨b,h.mem_iff.1 hb,hr⟩,fun⟨b,hb,hr⟩=>⟨b,h.mem_iff.2 hb,hr⟩⟩;simp only[ncl,ih,e]}
 | swap a b r=>{
 simp only[ncl,qB,exists_eq_or_imp];by_cases hab:R a b
 {
 have hba:=hs _ _ hab;have e:(∃c,c∈r/\R a c)↔∃c,c∈r/\R b c:=⟨fun⟨c,hc,h⟩=>⟨c,hc,ht _ _ _ hba h⟩,fun⟨c,hc,h⟩=>⟨c,hc,ht _ _ _ hab h⟩⟩;simp only[hab,hba,e,true_or,if_true]}
 {
 have hba:¬R b a:=fun h=>hab (hs _ _ h);simp only[hab,hba,false_or];omega}}
 | trans _ _ ih1 ih2=>rw[ih1,ih2]
theorem aON(f:Nat->Nat)(l:List Nat):ncl R (l.map f)=ncl (fun a b=>R (f a) (f b)) l:=by
 induction l with
 | nil=>rfl
 | cons a r ih=>{
 have e:(∃b∈r.map f,R (f a) b)↔∃b∈r,R (f a) (f b):=by {
 constructor
 {
 rintro⟨b,hb,hr⟩;obtain⟨c,hc,rfl⟩:=qW.1 hb;exact⟨c,hc,hr⟩}
 · rintro⟨c,hc,hr⟩;exact⟨f c,qW.2 ⟨c,hc,rfl⟩,hr⟩};simp only[List.map_cons,ncl,ih,e]}
theorem vP(h:∀a∈l,∀b∈l,R a b↔R' a b):ncl R l=ncl R' l:=by
 induction l with
 | nil=>rfl
 | cons a r ih=>{
 have e:(∃b∈r,R a b)↔∃b∈r,R' a b:=⟨fun⟨b,hb,hr⟩=>⟨b,hb,(h a (by simp) b (by simp[hb])).1 hr⟩,fun⟨b,hb,hr⟩=>⟨b,hb,(h a (by simp) b (by simp[hb])).2 hr⟩⟩;simp only[ncl,ih fun a ha b hb=>h a (by simp[ha]) b (by simp[hb]),e]}
theorem aAH(hs:∀a b,R a b->R b a)(ht:∀a b c,R a b->R b c->R a c)(l:List Nat)(a:Nat):ncl R (l++[a])=ncl R l+if ∃b∈l,R a b then 0 else 1:=by
 rw[tI hs ht (List.perm_append_comm (l₁:=l) (l₂:=[a]))];rfl
theorem aRL(l:List Nat):ncl R l<=l.length:=by
 induction l with
 | nil=>exact qK 0
 | cons a r ih=>{
 simp only[ncl,qZ];split<;>omega}
theorem aGP(h:∀a∈l,∀b,R a b->a=b)(hn:(l++m).Nodup):ncl R (l++m)=l.length+ncl R m:=by
 induction l with
 | nil=>simp
 | cons a r ih=>{
 rw[zC]at hn ⊢;have hn' :=qO.1 hn;have e:¬∃b∈r++m,R a b:=fun⟨b,hb,hr⟩=>hn'.1 ((h a (by simp) b hr)▸hb);simp only[ncl,qC e,ih (fun b hb=>h b (by simp[hb])) hn'.2,qZ];omega}
end
section
variable {W:Wm} {f:Int} {a b u v:Nat}
theorem aTP(h:W.Ok)(hc:Cx W.G (rP W.G f) a b)(hu:W.s.M.find u=some a):∃v,W.s.M.find v=some b/\Rl W.s.L f u v:=by
 induction hc with
 | refl=>exact⟨u,hu,.refl _⟩
 | step s x _ h1 h2 ih=>{
 obtain⟨v,hv,hr⟩:=ih;obtain⟨p,q,y,hy,hfy⟩:=h1;rcases h2 with h2|h2
 {
 rw[h2]at hy;simp only[qI,zE]at hy;obtain⟨e,he,hs,e1,e2,ex⟩:=(h.lk.g _ _ _ _).1 h2;exact⟨e.v,e2,.step e hr he (by omega) (.inl ⟨oH h.ok.md e1 hv,rfl⟩)⟩}
 {
 rw[h2]at hy;simp only[qI,zE]at hy;obtain⟨e,he,hs,e1,e2,ex⟩:=(h.lk.g _ _ _ _).1 h2;exact⟨e.u,e1,.step e hr he (by omega) (.inr ⟨rfl,oH h.ok.md e2 hv⟩)⟩}}
theorem aTQ(h:W.Ok)(hc:Rl W.s.L f u v)(hu:W.s.M.find u=some a):∃b,W.s.M.find v=some b/\Cx W.G (rP W.G f) a b:=by
 induction hc with
 | refl=>exact⟨a,hu,.refl _⟩
 | step e _ h1 h2 h3 ih=>{
 obtain⟨b,hb,hc⟩:=ih;obtain⟨p,hp⟩:=qV.1 (iB h.ok h1 (x:=e.u) (by simp[Lv.at]));obtain⟨q,hq⟩:=qV.1 (iB h.ok h1 (x:=e.v) (by simp[Lv.at]));have hg:W.G e.slot=some (p,q,e.x):=(h.lk.g _ _ _ _).2 ⟨e,h1,rfl,hp,hq,rfl⟩;rcases h3 with⟨e1,e2⟩|⟨e1,e2⟩
 {
 have:b=p:=by rw[<-e1,hp]at hb;exact(Option.some.inj hb).symm
 subst this;exact⟨q,by rw[<-e2];exact hq,.step e.slot e.x hc ⟨_,_,_,hg,h2⟩ (.inl hg)⟩}
 {
 have:b=q:=by rw[<-e2,hq]at hb;exact(Option.some.inj hb).symm
 subst this;exact⟨p,by rw[<-e1];exact hp,.step e.slot e.x hc ⟨_,_,_,hg,h2⟩ (.inr hg)⟩}}
theorem aRM(h:W.Ok)(hu:W.s.M.find u=some a)(hv:W.s.M.find v=some b):Cx W.G (rP W.G f) a b↔Rl W.s.L f u v:=by
 constructor
 {
 intro hc;obtain⟨v', hv', hr⟩:=aTP h hc hu;rw[oH h.ok.md hv hv'];exact hr}
 {
 intro hr;obtain⟨b', hb', hc⟩:=aTQ h hr hu;rw[hv]at hb';rw[Option.some.inj hb'];exact hc}
theorem aRN(h:W.Ok)(a b:Nat):Cx W.G (fun _=>True) a b↔Cx W.G (rP W.G kH) a b:=by
 constructor
 {
 refine fun hc=>hc.mono fun t e _ he=>?_;obtain⟨p,q,x⟩:=e;refine⟨p,q,x,he,?_⟩;obtain⟨d,hd,_,_,_,hx⟩:=(h.lk.g _ _ _ _).1 he;have h1:=(h.x d hd).2.2.2;have h2:=h.n0;unfold kH;omega}
 · exact fun hc=>hc.mono fun _ _ _ _=>trivial
theorem aOO(h:W.Ok)(hu:W.s.M.find u=some a)(hv:W.s.M.find v=some b):Cx W.G (fun _=>True) a b↔Rl W.s.L kH u v:=by
 rw[aRN h,aRM h hu hv]
theorem aAI(h:W.Ok)(u:Nat):(W.s.M.find u).isSome=true↔inL W.s.L u:=by
 rw[h.ok.vert];constructor
 {
 intro hn;obtain⟨k,hk⟩:=List.exists_mem_of_ne_nil _ hn;obtain⟨e,he,hat,_⟩:=sB.1 hk;exact⟨e,he,hat⟩}
 {
 rintro⟨e,he,hat⟩;exact List.ne_nil_of_mem (sB.2 ⟨e,he,hat,rfl⟩)}
end
def cG(x:Nat):List Nat->List Nat
  | []=>[x]
  | a::r=>if x=a then a::r else if x<a then x::a::r else a::cG x r
theorem eF{x y:Nat}{l:List Nat}:y∈cG x l↔y=x∨y∈l:=by
 induction l with
 | nil=>simp[cG]
 | cons a r ih=>{
 unfold cG;by_cases h1:x=a
 {
 rw[qD h1,qB];constructor
 · exact fun h=>.inr h
 {
 rintro(rfl|h)
 · exact .inl h1
 · exact h}}
 {
 rw[qC h1];by_cases h2:x<a
 · rw[qD h2,qB]
 {
 rw[qC h2,qB,qB,ih];constructor
 {
 rintro(h|h|h)
 · exact .inr (.inl h)
 · exact .inl h
 · exact .inr (.inr h)}
 {
 rintro(h|h|h)
 · exact .inr (.inl h)
 · exact .inl h
 · exact .inr (.inr h)}}}}
theorem gF{x:Nat}{l:List Nat}(h:l.Pairwise (· < ·)):(cG x l).Pairwise (· < ·):=by
 induction l with
 | nil=>simp[cG]
 | cons a r ih=>{
 have h' :=List.pairwise_cons.1 h;unfold cG;by_cases h1:x=a
 · rw[qD h1];exact h
 {
 rw[qC h1];by_cases h2:x<a
 {
 rw[qD h2];refine List.pairwise_cons.2 ⟨fun y hy=>?_,h⟩;rcases qB.1 hy with rfl|hy
 · exact h2
 · have:=h'.1 y hy;omega}
 {
 rw[qC h2];refine List.pairwise_cons.2 ⟨fun y hy=>?_,ih h'.2⟩;rcases eF.1 hy with rfl|hy
 · omega
 · exact h'.1 y hy}}}
theorem aKE{l m:List Nat}(hl:l.Pairwise (· < ·))(hm:m.Pairwise (· < ·))(h:∀x,x∈l↔x∈m):l=m:=by
 refine List.Perm.eq_of_pairwise (le:=fun x y:Nat=>x<y) (fun a b _ _ h1 h2=>by omega) hl hm ?_;rw[List.perm_ext_iff_of_nodup (hl.imp fun h=>Nat.ne_of_lt h) (hm.imp fun h=>Nat.ne_of_lt h)];exact h
def bR(L:List Lv):List Nat:=L.foldl (fun o e=>cG e.v (cG e.u o)) []
theorem idsF(L:List Lv):∀o:List Nat,o.Pairwise (· < ·)->(L.foldl (fun o e=>cG e.v (cG e.u o)) o).Pairwise (· < ·)/\∀x,x∈L.foldl (fun o e=>cG e.v (cG e.u o)) o↔x∈o∨inL L x:=by
 induction L with
 | nil=>intro o ho;exact⟨ho,fun x=>by simp[inL]⟩
 | cons e r ih=>{
 intro o ho;obtain⟨h1,h2⟩:=ih _ (gF (x:=e.v) (gF (x:=e.u) ho));refine⟨h1,fun x=>?_⟩;rw[List.foldl_cons,h2,eF,eF];unfold inL;simp only[qB,exists_eq_or_imp,Lv.at,Bool.or_eq_true,beq_iff_eq];constructor
 {
 rintro((h|h|h)|h)
 · exact .inr (.inl (.inr h.symm))
 · exact .inr (.inl (.inl h.symm))
 · exact .inl h
 · exact .inr (.inr h)}
 {
 rintro(h|(h|h)|h)
 · exact .inl (.inr (.inr h))
 · exact .inl (.inr (.inl h.symm))
 · exact .inl (.inl h.symm)
 · exact .inr h}}
theorem jT(L:List Lv):(bR L).Pairwise (· < ·):=(idsF L [] .nil).1
theorem gL{L:List Lv}{x:Nat}:x∈bR L↔inL L x:=by
 have h:=(idsF L [] .nil).2 x;unfold bR;rw[h];simp
theorem aCO(L:List Lv):(bR L).Nodup:=(jT L).imp fun h=>Nat.ne_of_lt h
theorem pL(L:List Lv):bR (L.map cQ)=bR L:=
  aKE (jT _) (jT _) fun x=>by rw[gL,gL,aAG]
section
variable {W:Wm}
theorem Wm.Ok.ids_eq(h:W.Ok):W.s.ids=bR W.s.L:=by
 refine aKE (aHX h.ok.md.ids) (jT _) fun x=>?_;rw[show W.s.ids=nR (W.s.M.L.map (·.1)) from rfl,aFR,fM h.ok.md,aAI h,gL]
theorem Wm.Ok.ids_len(h:W.Ok):W.s.M.L.length=(bR W.s.L).length:=by rw[<-h.ids_eq,Sm.ids_len]
theorem Wm.Ok.ids_perm(h:W.Ok):(W.s.M.L.map (·.1)).Perm (bR W.s.L):=by
 rw[<-h.ids_eq];exact(mY _).symm
theorem Wm.Ok.idx(h:W.Ok){u a:Nat}(hu:W.s.M.find u=some a):a<W.V:=by
 have:=Sm.idx_lt h.ok hu;rw[h.hV]at this;exact this
theorem aUB(h:W.Ok){T P:Nat->Prop}(hT:∀i,T i↔∃u,W.s.M.find u=some i/\P u):bZ W.V T=((bR W.s.L).filter fun u=>decide (P u)).length:=by
 have h1:((List.range W.V).filter fun i=>decide (T i)).Perm ((W.s.M.L.filter fun p=>decide (P p.1)).map (·.2)):=by {
 rw[List.perm_ext_iff_of_nodup (List.nodup_range.filter _) ((List.Sublist.map _ List.filter_sublist).nodup h.ok.md.idx)];intro i;simp only[zA,List.mem_range,decide_eq_true_eq,qW];constructor
 {
 rintro⟨_,ht⟩;obtain⟨u,hu,hp⟩:=(hT i).1 ht;exact⟨(u,i),⟨Md.find_mem hu,hp⟩,rfl⟩}
 {
 rintro⟨⟨u,j⟩,⟨hm,hp⟩,rfl⟩;have hu:=(Md.find_iff h.ok.md).2 hm;exact⟨h.idx hu,(hT _).2 ⟨u,hu,hp⟩⟩}};unfold bZ;rw[h1.length_eq,List.length_map];have h2:=(h.ids_perm.filter fun u=>decide (P u)).length_eq;rw[<-h2,List.filter_map,List.length_map];rfl
theorem aKF(G:cF)(T:Nat->Prop)(n:Nat):bZ n (oA G T)=ncl (Cx G T) (List.range n):=by
 induction n with
 | zero=>rfl
 | succ n ih=>{
 rw[List.range_succ,aAH (fun _ _ h=>h.symm) (fun _ _ _ h1 h2=>h1.trans h2),<-ih];unfold bZ;rw[List.range_succ,List.filter_append,zF];congr 1
 by_cases hl:oA G T n
 {
 have:¬∃b∈List.range n,Cx G T n b:=fun⟨b,hb,hc⟩=>hl b (List.mem_range.1 hb) hc;rw[qC this];simp[hl]}
 {
 have:∃b∈List.range n,Cx G T n b:=by {
 apply qQ;intro hn;exact hl fun b hb hc=>hn ⟨b,List.mem_range.2 hb,hc⟩};rw[qD this];simp[hl]}}
theorem aGQ(h:W.Ok):kC W.V W.G+W.s.M.L.length=W.V+ncl (Rl W.s.L kH) (bR W.s.L):=by
 unfold kC;rw[aKF];have hp:(List.range W.V).Perm (((List.range W.V).filter fun i=>decide (i∉W.s.M.L.map (·.2)))++W.s.M.L.map (·.2)):=by {
 rw[List.perm_ext_iff_of_nodup List.nodup_range]
 {
 intro i;simp only[qE,zA,List.mem_range,decide_eq_true_eq];constructor
 {
 intro hi;by_cases hm:i∈W.s.M.L.map (·.2)
 · exact .inr hm
 · exact .inl ⟨hi,hm⟩}
 {
 rintro(hi|hm)
 · exact hi.1
 {
 obtain⟨⟨u,j⟩,hm2,rfl⟩:=qW.1 hm;exact h.idx ((Md.find_iff h.ok.md).2 hm2)}}}
 {
 rw[qN];refine⟨List.nodup_range.filter _,h.ok.md.idx,fun a ha b hb e=>?_⟩;subst e;exact(of_decide_eq_true (zA.1 ha).2) hb}};have hlen:=hp.length_eq;rw[List.length_range,zF,List.length_map]at hlen;rw[tI (fun _ _ h=>h.symm) (fun _ _ _ h1 h2=>h1.trans h2) hp,aGP]
 {
 have e1:W.s.M.L.map (·.2)=(W.s.M.L.map (·.1)).map fun u=>(W.s.M.find u).getD 0:=by {
 rw[List.map_map];refine List.map_congr_left fun p hm=>?_;show p.2=(W.s.M.find p.1).getD 0
 rw[(Md.find_iff h.ok.md).2 (show(p.1,p.2)∈_ from hm)];rfl};have e2:ncl (Cx W.G fun _=>True) (W.s.M.L.map (·.2))=ncl (Rl W.s.L kH) (bR W.s.L):=by {
 rw[e1,aON,<-tI (fun _ _ h=>h.symm) (fun _ _ _ h1 h2=>h1.trans h2) h.ids_perm];refine vP fun a ha b hb=>?_;obtain⟨i,hi⟩:=qV.1 ((fM h.ok.md).1 ha);obtain⟨j,hj⟩:=qV.1 ((fM h.ok.md).1 hb);rw[hi,hj];exact aOO h hi hj};rw[e2];omega}
 {
 intro a ha b hc;apply qQ;intro hne;have hn:a∉W.s.M.L.map (·.2):=of_decide_eq_true (zA.1 ha).2;obtain⟨s,c,x,_,hs⟩:=hc.symm.first (Ne.symm hne);rcases hs with hs|hs
 {
 obtain⟨e,he,_,e1,e2,_⟩:=(h.lk.g _ _ _ _).1 hs;exact hn (qW.2 ⟨_,Md.find_mem e2,rfl⟩)}
 {
 obtain⟨e,he,_,e1,e2,_⟩:=(h.lk.g _ _ _ _).1 hs;exact hn (qW.2 ⟨_,Md.find_mem e1,rfl⟩)}}
 · exact hp.nodup_iff.1 List.nodup_range
end
noncomputable def pZ(L:List Lv):Nat:=ncl (Rl L kH) (bR L)
section
variable (L:List Lv) (u v:Nat)
theorem aCP:pZ (L.map cQ)=pZ L:=by
 unfold pZ;rw[pL];exact vP fun a _ b _=>aOM
end
structure Ob where
  m:Int
  E:Nat
  V:Nat
  D:Int
  now:Int
  L:List Lv
  last:Nat
  gone:Nat
def Wm.ob(X:Wm):Ob:=⟨X.m,X.E,X.V,X.D,X.now,X.s.L.map cQ,X.s.last,X.gone⟩
namespace Ob
def left(o:Ob)(to:Int):List Lv:=o.L.filter fun e=>decide (to<e.x)
def tick(o:Ob)(to:Int):Ob:={ o with now:=to,L:=o.left to,gone:=o.gone+(o.L.length-(o.left to).length) }
def put(o:Ob)(u v:Nat)(wt:Int):Ob:={ o with L:=o.L++[⟨0,o.last+1,u,v,wt,o.now,o.now+o.m⟩],last:=o.last+1 }
def idsUV(L:List Lv)(u v:Nat):List Nat:=cG v (cG u (bR L))
def addC(o:Ob)(u v:Nat)(t:Int):Nat:=
  if u=v then 9 else if t<o.now then 10 else if 9223372036854775807<t+o.m∨9223372036854775807<=o.last then 7 else if o.E<=(o.left t).length then 12 else if o.V<(idsUV (o.left t) u v).length then 11 else 0
def add(o:Ob)(u v:Nat)(wt t:Int):Ob:=if o.addC u v t=0 then(o.tick t).put u v wt else o
def new(m:Int)(E V:Nat)(D:Int)(g:Nat):Ob:=⟨m,E,V,D,0,[],g,g⟩
structure Ok (o:Ob):Prop where
  x:∀e∈o.L,e.x=e.t+o.m/\0<=e.t/\e.t<=o.now/\o.now<e.x
  mono:o.L.Pairwise fun a b=>a.t<=b.t
  num:∀i (h:i<o.L.length),(o.L[i]).seq=o.gone+i+1
  last:o.last=o.gone+o.L.length
  max:o.last<=9223372036854775807
  m1:1<=o.m
  m2:o.m<=9223372036854775807
  n0:0<=o.now
  n1:o.now+o.m<=9223372036854775807
  ne:∀e∈o.L,e.u≠e.v
  u64:∀e∈o.L,e.u<18446744073709551616/\e.v<18446744073709551616
  leE:o.L.length<=o.E
  leV:(bR o.L).length<=o.V
  mE:o.E<=16384
  mV:o.V<=4096
  sl:∀e∈o.L,e.slot=0
end Ob
section
variable {X:Wm}
theorem tJ(X:Wm):X.ob.L.length=X.s.L.length:=List.length_map _
theorem Wm.Ok.lenE(h:X.Ok):X.s.L.length<=X.E:=by
 have h1:=Sm.len_used h.ok;have h2:=h.ok.ar.hb;have h3:=h.ok.sl;have h4:=h.hE;unfold Ar.used at h1;omega
theorem Wm.Ok.lenV(h:X.Ok):(bR X.s.L).length<=X.V:=by
 rw[<-h.ids_len];have h1:=h.ok.md.cnt;have h2:=h.ok.md.ar.hb;have h3:=h.ok.ms;have h4:=h.hV;have h6:X.s.M.ar.slots=X.s.M.slots:=rfl;have h7:X.s.M.ar.begun=X.s.M.given:=rfl;omega
theorem Wm.Ok.ob(h:X.Ok):X.ob.Ok:=by
 have hm:∀e∈X.ob.L,∃d∈X.s.L,cQ d=e:=fun e he=>qW.1 he;refine⟨fun e he=>?_,?_,fun i hi=>?_,?_,h.max,h.m1,h.m2,h.n0,h.n1,fun e he=>?_,fun e he=>?_,?_,?_,?_,?_,fun e he=>?_⟩
 {
 obtain⟨d,hd,rfl⟩:=hm e he;exact h.x d hd}
 · exact List.pairwise_map.2 h.mono
 {
 have hi' :i<X.s.L.length:=by rw[<-tJ];exact hi
 have e:X.ob.L[i]'hi=cQ (X.s.L[i]'hi'):=List.getElem_map ..;rw[e];exact h.num i hi'}
 · rw[tJ];exact h.last
 {
 obtain⟨d,hd,rfl⟩:=hm e he;exact h.ok.ne d hd}
 {
 obtain⟨d,hd,rfl⟩:=hm e he;exact h.ok.u64 d hd}
 · rw[tJ];exact h.lenE
 · rw[show X.ob.L=X.s.L.map cQ from rfl,pL];exact h.lenV
 · show X.E<=_;rw[<-h.hE];exact h.ok.leE
 · show X.V<=_;rw[<-h.hV];exact h.ok.leV
 {
 obtain⟨d,hd,rfl⟩:=hm e he;rfl}
theorem aRO(m:Int)(E V:Nat)(D:Int)(g:Nat):(Wm.new m E V D g).ob=Ob.new m E V D g:=rfl
theorem aGR(h:X.s.Ok)(u v:Nat)(hne:u≠v)(hi:∀x,(X.s.M.find x).isSome=true↔inL X.s.L x):X.s.M.L.length+X.s.more u v=(Ob.idsUV (X.s.L.map cQ) u v).length:=by
 have h1:X.s.M.L.length+X.s.more u v=(mZ X.s.M u v).length:=by rw[aBX];rfl
 rw[h1];apply List.Perm.length_eq;unfold Ob.idsUV;rw[List.perm_ext_iff_of_nodup (xB h.md hne) ((gF (gF (jT _))).imp fun h=>Nat.ne_of_lt h)];intro x;rw[aBY h.md,eF,eF,gL,aAG,hi];constructor
 {
 rintro(h|h|h)
 · exact .inr (.inr h)
 · exact .inr (.inl h)
 · exact .inl h}
 {
 rintro(h|h|h)
 · exact .inr (.inr h)
 · exact .inr (.inl h)
 · exact .inl h}
theorem aRP(h:X.Ok)(u v:Nat)(hne:u≠v):X.s.chk u v=if X.E<=X.ob.L.length then 12 else if X.V<(Ob.idsUV X.ob.L u v).length then 11 else 0:=by
 unfold Sm.chk;rw[qC hne,Sm.len_used h.ok,h.hE,h.hV,aGR h.ok u v hne (aAI h),tJ];rfl
end
end Go.Proofs.YtjdgpcjbgjnahaaGreatDoor
namespace Go.Proofs.YtjdgpcjbgjnahaaGreatDoor
open Go.RowKit
structure Th where
  P:World->List Nat->Prop
  lt:∀{w:World} {K:List Nat},P w K->∀q∈K,q<w.heap.size
  fr:∀{w w' :World} {K S:List Nat},P w K->Fr S w w' -> (∀q∈K,q∉S)->P w' K
def Hs(n:Nat)(w:World):List Th->List Nat->Prop
  | [],K=>K=[]
  | t::ts,K=>∃K1 K2,t.P w K1/\(∀q∈K1,n<=q)/\Hs n w ts K2/\(∀q∈K1,q∉K2)/\K=K1++K2
section
variable {n:Nat} {w w' :World} {ts:List Th} {K S:List Nat}
theorem Hs.lt:∀{ts:List Th} {K:List Nat},Hs n w ts K->∀q∈K,n<=q/\q<w.heap.size
  | [],K,h=>by rw[show K=[] from h];simp
  | t::ts,K,h=>by
    obtain⟨K1,K2,h1,h2,h3,_,rfl⟩:=h;intro q hq;rcases qE.1 hq with hq|hq
    · exact⟨h2 q hq,t.lt h1 q hq⟩
    · exact Hs.lt h3 q hq
theorem Hs.fr(hf:Fr S w w'):∀{ts:List Th} {K:List Nat},Hs n w ts K->(∀q∈K,q∉S)->Hs n w' ts K
  | [],_,h,_=>h
  | t::ts,K,h,hs=>by
    obtain⟨K1,K2,h1,h2,h3,h4,rfl⟩:=h;exact⟨K1,K2,t.fr h1 hf (fun q hq=>hs q (qE.2 (.inl hq))),h2,Hs.fr hf h3 (fun q hq=>hs q (qE.2 (.inr hq))),h4,rfl⟩
end
def Wd(W wr:World)(ts:List Th):Prop:=Fr [] W wr/\∃K,Hs W.heap.size wr ts K
def Stp(w w' :World)(K:List Nat)(t:Th):Prop:=∃K', t.P w' K' /\ Fr K w w' /\ ∀q∈K', q∈K∨w.heap.size<=q
section
variable {W wr w' :World} {t t' a b c:Th} {ts:List Th} {K:List Nat}
theorem Wd.begin(W:World):Wd W W []:=⟨Fr.refl _ _,[],rfl⟩
theorem Wd.base(h:Fr [] W wr):Wd W wr []:=⟨h,[],rfl⟩
theorem Wd.frm(h:Wd W wr ts):Fr [] W wr:=h.1
theorem Wd.below(h:Wd W wr ts):Below W.heap.size W wr:=h.1.below (by simp)
theorem Wd.fr0(h:Wd W wr ts)(hf:Fr [] wr w'):Wd W w' ts:=by
 obtain⟨h1,K,h2⟩:=h;exact⟨h1.trans' hf,K,h2.fr hf (by simp)⟩
theorem Wd.drop(h:Wd W wr (t::ts)):Wd W wr ts:=by
 obtain⟨h1,K,K1,K2,_,_,h2,_⟩:=h;exact⟨h1,K2,h2⟩
theorem Wd.get(h:Wd W wr (t::ts)):∃K,t.P wr K:=by
 obtain⟨_,K,K1,K2,h,_⟩:=h;exact⟨K1,h⟩
theorem Wd.open(h:Wd W wr (t::ts)):∃K,t.P wr K/\∀{w' :World} {t' :Th},Stp wr w' K t' -> Wd W w' (t' :: ts):=by
 obtain⟨h1,K,K1,K2,h2,h3,h4,h5,rfl⟩:=h;refine⟨K1,h2,?_⟩;rintro w' t' ⟨K', k1,k2,k3⟩;have hs:=h1.size;have hs2:=k2.size;refine⟨h1.trans k2 (fun q hq=>.inr (h3 q hq)),K' ++ K2,K', K2,k1,fun q hq=>?_,h4.fr k2 (fun q hq hm=>h5 q hm hq),fun q hq hm=>?_,rfl⟩
 {
 rcases k3 q hq with e|e
 · exact h3 q e
 · omega}
 {
 rcases k3 q hq with e|e
 · exact h5 q e hm
 · have:=h4.lt q hm;omega}
theorem Wd.new(h:Wd W wr ts)(hf:Fr [] wr w')(hp:t.P w' K)(hk:∀q∈K,wr.heap.size<=q):Wd W w' (t::ts):=by
 obtain⟨h1,K2,h2⟩:=h;have hs:=h1.size;refine⟨h1.trans' hf,K++K2,K,K2,hp,fun q hq=>?_,h2.fr hf (by simp),fun q hq hm=>?_,rfl⟩
 · have:=hk q hq;omega
 {
 have:=hk q hq;have:=h2.lt q hm;omega}
theorem Wd.swap(h:Wd W wr (a::b::ts)):Wd W wr (b::a::ts):=by
 obtain⟨h1,K,K1,K2,h2,h3,⟨K3,K4,h4,h5,h6,h7,rfl⟩,h8,rfl⟩:=h;refine⟨h1,K3++(K1++K4),K3,K1++K4,h4,h5,⟨K1,K4,h2,h3,h6,fun q hq hm=>h8 q hq (qE.2 (.inr hm)),rfl⟩,fun q hq hm=>?_,rfl⟩;rcases qE.1 hm with e|e
 · exact h8 q e (qE.2 (.inl hq))
 · exact h7 q hq e
theorem Wd.under(h:Wd W wr (t::ts)){us:List Th}(hu:∀K,Hs W.heap.size wr ts K->∃K', Hs W.heap.size wr us K' /\ ∀q∈K', q∈K):Wd W wr (t::us):=by
 obtain⟨h1,K,K1,K2,h2,h3,h4,h5,rfl⟩:=h;obtain⟨K', k1,k2⟩:=hu K2 h4;exact⟨h1,K1++K', K1,K', h2,h3,k1,fun q hq hm=>h5 q hq (k2 q hm),rfl⟩
theorem Wd.drop2(h:Wd W wr (a::b::ts)):Wd W wr (a::ts):=h.swap.drop
theorem Hs.swap{n:Nat}(h:Hs n wr (a::b::ts) K):∃K', Hs n wr (b::a::ts) K' /\ ∀q∈K', q∈K:=by
 obtain⟨K1,K2,h2,h3,⟨K3,K4,h4,h5,h6,h7,rfl⟩,h8,rfl⟩:=h;refine⟨K3++(K1++K4),⟨K3,K1++K4,h4,h5,⟨K1,K4,h2,h3,h6,fun q hq hm=>h8 q hq (qE.2 (.inr hm)),rfl⟩,fun q hq hm=>?_,rfl⟩,fun q hq=>?_⟩
 {
 rcases qE.1 hm with e|e
 · exact h8 q e (qE.2 (.inl hq))
 · exact h7 q hq e}
 {
 simp only[qE]at hq ⊢;rcases hq with e|e|e
 · exact .inr (.inl e)
 · exact .inl e
 · exact .inr (.inr e)}
theorem Wd.third(h:Wd W wr (a::b::c::ts)):Wd W wr (c::a::b::ts):=(h.under fun _ hk=>Hs.swap hk).swap
theorem Wd.back3(h:Wd W wr (a::b::c::ts)):Wd W wr (b::c::a::ts):=h.swap.under fun _ hk=>Hs.swap hk
end
section
variable {w w' :World} {pw pc ps px pf:Nat} {P:Wp} {Ks lx Lf:List Nat} {cl:Nat->Nat}
theorem aKG(h:eP w pw pc ps px pf P Ks lx Lf cl):Calls Tryz.prog 25 #[eA pw] w fun e w' =>e=.returned (.tuple #[.int .u64 P.added,.int .u64 P.gone])/\Fr [] w w' :=by
 have HV:=qA (lG h);have c8:=h.hd.cell 8;have c9:=h.hd.cell 9;simp only[zJ,zK]at c8 c9;clear h;go_enter Tryz.func25,Tryz.ntmps25
 go_wp2_with fail
 refine HV.out.mono ?_;rintro _ w ⟨rfl,rfl⟩;go_wp2_with fail
 go_quiet (fail)
 go_wp2
 go_ret2;exact⟨rfl,(Fr.refl _ _).drewN _⟩
end
end Go.Proofs.YtjdgpcjbgjnahaaGreatDoor
namespace Go.Proofs.YtjdgpcjbgjnahaaGreatDoor
open Go.RowKit Classical
end Go.Proofs.YtjdgpcjbgjnahaaGreatDoor
namespace Go.Proofs.YtjdgpcjbgjnahaaGreatDoor
open Go.RowKit
section
variable {w w' :World} {pw pc ps px pf:Nat} {P:Wp} {Ks lx Lf:List Nat} {cl:Nat->Nat}
theorem aGS(h:eP w pw pc ps px pf P Ks lx Lf cl):Calls Tryz.prog 31 #[eA pw] w fun e w' =>e=.returned (.agg #[.int .i64 P.m,.int .i64 P.E,.int .i64 P.V,.int .i64 P.D])/\Fr [] w w' :=by
 have h1:=h.fr0 ((Fr.refl [] w).alloc (.cells #[.int .i64 0,.int .i64 0,.int .i64 0,.int .i64 0] 31));have HV:=qA (lG h1);have c0:=h1.hd.cell 0;have c1:=h1.hd.cell 1;have c2:=h1.hd.cell 2;have c3:=h1.hd.cell 3;have hb:=Blk.new w [.int .i64 P.m,.int .i64 P.E,.int .i64 P.V,.int .i64 P.D] 31;have r0:=hb.cell 0;have r1:=hb.cell 1;have r2:=hb.cell 2;have r3:=hb.cell 3;simp only[zJ,zK]at c0 c1 c2 c3 r0 r1 r2 r3;have HF:=qA ((Fr.refl [] w).alloc (.cells #[.int .i64 P.m,.int .i64 P.E,.int .i64 P.V,.int .i64 P.D] 31));clear h h1 hb;go_enter Tryz.func31,Tryz.ntmps31
 go_wp2_with fail
 refine HV.out.mono ?_;rintro _ _ ⟨rfl,rfl⟩;go_wp2
 exact bodyPost_ret (v:=.agg #[.int .i64 P.m,.int .i64 P.E,.int .i64 P.V,.int .i64 P.D]) (by simp[results,Tryz.results31,go_sem,r0,r1,r2,r3]) rfl ⟨rfl,HF.out⟩
end
structure CpS (w wr:World) (b:Nat) (l:List Value):Prop where
  hd:Blk wr b 38 l
  fr:Fr [] w wr
  lb:w.heap.size=b
section
variable {w wr w' :World} {b:Nat} {l:List Value}
end
section
variable {w w' :World} {pw pc ps px pf:Nat} {P:Wp} {Ks lx Lf:List Nat} {cl:Nat->Nat}
end
end Go.Proofs.YtjdgpcjbgjnahaaGreatDoor
namespace Go.Proofs.YtjdgpcjbgjnahaaGreatDoor
open Go.RowKit Classical
def thO(p:Nat)(o:Ob):Th:=⟨fun w K=>∃X,X.ob=o/\kD w p X K,fun⟨_,_,h⟩=>h.lt,fun⟨X,e,h⟩ hf hs=>⟨X,e,h.fr hf hs⟩⟩
def thV(v:Value)(l:List Lv):Th:=⟨fun w K=>bN w v l/\K=v.ownBlock.toList,fun⟨h,e⟩ q hq=>h.lt (by simpa[e] using hq),fun⟨h,e⟩ hf hs=>⟨h.fr hf (fun q hq=>hs q (by simp[e,hq])),e⟩⟩
def thB(b:Nat)(t:TypeId)(l:List Value):Th:=⟨fun w K=>Blk w b t l/\K=[b],fun⟨h,e⟩ q hq=>(show q=b by simpa[e] using hq)▸h.lt,fun⟨h,e⟩ hf hs=>⟨hf.blk h (hs b (by simp[e])),e⟩⟩
def aPU(o:Ob)(l:List Lv):Prop:=l.map cQ=o.L/\(l.map (·.slot)).Nodup/\∀e∈l,e.slot<o.E
section
variable {W wr w' :World} {p:Nat} {o:Ob} {ts:List Th}
theorem Wd.rowV{v:Value}{l:List Lv}(h:Wd W wr (thV v l::ts)):bN wr v l:=by obtain⟨K,h,_⟩:=h.get;exact h
theorem Wd.blk{b:Nat}{t:TypeId}{l:List Value}(h:Wd W wr (thB b t l::ts)):Blk wr b t l:=by obtain⟨K,h,_⟩:=h.get;exact h
theorem Wd.ob(h:Wd W wr (thO p o::ts)):o.Ok:=by
 obtain⟨K,X,e,hx⟩:=h.get;exact e▸hx.1.ob
theorem aKH{X:Wm}(h:X.Ok):xX X=(pZ X.ob.L:Nat):=by
 rw[show X.ob.L=X.s.L.map cQ from rfl,aCP];unfold xX pZ;have:=aGQ h;omega
end
section
variable {W wr w' :World} {p:Nat} {o:Ob} {ts:List Th}
theorem aKI(h:Wd W wr (thO p o::ts)):Calls Tryz.prog 29 #[eA p] wr fun e w' =>e=.returned (.int .i64 o.now)/\w' =wr:=by
 obtain⟨K,X,rfl,h1⟩:=h.get;exact aOL h1
theorem aKJ(h:Wd W wr (thO p o::ts)):Calls Tryz.prog 27 #[eA p] wr fun e w' =>e=.returned (.tuple #[.int .i64 o.L.length,.int .i64 (bR o.L).length,.int .i64 (pZ o.L:Nat)])/\Fr [] wr w' :=by
 obtain⟨K,X,rfl,h1⟩:=h.get;rw[<-aKH h1.1,tJ,show X.ob.L=X.s.L.map cQ from rfl,pL,<-h1.1.ids_len];exact aGO h1
theorem aAJ(h:Wd W wr (thO p o::ts)):Calls Tryz.prog 25 #[eA p] wr fun e w' =>e=.returned (.tuple #[.int .u64 o.last,.int .u64 o.gone])/\Fr [] wr w' :=by
 obtain⟨K,X,rfl,hok,pc,ps,px,pf,nq,Ks,lx,Lf,cl,hB,rfl⟩:=h.get;exact aKG hB
theorem vQ(h:Wd W wr (thO p o::ts)):Calls Tryz.prog 31 #[eA p] wr fun e w' =>e=.returned (.agg #[.int .i64 o.m,.int .i64 o.E,.int .i64 o.V,.int .i64 o.D])/\Fr [] wr w' :=by
 obtain⟨K,X,rfl,hok,pc,ps,px,pf,nq,Ks,lx,Lf,cl,hB,rfl⟩:=h.get;exact aGS hB
theorem aER(h:Wd W wr (thO p o::ts)):Calls Tryz.prog 34 #[eA p] wr fun e w' =>∃v l,e=.returned v/\aPU o l/\Wd W w' (thV v l::thO p o::ts):=by
 obtain⟨K,X,rfl,hok,pc,ps,px,pf,nq,Ks,lx,Lf,cl,hB,rfl⟩:=h.get;refine(aOG hB).mono ?_;rintro _ w' ⟨v,rfl,h1,h2,h3⟩;refine⟨v,X.s.L,rfl,⟨rfl,hok.ok.one,fun e he=>?_⟩,h.new h3 ⟨h1,rfl⟩ (fun q hq=>h2 q (by simpa using hq))⟩;have hu:=(hok.ok.used e.slot).2 ⟨e,he,rfl⟩;have h4:=hok.ok.ar.hb;have h5:=hok.ok.sl;have h6:=hok.hE;have h7:e.slot<X.s.A.begun:=hu.1;show e.slot<X.E
 omega
theorem aRQ(h:Wd W wr ts)(m D:Int)(E V:Nat)(h1:1<=m)(h1' :m<=9223372036854775807)(h2:1<=E)(h3:E<=16384)(h4:2<=V)(h5:V<=4096)(h6:0<=D)(h7:D<=16384):
    Calls Tryz.prog 18 #[.agg #[.int .i64 m,.int .i64 E,.int .i64 V,.int .i64 D]] wr fun e w' =>∃p,e=.returned (.tuple #[eA p,.int .i64 0])/\Wd W w' (thO p (Ob.new m E V D 0)::ts):=
  (aRK m D E V wr h1 h1' h2 h3 h4 h5 h6 h7).mono fun _ _ ⟨p,k,K,k1,k2,k3⟩=>⟨p,k,h.new k2 ⟨_,aRO m E V D 0,k1⟩ k3⟩
end
end Go.Proofs.YtjdgpcjbgjnahaaGreatDoor
namespace Go.Proofs.YtjdgpcjbgjnahaaGreatDoor
open Go.RowKit
section
variable {w w' :World} {pw:Nat} {W:Wm} {K:List Nat}
end
section
variable {W wr w' :World} {p:Nat} {o:Ob} {ts:List Th}
end
def eZ(m E V D:Int):Bool:=decide (m≥1)&&(decide (E≥1)&&(decide (E<=16384)&&(decide (V≥2)&&(decide (V<=4096)&&(decide (D≥0)&&decide (D<=16384))))))
theorem cO{m E V D:Int}:eZ m E V D=true↔1<=m/\1<=E/\E<=16384/\2<=V/\V<=4096/\0<=D/\D<=16384:=by
 simp[eZ]
theorem aCQ(m E V D:Int)(w:World):Calls Tryz.prog 82 #[.agg #[.int .i64 m,.int .i64 E,.int .i64 V,.int .i64 D]] w fun e w' =>e=.returned (.bool (eZ m E V D))/\Fr [] w w' :=by
 have HF:=qA ((Fr.refl [] w).alloc (.cells #[.int .i64 m,.int .i64 E,.int .i64 V,.int .i64 D] 31));unfold eZ;by_cases h0:m≥1
 {
 have d0:decide (m≥1)=true:=qG h0;by_cases h1:E≥1
 {
 have d1:decide (E≥1)=true:=qG h1;by_cases h2:E<=16384
 {
 have d2:decide (E<=16384)=true:=qG h2;by_cases h3:V≥2
 {
 have d3:decide (V≥2)=true:=qG h3;by_cases h4:V<=4096
 {
 have d4:decide (V<=4096)=true:=qG h4;by_cases h5:D≥0
 {
 have d5:decide (D≥0)=true:=qG h5;by_cases h6:D<=16384
 {
 have d6:decide (D<=16384)=true:=qG h6;rw[d0,d1,d2,d3,d4,d5,d6];clear h0 h1 h2 h3 h4 h5 h6;go_enter Tryz.func82,Tryz.ntmps82
 go_wp2
 go_ret;exact⟨rfl,HF.out⟩}
 {
 have d6:decide (D<=16384)=false:=qF h6;rw[d0,d1,d2,d3,d4,d5,d6];clear h0 h1 h2 h3 h4 h5 h6;go_enter Tryz.func82,Tryz.ntmps82
 go_wp2
 go_ret;exact⟨rfl,HF.out⟩}}
 {
 have d5:decide (D≥0)=false:=qF h5;rw[d0,d1,d2,d3,d4,d5];clear h0 h1 h2 h3 h4 h5;go_enter Tryz.func82,Tryz.ntmps82
 go_wp2
 go_ret;exact⟨rfl,HF.out⟩}}
 {
 have d4:decide (V<=4096)=false:=qF h4;rw[d0,d1,d2,d3,d4];clear h0 h1 h2 h3 h4;go_enter Tryz.func82,Tryz.ntmps82
 go_wp2
 go_ret;exact⟨rfl,HF.out⟩}}
 {
 have d3:decide (V≥2)=false:=qF h3;rw[d0,d1,d2,d3];clear h0 h1 h2 h3;go_enter Tryz.func82,Tryz.ntmps82
 go_wp2
 go_ret;exact⟨rfl,HF.out⟩}}
 {
 have d2:decide (E<=16384)=false:=qF h2;rw[d0,d1,d2];clear h0 h1 h2;go_enter Tryz.func82,Tryz.ntmps82
 go_wp2
 go_ret;exact⟨rfl,HF.out⟩}}
 {
 have d1:decide (E≥1)=false:=qF h1;rw[d0,d1];clear h0 h1;go_enter Tryz.func82,Tryz.ntmps82
 go_wp2
 go_ret;exact⟨rfl,HF.out⟩}}
 {
 have d0:decide (m≥1)=false:=qF h0;rw[d0];clear h0;go_enter Tryz.func82,Tryz.ntmps82
 go_wp2
 go_ret;exact⟨rfl,HF.out⟩}
theorem aOP(m E V D:Int)(w:World):Calls Tryz.prog 94 #[.agg #[.int .i64 m,.int .i64 E,.int .i64 V,.int .i64 D]] w fun e w' =>e=.returned (.bool (eZ m E V D))/\Fr [] w w' :=by
 have HF:=qA ((Fr.refl [] w).alloc (.cells #[.int .i64 m,.int .i64 E,.int .i64 V,.int .i64 D] 31));unfold eZ;by_cases h0:m≥1
 {
 have d0:decide (m≥1)=true:=qG h0;by_cases h1:E≥1
 {
 have d1:decide (E≥1)=true:=qG h1;by_cases h2:E<=16384
 {
 have d2:decide (E<=16384)=true:=qG h2;by_cases h3:V≥2
 {
 have d3:decide (V≥2)=true:=qG h3;by_cases h4:V<=4096
 {
 have d4:decide (V<=4096)=true:=qG h4;by_cases h5:D≥0
 {
 have d5:decide (D≥0)=true:=qG h5;by_cases h6:D<=16384
 {
 have d6:decide (D<=16384)=true:=qG h6;rw[d0,d1,d2,d3,d4,d5,d6];clear h0 h1 h2 h3 h4 h5 h6;go_enter Tryz.func94,Tryz.ntmps94
 go_wp2
 go_ret;exact⟨rfl,HF.out⟩}
 {
 have d6:decide (D<=16384)=false:=qF h6;rw[d0,d1,d2,d3,d4,d5,d6];clear h0 h1 h2 h3 h4 h5 h6;go_enter Tryz.func94,Tryz.ntmps94
 go_wp2
 go_ret;exact⟨rfl,HF.out⟩}}
 {
 have d5:decide (D≥0)=false:=qF h5;rw[d0,d1,d2,d3,d4,d5];clear h0 h1 h2 h3 h4 h5;go_enter Tryz.func94,Tryz.ntmps94
 go_wp2
 go_ret;exact⟨rfl,HF.out⟩}}
 {
 have d4:decide (V<=4096)=false:=qF h4;rw[d0,d1,d2,d3,d4];clear h0 h1 h2 h3 h4;go_enter Tryz.func94,Tryz.ntmps94
 go_wp2
 go_ret;exact⟨rfl,HF.out⟩}}
 {
 have d3:decide (V≥2)=false:=qF h3;rw[d0,d1,d2,d3];clear h0 h1 h2 h3;go_enter Tryz.func94,Tryz.ntmps94
 go_wp2
 go_ret;exact⟨rfl,HF.out⟩}}
 {
 have d2:decide (E<=16384)=false:=qF h2;rw[d0,d1,d2];clear h0 h1 h2;go_enter Tryz.func94,Tryz.ntmps94
 go_wp2
 go_ret;exact⟨rfl,HF.out⟩}}
 {
 have d1:decide (E≥1)=false:=qF h1;rw[d0,d1];clear h0 h1;go_enter Tryz.func94,Tryz.ntmps94
 go_wp2
 go_ret;exact⟨rfl,HF.out⟩}}
 {
 have d0:decide (m≥1)=false:=qF h0;rw[d0];clear h0;go_enter Tryz.func94,Tryz.ntmps94
 go_wp2
 go_ret;exact⟨rfl,HF.out⟩}
end Go.Proofs.YtjdgpcjbgjnahaaGreatDoor
