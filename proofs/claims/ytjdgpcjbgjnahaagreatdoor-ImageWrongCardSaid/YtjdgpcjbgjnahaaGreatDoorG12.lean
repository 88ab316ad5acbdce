/- store: Copy. -/
import Derived.Test.YtjdgpcjbgjnahaaGreatDoorG4
import Derived.Test.YtjdgpcjbgjnahaaGreatDoorG11
import Derived.Test.YtjdgpcjbgjnahaaGreatDoorG10
import Derived.Test.YtjdgpcjbgjnahaaGreatDoorG3
import Derived.RangeFuncNested
import Derived.RangeFuncCalls
import Derived.Test.YtjdgpcjbgjnahaaGreatDoorG1
import Derived.RangeFuncBox
import Derived.RangeFuncLeaves
import Derived.Shelf.Abstract
import Derived.WalkKit
import Derived.OwnWalkIn
import Derived.TacticsInMore
import Derived.LoopNIn
import Derived.LoopIn
import Derived.Maps.AppendAt
import Derived.Ground.SlmcProg
import Derived.Shelf.SlMaps.Clone
import Derived.StillTailTactics
set_option maxRecDepth 10000
set_option maxHeartbeats 1600000
set_option linter.unusedSimpArgs false
set_option linter.unusedVariables false
/- The plain model of a window: indexes stay while the time goes on. -/
namespace Go.Proofs.YtjdgpcjbgjnahaaGreatDoor
open Go.RowKit
theorem aOC{s:Sm}{i:Nat}{e:Lv}(h:e∈(s.rem i).L):e∈s.L:=(jV.1 h).1
theorem aKC(ds:List Nat):∀{s:Sm} {e:Lv},e∈(s.rems ds).L->e∈s.L:=by
 induction ds with
 | nil=>intro s e h;exact h
 | cons i r ih=>intro s e h;rw[Sm.rems_cons]at h;exact aOC (ih h)
theorem aKD{M:Md}(h:M.Ok){u v i:Nat}(hu:M.find u=some i)(hv:M.find v=some i):u=v:=by
 have h1:=Md.find_mem hu;have h2:=Md.find_mem hv;have h3:=Md.mem_idOf h.idx h1;have h4:=Md.mem_idOf h.idx h2;rw[h3]at h4;exact Option.some.inj h4
def IS(w0:World)(K:List Nat)(wr:World)(pw pc ps px pf:Nat)(P:Wp)(Ks lx Lf:List Nat)(Z:List (Nat×TypeId×List Value)):Prop:=
  (∃cl,dR wr pw pc ps px pf P Ks lx Lf cl)/\Fr K w0 wr/\(∀q∈bY pw pc Ks lx Lf,q∈K∨w0.heap.size<=q)/\∀z∈Z,Blk wr z.1 z.2.1 z.2.2/\z.1∉bY pw pc Ks lx Lf
section
variable {w0 wr w' :World} {K Ks Ks' lx lx' Lf Lf' :List Nat} {pw pc ps px pf:Nat} {P P' :Wp} {Z:List (Nat×TypeId×List Value)}
theorem IS.start{cl:Nat->Nat}(h:dR wr pw pc ps px pf P Ks lx Lf cl):IS wr (bY pw pc Ks lx Lf) wr pw pc ps px pf P Ks lx Lf []:=⟨⟨cl,h⟩,Fr.refl _ _,fun q hq=>.inl hq,by simp⟩
theorem IS.sub(h:IS w0 K wr pw pc ps px pf P Ks lx Lf Z){Y:List (Nat×TypeId×List Value)}(hy:∀y∈Y,y∈Z):IS w0 K wr pw pc ps px pf P Ks lx Lf Y:=⟨h.1,h.2.1,h.2.2.1,fun y hm=>h.2.2.2 y (hy y hm)⟩
theorem IS.step(h:IS w0 K wr pw pc ps px pf P Ks lx Lf Z){X:List Nat}(hB:∃cl,dR w' pw pc ps px pf P' Ks' lx' Lf' cl)(hF:Fr X wr w')(hX:∀q∈X,q∈bY pw pc Ks lx Lf)(hn:∀q∈bY pw pc Ks' lx' Lf', q∈bY pw pc Ks lx Lf∨wr.heap.size<=q):
    IS w0 K w' pw pc ps px pf P' Ks' lx' Lf' Z:=by
 obtain⟨_,hF0,hn0,hZ⟩:=h;have hs:=hF0.size;refine⟨hB,hF0.trans hF (fun b hb=>hn0 b (hX b hb)),fun q hq=>?_,fun z hz=>⟨hF.blk (hZ z hz).1 (fun hm=>(hZ z hz).2 (hX _ hm)),fun hm=>?_⟩⟩
 {
 rcases hn q hq with e|e
 · exact hn0 q e
 · exact .inr (by omega)}
 {
 rcases hn _ hm with e|e
 · exact(hZ z hz).2 e
 · have:=(hZ z hz).1.lt;omega}
theorem IS.fr0(h:IS w0 K wr pw pc ps px pf P Ks lx Lf Z)(hf:Fr [] wr w'):IS w0 K w' pw pc ps px pf P Ks lx Lf Z:=by
 obtain⟨cl,hB⟩:=h.1;exact h.step ⟨cl,hB.fr0 hf⟩ hf (by simp) (fun q hq=>.inl hq)
theorem IS.box(h:IS w0 K wr pw pc ps px pf P Ks lx Lf Z)(l:List Value)(t:TypeId):IS w0 K (wr.alloc (.cells l.toArray t)) pw pc ps px pf P Ks lx Lf ((wr.heap.size,t,l)::Z):=by
 have h1:=h.fr0 ((Fr.refl [] wr).alloc (.cells l.toArray t));refine⟨h1.1,h1.2.1,h1.2.2.1,fun z hz=>?_⟩;rcases qB.1 hz with rfl|hz
 {
 refine⟨Blk.new wr l t,fun hm=>?_⟩;obtain⟨cl,hB⟩:=h.1;have:=hB.lt _ hm;exact absurd this (Nat.lt_irrefl _)}
 · exact h1.2.2.2 z hz
theorem IS.other(h:IS w0 K wr pw pc ps px pf P Ks lx Lf Z){X:List Nat}(hF:Fr X wr w')(hX:∀q∈X,w0.heap.size<=q/\q∉bY pw pc Ks lx Lf/\∀z∈Z,z.1≠q):IS w0 K w' pw pc ps px pf P Ks lx Lf Z:=by
 obtain⟨⟨cl,hB⟩,hF0,hn0,hZ⟩:=h;exact⟨⟨cl,hB.fr hF (fun q hq hm=>(hX q hm).2.1 hq)⟩,hF0.trans hF (fun b hb=>.inr (hX b hb).1),hn0,fun z hz=>⟨hF.blk (hZ z hz).1 (fun hm=>(hX _ hm).2.2 z hz rfl),(hZ z hz).2⟩⟩
theorem IS.cons(h:IS w0 K wr pw pc ps px pf P Ks lx Lf Z){b:Nat}{t:TypeId}{l:List Value}(hb:Blk wr b t l)(hn:b∉bY pw pc Ks lx Lf):IS w0 K wr pw pc ps px pf P Ks lx Lf ((b,t,l)::Z):=
  ⟨h.1,h.2.1,h.2.2.1,fun z hz=>by
 rcases qB.1 hz with rfl|hz
 · exact⟨hb,hn⟩
 · exact h.2.2.2 z hz⟩
theorem aET{q:Nat}(h:q∈Ks):q∈bY pw pc Ks lx Lf:=by simp[bY,h]
theorem aKE{q:Nat}(h:q∈lx):q∈bY pw pc Ks lx Lf:=by simp[bY,h]
theorem aOD{q:Nat}(h:q∈Lf):q∈bY pw pc Ks lx Lf:=by simp[bY,h]
theorem IS.st(h:IS w0 K wr pw pc ps px pf P Ks lx Lf Z){s' :Sm}(hs:bH w' ps s' Ks')(hF:Fr Ks wr w')(hq:∀q∈Ks', q∈Ks∨wr.heap.size<=q):IS w0 K w' pw pc ps px pf { P with s:=s' } Ks' lx Lf Z:=by
 obtain⟨cl,hB⟩:=h.1;refine h.step (hB.setSt hs hF hq) hF (fun q hq=>aET hq) (fun q hm=>?_);simp only[bY,qB,qE]at hm ⊢;rcases hm with e|e|e|e|e
 · simp[e]
 · simp[e]
 · exact(hq q e).imp (fun e=>by simp[e]) id
 · simp[e]
 · simp[e]
theorem IS.sch(h:IS w0 K wr pw pc ps px pf P Ks lx Lf Z){Q' :Nat->Option Int}{nq' :Nat}(hs:cJ w' px P.E Q' nq' lx')(hF:Fr lx wr w')(hq:∀q∈lx', q∈lx∨wr.heap.size<=q):IS w0 K w' pw pc ps px pf { P with Q:=Q', nq:=nq' } Ks lx' Lf Z:=by
 obtain⟨cl,hB⟩:=h.1;refine h.step (hB.setSch hs hF hq) hF (fun q hq=>aKE hq) (fun q hm=>?_);simp only[bY,qB,qE]at hm ⊢;rcases hm with e|e|e|e|e
 · simp[e]
 · simp[e]
 · simp[e]
 · exact(hq q e).imp (fun e=>by simp[e]) id
 · simp[e]
theorem IS.fo(h:IS w0 K wr pw pc ps px pf P Ks lx Lf Z){G' :Nat->Option (Nat×Nat×Int)}(hm:FMv wr w' pf P.E P.V G' Lf):∃Lf', IS w0 K w' pw pc ps px pf { P with G:=G' } Ks lx Lf' Z:=by
 obtain⟨cl,hB⟩:=h.1;obtain⟨Lf', h1,h2,h3⟩:=hm;refine⟨Lf', h.step (hB.setFo h1 h2 h3) h2 (fun q hq=>aOD hq) (fun q hm=>?_)⟩;simp only[bY,qB,qE]at hm ⊢;rcases hm with e|e|e|e|e
 · simp[e]
 · simp[e]
 · simp[e]
 · simp[e]
 · exact(h3 q e).imp (fun e=>by simp[e]) id
theorem IS.n(h:IS w0 K wr pw pc ps px pf P Ks lx Lf Z){a g:Nat}(hF:Fr [pw] wr w')(hb:Blk w' pw 38 [.int .i64 P.m,.int .i64 P.E,.int .i64 P.V,.int .i64 P.D,kG pc,iO ps,aS px,eO pf,.int .u64 a,.int .u64 g]):IS w0 K w' pw pc ps px pf { P with added:=a,gone:=g } Ks lx Lf Z:=by
 obtain⟨cl,hB⟩:=h.1;exact h.step ⟨cl,hB.setN hF hb⟩ hF (fun q hq=>by simp at hq;simp[bY,hq]) (fun q hm=>.inl hm)
theorem IS.blk(h:IS w0 K wr pw pc ps px pf P Ks lx Lf Z){z:Nat×TypeId×List Value}(hz:z∈Z):Blk wr z.1 z.2.1 z.2.2:=(h.2.2.2 z hz).1
end
theorem Sm.idx_lt{s:Sm}(h:s.Ok){u i:Nat}(hf:s.M.find u=some i):i<s.V:=by
 have h1:=(h.md.used _ (Md.find_mem hf)).1;have h2:=h.md.ar.hb;have h3:s.M.ar.slots=s.M.slots:=rfl;have h4:=h.ms;simp only at h1;omega
section
variable {w w' :World} {pw pc ps px pf:Nat} {P:Wp} {Ks lx Lf:List Nat} {cl:Nat->Nat}
theorem pR(h:dR w pw pc ps px pf P Ks lx Lf cl)(hl:Lk P.s P.Q P.G)(hok:P.s.Ok)(hV:P.s.V=P.V)(hE:P.s.E=P.E)(u v:Nat)(hu:u<18446744073709551616)(hv:v<18446744073709551616)(wt t:Int)(ht:0<=t)(htm:t+P.m<=9223372036854775807)(hc:P.s.chk u v=0)(hla:P.s.last+1<=9223372036854775807)(had:P.added+1<=9223372036854775807):
    Calls Tryz.prog 91 #[eQ pw,pI u v wt t] w fun e w' =>e=.returned (.tuple #[])/\∃a b Ks' lx' Lf', (P.s.ins u v wt t (t+P.m)).M.find u=some a/\(P.s.ins u v wt t (t+P.m)).M.find v=some b /\
      IS w (bY pw pc Ks lx Lf) w' pw pc ps px pf { P with s:=P.s.ins u v wt t (t+P.m),Q:=fun j=>if j=P.s.slot then some (t+P.m) else P.Q j,nq:=P.nq+1,G:=fun j=>if j=P.s.slot then some (a,b,t+P.m) else P.G j,added:=P.added+1 } Ks' lx' Lf' []:=by
 have hm1:=h.clk.m1;have hm2:=h.clk.m2;have hI:=(IS.start h).box [.int .u64 u,.int .u64 v,.int .i64 wt,.int .i64 t] 72;obtain⟨w1,hw1⟩:∃w1,w1=w.alloc (.cells #[.int .u64 u,.int .u64 v,.int .i64 wt,.int .i64 t] 72):=⟨_,rfl⟩;obtain⟨x,hx⟩:∃x,x=t+P.m:=⟨_,rfl⟩;obtain⟨xb,hxb⟩:∃xb,xb=w.heap.size:=⟨_,rfl⟩;have hok1:=Sm.ok_ins hok hu hv hc (by omega) wt t x;have hne:u≠v:=(Sm.chk_ok hok hc).1;have hsn:=Sm.slot_next hok hc;have hslt:=sL hok.ar hsn;rw[hok.sl,hE]at hslt;obtain⟨hfq,hfg⟩:=hl.free hok (Md.isUsed_alloc' hok.ar hsn).1;have hmem:P.s.edge u v wt t x∈(P.s.ins u v wt t x).L:=by simp[Sm.ins]
 obtain⟨a,ha⟩:=qU.1 (gV hok1 hmem (x:=u) (by simp[Lv.at,Sm.edge]));obtain⟨b,hb⟩:=qU.1 (gV hok1 hmem (x:=v) (by simp[Lv.at,Sm.edge]));have hal:=Sm.idx_lt hok1 ha;have hbl:=Sm.idx_lt hok1 hb;have hab:a≠b:=fun e=>hne (aKD hok1.md ha (by rw[e];exact hb));have hcode:eE P.E P.V P.G P.s.slot a b=0:=by {
 have e1:inV P.E P.s.slot=true:=by simp[inV];omega
 have hV' :(P.s.ins u v wt t x).V=P.V:=hV;have e2:inV P.V a=true:=by simp[inV];omega
 have e3:inV P.V b=true:=by simp[inV];omega
 unfold eE;rw[qD ⟨e1,e2,e3⟩,qC (by omega),qC (by simp[hfg])]};have haddG:rQ P.E P.V P.G P.s.slot a b x=fun j=>if j=P.s.slot then some (a,b,x) else P.G j:=by {
 unfold rQ;rw[qD hcode];funext j
 simp[bT]};rw[<-hw1,<-hxb]at hI;have hsx:tU t P.m=x:=by unfold tU;rw[qD htm,hx]
 have hcx:lK t P.m=0:=by unfold lK;rw[qD htm]
 rw[<-hx];have HI:=qA hI;obtain⟨cl1,hB1⟩:=hI.1;have HA:=qA (fun(nq:Nat)=>aQT (hB1.clk.fr0 ((Fr.refl [] w1).drewN nq)) t (by omega) (by omega));rw[hsx,hcx]at HA;have c4:=hB1.hd.cell 4;have hbx:Blk w1 xb 72 [.int .u64 u,.int .u64 v,.int .i64 wt,.int .i64 t]:=hI.blk (z:=(xb,72,[.int .u64 u,.int .u64 v,.int .i64 wt,.int .i64 t])) (by simp);have r0:=hbx.cell 0;have r1:=hbx.cell 1;have r2:=hbx.cell 2;have r3:=hbx.cell 3;simp only[zI,zJ]at c4 r0 r1 r2 r3;have HXR:=qA (show -9223372036854775808<=x/\x<=9223372036854775807 by omega);have HP:=qA (zH hok (zH hc (zH hla (zH hslt (zH hfq (zH ha (zH hb (zH hcode (zH haddG had)))))))));clear hI hbx hB1 hl hok hV hE hc hla hok1 hne hsn hslt hfq hfg hmem ha hb hal hbl hab hcode haddG hsx hcx h had;rw[hw1,hxb]at r0 r1 r2 r3;rw[hw1]at c4;go_enter Tryz.func91,Tryz.ntmps91
 go_wp2_with fail
 rw[<-hw1];rw[<-hw1,<-hxb]at r0 r1 r2 r3;rw[<-hw1]at c4;rw[<-hxb];clear hw1 hxb hx;refine bF 6 (fun w' =>∃nq,w' =w1.drewN nq) (by kernel_rfl) (by kernel_rfl) (by kernel_rfl) ?_;iterate 6 (refine bO (by decide) (fun K hK=>?_);go_simp;refine hK _ ?_;clear hK K)
 refine aW rfl (.tuple #[.int .i64 x,.int .i64 0]) (fun w' hw' =>?_) ?_
 {
 obtain⟨nq,rfl⟩:=hw';go_simp;refine(HA.out nq).mono ?_;rintro _ w1 ⟨rfl,rfl⟩;exact⟨rfl,nq,rfl⟩};iterate 5 (refine eA (by decide) (fun K hK=>?_);go_simp;refine hK _ ?_;clear hK K)
 refine bP ?_;rintro _ ⟨nq,rfl⟩;have hI2:=HI.out.fr0 ((Fr.refl [] w1).drewN nq);clear c4 r0 r1 r2 r3 HA HI;generalize w1.drewN nq=wz at *;obtain⟨cl2,hB2⟩:=hI2.1;have hbx:Blk wz xb 72 [.int .u64 u,.int .u64 v,.int .i64 wt,.int .i64 t]:=hI2.blk (z:=(xb,72,[.int .u64 u,.int .u64 v,.int .i64 wt,.int .i64 t])) (by simp);have c5:=hB2.hd.cell 5;have r0:=hbx.cell 0;have r1:=hbx.cell 1;have r2:=hbx.cell 2;have r3:=hbx.cell 3;simp only[zI,zJ]at c5 r0 r1 r2 r3;obtain⟨y,hy⟩:∃y,y=P.s.edge u v wt t x:=⟨_,rfl⟩;have HI:=qA (show ∀w', Fr [] wz w' -> Calls Tryz.prog 135 #[iO ps,pI u v wt t,.int .i64 x] w' fun e w'' =>e=.returned (.tuple #[lvA y,.int .i64 0])/\∃K', bH w'' ps (P.s.ins u v wt t x) K' /\ Fr Ks w' w'' /\ ∀q∈K', q∈Ks∨w'.heap.size<=q from fun w' hf=>by
   rw[hy];exact aCP (hB2.st.fr0 hf) u v hu hv wt t x HP.out.2.1 (by have:=HP.out.2.2.1;omega))
 have HI2:=qA hI2;have hkx:xb∉Ks:=fun hm=>(hI2.2.2.2 (xb,_,_) (List.mem_cons_self ..)).2 (aET hm);have hkp:pw∉Ks:=fun hm=>by have:=hB2.ks _ hm;have:=hB2.kw;omega
 have hkn:wz.heap.size∉Ks:=fun hm=>absurd (hB2.st.lt _ hm) (Nat.lt_irrefl _);have hxl:=hbx.lt;have hpl:=hB2.hd.lt;have hkx2:xb∉wz.heap.size::Ks:=fun hm=>(qB.1 hm).elim (fun e=>by omega) hkx;have hkp2:pw∉wz.heap.size::Ks:=fun hm=>(qB.1 hm).elim (fun e=>by omega) hkp;have HC:=qA (fun(w' :World) (hf:Fr (wz.heap.size::Ks) wz w')=>zH (hf.cell c5 hkp2) (zH (hf.cell r0 hkx2) (zH (hf.cell r1 hkx2) (zH (hf.cell r2 hkx2) (hf.cell r3 hkx2)))));have HST:=qA (show ∀(w' :World) (a0 a1 a2 a3 a4 a5 a6:Value),Fr (wz.heap.size::Ks) wz w' -> Fr (wz.heap.size::Ks) wz (((((((w'.setCell ⟨wz.heap.size,0,none⟩ a0).setCell ⟨wz.heap.size,1,none⟩ a1).setCell ⟨wz.heap.size,2,none⟩ a2).setCell ⟨wz.heap.size,3,none⟩ a3).setCell ⟨wz.heap.size,4,none⟩ a4).setCell ⟨wz.heap.size,5,none⟩ a5).setCell ⟨wz.heap.size,6,none⟩ a6) from fun w' _ _ _ _ _ _ _ hf=>
   (((((((hf).setCell _ _ (.inl (by simp))).setCell _ _ (.inl (by simp))).setCell _ _ (.inl (by simp))).setCell _ _ (.inl (by simp))).setCell _ _ (.inl (by simp))).setCell _ _ (.inl (by simp))).setCell _ _ (.inl (by simp)))
 have HB0:=qA (show ∀(w5:World) (S:List Nat),Fr Ks (wz.alloc (.cells #[.int .i64 0,.int .u64 0,.int .u64 0,.int .u64 0,.int .i64 0,.int .i64 0,.int .i64 0] 74)).drew w5->Blk w5 wz.heap.size 74 [.int .i64 0,.int .u64 0,.int .u64 0,.int .u64 0,.int .i64 0,.int .i64 0,.int .i64 0] from fun w5 _ hf=>
   hf.blk ((Blk.new wz [.int .i64 0,.int .u64 0,.int .u64 0,.int .u64 0,.int .i64 0,.int .i64 0,.int .i64 0] 74).drew) hkn)
 have hpz:pw≠wz.heap.size:=by omega
 have hxz:xb≠wz.heap.size:=by omega
 have HY:=qA hy;clear hy hB2 hbx hI2 c5 r0 r1 r2 r3 hkx2 hkp2 hkx hkp hxl hpl;go_wp2_with fail
 go_region_held3 (fun w' => w'.cell? ⟨pw, 5, none⟩ = some (iO ps) /\ w'.cell? ⟨xb, 0, none⟩ = some (.int .u64 u) /\ w'.cell? ⟨xb, 1, none⟩ = some (.int .u64 v) /\ w'.cell? ⟨xb, 2, none⟩ = some (.int .i64 wt) /\ w'.cell? ⟨xb, 3, none⟩ = some (.int .i64 t))
   (first
     | with_reducible exact HC.out _ (HST.out w5 _ _ _ _ _ _ _ HF7.out)
     | with_reducible exact HC.out _ HF7.out
     | with_reducible exact HC.out _ (Fr.refl (wz.heap.size::Ks) wz).drew
     | with_reducible exact HC.out _ (Fr.trans' (Fr.refl (wz.heap.size::Ks) wz).drew hF6)
     | with_reducible exact HC.out _ ((Fr.trans' (Fr.refl (wz.heap.size::Ks) wz).drew hF6).alloc _)
     | with_reducible exact HC.out _ ((Fr.refl (wz.heap.size::Ks) wz).alloc _).drew
     )
   (first
     | (go_at_call 135;with_reducible refine Calls.mono (HI.out _ ((Fr.refl [] wz).drew)) ?_;rintro r w5 ⟨rfl,Ks5,hS5,hF5,hN5⟩;have hF6:=hF5.mono (S' :=wz.heap.size::Ks) (fun q hq=>.inl (List.mem_cons_of_mem _ hq)))
     | (go_at_call 135; with_reducible refine Calls.mono (HI.out _ ((Fr.refl [] wz).alloc _).drew) ?_; rintro r w5 ⟨rfl, Ks5, hS5, hF5, hN5⟩
        go_loud (have hF6:=hF5.mono (S' :=wz.heap.size::Ks) (fun q hq=>.inl (List.mem_cons_of_mem _ hq)));go_loud (have HF7:=qA (Fr.trans' ((Fr.refl (wz.heap.size::Ks) wz).alloc _).drew hF6));go_loud (have hB5:=HB0.out _ [] hF5);go_loud (have hz5:=hB5.frozen);go_loud (have t0:=hB5.cell 0;have t1:=hB5.cell 1;have t2:=hB5.cell 2;have t3:=hB5.cell 3;have t4:=hB5.cell 4;have t5:=hB5.cell 5;have t6:=hB5.cell 6;simp only[zI,zJ]at t0 t1 t2 t3 t4 t5 t6)))
 focus
   have hX:IS w (bY pw pc Ks lx Lf) (w5.alloc (.cells #[.int .i64 y.slot,.int .u64 y.seq,.int .u64 y.u,.int .u64 y.v,.int .i64 y.wt,.int .i64 y.t,.int .i64 y.x] 74)) pw pc ps px pf { P with s:=P.s.ins u v wt t x } Ks5 lx Lf [(w5.heap.size,74,[.int .i64 y.slot,.int .u64 y.seq,.int .u64 y.u,.int .u64 y.v,.int .i64 y.wt,.int .i64 y.t,.int .i64 y.x]),(xb,72,[.int .u64 u,.int .u64 v,.int .i64 wt,.int .i64 t])]:=
     ((HI2.out.fr0 (Fr.refl [] wz).drew).st hS5 hF5 hN5).box [.int .i64 y.slot,.int .u64 y.seq,.int .u64 y.u,.int .u64 y.v,.int .i64 y.wt,.int .i64 y.t,.int .i64 y.x] 74
   have HX:=qA hX;clear hX hS5 hF5 hN5 hF6 HI HC HST HB0 hpz hxz hkn HI2;generalize (w5.alloc (.cells #[.int .i64 y.slot,.int .u64 y.seq,.int .u64 y.u,.int .u64 y.v,.int .i64 y.wt,.int .i64 y.t,.int .i64 y.x] 74))=W6 at *;generalize w5.heap.size=eb at *;rename_i hHH;clear hHH
 rotate_left
 focus
   have h5:=(((HI2.out.box [.int .i64 0,.int .u64 0,.int .u64 0,.int .u64 0,.int .i64 0,.int .i64 0,.int .i64 0] 74).fr0 (Fr.refl [] _).drew).st hS5 hF5 hN5);have hnz:=(h5.2.2.2 _ (List.mem_cons_self ..)).2;have hws:=HI2.out.2.1.size;have hxn:=(HI2.out.2.2.2 _ (List.mem_cons_self ..)).1.lt;simp only at hnz hxn;have hfc:Fr [wz.heap.size] w5 (((((((w5.setCell ⟨wz.heap.size,0,none⟩ (.int .i64 y.slot)).setCell ⟨wz.heap.size,1,none⟩ (.int .u64 y.seq)).setCell ⟨wz.heap.size,2,none⟩ (.int .u64 y.u)).setCell ⟨wz.heap.size,3,none⟩ (.int .u64 y.v)).setCell ⟨wz.heap.size,4,none⟩ (.int .i64 y.wt)).setCell ⟨wz.heap.size,5,none⟩ (.int .i64 y.t)).setCell ⟨wz.heap.size,6,none⟩ (.int .i64 y.x)):=
     (((((((Fr.refl _ w5).setCell _ _ (.inl (by simp))).setCell _ _ (.inl (by simp))).setCell _ _ (.inl (by simp))).setCell _ _ (.inl (by simp))).setCell _ _ (.inl (by simp))).setCell _ _ (.inl (by simp))).setCell _ _ (.inl (by simp))
   have hb7:=((((((hB5.set 0 (.int .i64 y.slot)).set 1 (.int .u64 y.seq)).set 2 (.int .u64 y.u)).set 3 (.int .u64 y.v)).set 4 (.int .i64 y.wt)).set 5 (.int .i64 y.t)).set 6 (.int .i64 y.x);simp only[qX,qT]at hb7;have hX:IS w (bY pw pc Ks lx Lf) (((((((w5.setCell ⟨wz.heap.size,0,none⟩ (.int .i64 y.slot)).setCell ⟨wz.heap.size,1,none⟩ (.int .u64 y.seq)).setCell ⟨wz.heap.size,2,none⟩ (.int .u64 y.u)).setCell ⟨wz.heap.size,3,none⟩ (.int .u64 y.v)).setCell ⟨wz.heap.size,4,none⟩ (.int .i64 y.wt)).setCell ⟨wz.heap.size,5,none⟩ (.int .i64 y.t)).setCell ⟨wz.heap.size,6,none⟩ (.int .i64 y.x)) pw pc ps px pf { P with s:=P.s.ins u v wt t x } Ks5 lx Lf [(wz.heap.size,74,[.int .i64 y.slot,.int .u64 y.seq,.int .u64 y.u,.int .u64 y.v,.int .i64 y.wt,.int .i64 y.t,.int .i64 y.x]),(xb,72,[.int .u64 u,.int .u64 v,.int .i64 wt,.int .i64 t])]:=
     ((h5.sub (Y:=[(xb,72,[.int .u64 u,.int .u64 v,.int .i64 wt,.int .i64 t])]) (fun z hz=>List.mem_cons_of_mem _ hz)).other hfc (fun q hq=>by
       rw[qH]at hq;subst hq;exact⟨hws,hnz,fun z hz=>by rw[qH]at hz;subst hz;simp only;omega⟩)).cons hb7 hnz
   have HX:=qA hX;clear hX hS5 hF5 hN5 hF6 HI HC HST HB0 hpz hxz hkn HI2 h5 hnz hws hxn hfc hb7 hB5 hz5 t0 t1 t2 t3 t4 t5 t6 HF7;generalize (((((((w5.setCell ⟨wz.heap.size,0,none⟩ (.int .i64 y.slot)).setCell ⟨wz.heap.size,1,none⟩ (.int .u64 y.seq)).setCell ⟨wz.heap.size,2,none⟩ (.int .u64 y.u)).setCell ⟨wz.heap.size,3,none⟩ (.int .u64 y.v)).setCell ⟨wz.heap.size,4,none⟩ (.int .i64 y.wt)).setCell ⟨wz.heap.size,5,none⟩ (.int .i64 y.t)).setCell ⟨wz.heap.size,6,none⟩ (.int .i64 y.x))=W6 at *;generalize wz.heap.size=eb at *;rename_i hHH;clear hHH
 all_goals
  have hys:y.slot=P.s.slot:=by rw[HY.out];rfl
  obtain⟨cl6,hB6⟩:=HX.out.1;have hbx:Blk W6 xb 72 [.int .u64 u,.int .u64 v,.int .i64 wt,.int .i64 t]:=HX.out.blk (z:=(xb,72,[.int .u64 u,.int .u64 v,.int .i64 wt,.int .i64 t])) (by simp);have hcx:∀w', Fr [] W6 w' -> w'.cell? ⟨pw,5,none⟩=some (iO ps)/\w'.cell? ⟨xb,0,none⟩=some (.int .u64 u)/\w'.cell? ⟨xb,1,none⟩=some (.int .u64 v):=fun w' hf=>⟨(hf.blk hB6.hd (by simp)).cell 5,(hf.blk hbx (by simp)).cell 0,(hf.blk hbx (by simp)).cell 1⟩;have HU:=qA (fun(w' :World) (hf:Fr [] W6 w')=>yW (hB6.st.fr0 hf) u hu);have HW:=qA (fun(w' :World) (hf:Fr [] W6 w')=>yW (hB6.st.fr0 hf) v hv);simp only[HP.out.2.2.2.2.2.1,HP.out.2.2.2.2.2.2.1,Option.getD_some,Option.isSome_some]at HU HW;have HCX:=qA hcx;obtain⟨c5,r0,r1⟩:=hcx W6 (Fr.refl _ _);clear hB6 hbx hcx;have HYS:=qA hys;clear hys;go_wp2_with fail
  refine bF 6 (fun w' =>Fr [] W6 w') (by kernel_rfl) (by kernel_rfl) (by kernel_rfl) ?_;iterate 6 (refine bO (by decide) (fun K hK=>?_);go_simp;refine hK _ ?_;clear hK K)
  refine aW rfl (.tuple #[.int .i64 a,.bool true]) (fun w' hw' =>?_) ?_
  {
  obtain⟨nq,rfl⟩:=hw';go_simp;refine(HU.out _ ((Fr.refl [] W6).drewN nq)).mono ?_;rintro _ w1 ⟨rfl,hf⟩;exact⟨rfl,((Fr.refl [] W6).drewN nq).trans' hf⟩};iterate 5 (refine eA (by decide) (fun K hK=>?_);go_simp;refine hK _ ?_;clear hK K)
  refine bP ?_;rintro W7 hF7;clear c5 r0 r1;obtain⟨c5,r0,r1⟩:=HCX.out W7 hF7;have HW7:=qA (fun(nq:Nat)=>HW.out _ (hF7.trans' ((Fr.refl [] W7).drewN nq)));have HX7:=qA (HX.out.fr0 hF7);clear HX HU HW HCX hF7 r0;go_wp2_with fail
  refine bF 6 (fun w' =>Fr [] W7 w') (by kernel_rfl) (by kernel_rfl) (by kernel_rfl) ?_;iterate 6 (refine bO (by decide) (fun K hK=>?_);go_simp;refine hK _ ?_;clear hK K)
  refine aW rfl (.tuple #[.int .i64 b,.bool true]) (fun w' hw' =>?_) ?_
  {
  obtain⟨nq,rfl⟩:=hw';go_simp;refine(HW7.out nq).mono ?_;rintro _ w1 ⟨rfl,hf⟩;exact⟨rfl,((Fr.refl [] W7).drewN nq).trans' hf⟩};iterate 5 (refine eA (by decide) (fun K hK=>?_);go_simp;refine hK _ ?_;clear hK K)
  refine bP ?_;rintro W8 hF8;have hX8:=HX7.out.fr0 hF8;obtain⟨cl8,hB8⟩:=hX8.1;have hbe:Blk W8 eb 74 [.int .i64 y.slot,.int .u64 y.seq,.int .u64 y.u,.int .u64 y.v,.int .i64 y.wt,.int .i64 y.t,.int .i64 y.x]:=hX8.blk (z:=(eb,74,[.int .i64 y.slot,.int .u64 y.seq,.int .u64 y.u,.int .u64 y.v,.int .i64 y.wt,.int .i64 y.t,.int .i64 y.x])) (by simp);have c6:=hB8.hd.cell 6;have e0:=hbe.cell 0;simp only[zI,zJ]at c6 e0;rw[HYS.out]at e0;have HS:=qA (fun(nq:Nat)=>aQX (hB8.sch.fr0 ((Fr.refl [] W8).drewN nq)) (i:=P.s.slot) HP.out.2.2.2.1 HP.out.2.2.2.2.1 x);have HX8:=qA hX8;clear HX7 HW7 hF8 c5 r1 hX8 hB8 hbe;go_wp2_with fail
  refine bF 7 (fun w' =>∃l', cJ w' px P.E (mQ P.Q P.s.slot (some x)) (P.nq+1) l' /\ Fr lx W8 w' /\ ∀b∈l', b∈lx∨W8.heap.size<=b) (by kernel_rfl) (by kernel_rfl) (by kernel_rfl) ?_;iterate 7 (refine bO (by decide) (fun K hK=>?_);go_simp;refine hK _ ?_;clear hK K)
  refine aW rfl (.int .i64 0) (fun w' hw' =>?_) ?_
  {
  obtain⟨nq,rfl⟩:=hw';go_simp;refine(HS.out nq).mono ?_;rintro _ w1 ⟨rfl,l', k1,k2,k3⟩;exact⟨rfl,l', k1,((Fr.refl lx W8).drewN nq).trans' k2,k3⟩};refine bP ?_;rintro W9 ⟨lx9,k1,k2,k3⟩;have hX9:=HX8.out.sch k1 k2 k3;obtain⟨cl9,hB9⟩:=hX9.1;have hbe:Blk W9 eb 74 [.int .i64 y.slot,.int .u64 y.seq,.int .u64 y.u,.int .u64 y.v,.int .i64 y.wt,.int .i64 y.t,.int .i64 y.x]:=hX9.blk (z:=(eb,74,[.int .i64 y.slot,.int .u64 y.seq,.int .u64 y.u,.int .u64 y.v,.int .i64 y.wt,.int .i64 y.t,.int .i64 y.x])) (by simp);clear c6 e0;have c7:=hB9.hd.cell 7;have e0:=hbe.cell 0;simp only[zI,zJ]at c7 e0;rw[HYS.out]at e0;have hxr:-9223372036854775808<=x/\x<=9223372036854775807:=HXR.out;have hA:=fun(nq:Nat)=>aQV (hB9.fo.fr ((Fr.refl [] W9).drewN nq) (by simp)) P.s.slot a b x hxr;simp only[HP.out.2.2.2.2.2.2.2.1,HP.out.2.2.2.2.2.2.2.2.1]at hA;have HA:=qA hA;have HX9:=qA hX9;clear HX8 HS k1 k2 k3 hX9 hB9 hbe hA hxr;go_wp2_with fail
  refine bF 9 (fun w' =>FMv W9 w' pf P.E P.V (fun j=>if j=P.s.slot then some (a,b,x) else P.G j) Lf) (by kernel_rfl) (by kernel_rfl) (by kernel_rfl) ?_;iterate 9 (refine bO (by decide) (fun K hK=>?_);go_simp;refine hK _ ?_;clear hK K)
  refine aW rfl (.int .i64 0) (fun w' hw' =>?_) ?_
  {
  obtain⟨nq,rfl⟩:=hw';go_simp;refine(HA.out nq).mono ?_;rintro _ w1 ⟨rfl,L', k1,k2,k3⟩;exact⟨rfl,L', k1,((Fr.refl Lf W9).drewN nq).trans' k2,k3⟩};refine bP ?_;rintro W10 k1;obtain⟨Lf10,hX10⟩:=HX9.out.fo k1;obtain⟨cl10,hB10⟩:=hX10.1;clear c7 e0;have c8:=hB10.hd.cell 8;have z8:=hB10.hd.frozen 8;simp only[zI,zJ]at c8;have hb11:=hB10.hd.set 8 (.int .u64 ((P.added:Int)+1));simp only[qX,qT]at hb11;have hadd:=HP.out.2.2.2.2.2.2.2.2.2;have hw1:IntKind.u64.wrap ((P.added:Int)+1)=(P.added:Int)+1:=by simp[IntKind.wrap,IntKind.bits,IntKind.signed];omega
  have HX10:=qA (zH hX10 hb11);clear HX9 HA k1 hX10 hB10 hb11;go_wp2_with fail
  go_end0
  have hF:Fr [pw] W10 (W10.setCell ⟨pw,8,none⟩ (.int .u64 ((P.added:Int)+1))):=(Fr.refl _ _).setCell _ _ (.inl (by simp));exact⟨rfl,a,HP.out.2.2.2.2.2.1,b,HP.out.2.2.2.2.2.2.1,Ks5,lx9,Lf10,(HX10.out.1.n hF (a:=P.added+1) (g:=P.gone) (by rw[Int.natCast_add];exact HX10.out.2)).sub (by simp)⟩
end
theorem Fr.putObj{S:List Nat}{w w' :World}(h:Fr S w w')(l:Nat)(o:Obj)(hl:l∈S∨w.heap.size<=l):Fr S w (w'.putObj l o):=
  h.grown (grownBy_putObj' w' l o) (fun k e=>by cases e;exact hl)
structure aAS {α:Type} (base:Nat) (I:List α->List Nat->World->Prop):Prop where
  fr:∀{pre:List α} {K S:List Nat} {A B:World},I pre K A->Fr S A B->(∀b∈K,b∉S)->I pre K B
  lt:∀{pre:List α} {K:List Nat} {A:World},I pre K A->∀b∈K,base<=b/\b<A.heap.size
def xY{α:Type}(I:List α->List Nat->World->Prop)(xs:List α)(K:List Nat)(W W' :World):Prop:=∃K', I xs K' W' /\ Fr K W W' /\ ∀b∈K', b∈K∨W.heap.size<=b
section
variable {F:Fence} {n:Nat} {P:Program}
theorem aGR{α:Type}{g:Operand}{ps:Array Tmp}{assign body:Code}{Q:Exit->Act->World->Prop}{a:Act}{w:World}(hro:F.round=none)(h1:1<=n){gf:Nat}{lb:Array Value}
    (hg:a.eval g=.func (.func gf) #[] lb) (hFg:F.fn gf) (eg:∀args w,(callFunc gf args).run P w=.ok (.enter gf args) w) {encs:α->Array Value} (hps:∀x,(encs x).size=ps.size) {base N:Nat} (hb:base<=w.heap.size)
    {T:List α->List Nat->World->Prop} (hT:∀{xs K A B},T xs K A->Fr K A B->T xs K B) (I:List α->List Nat->World->Prop) (hI:aAS base I) (K0:List Nat) (h0:I [] K0 w)
    (hseq:∀(l:Nat) (J:List α->List Nat->World->Prop) (K:List Nat) (W:World),aAS base J->Fr [] w W->J [] K W->(∀b∈K,b∈K0∨w.heap.size<=b) ->
      (∀pre K x W1,J pre K W1->pre.length<N->YieldAt F (n-1-1) P l (encs x) W1 fun e W' =>e=.returned (.bool true)/\xY J (pre++[x]) K W1 W') ->
      CallsIn F (n-1) P gf (#[.func (.yield l) #[] #[]]++lb) W fun e W' =>(∃v,e=.returned v)/\∃xs K', J xs K' W' /\ T xs K' W')
    (a₁:α->Act)
    (hassign:∀(l:Nat) (x:α) (W:World) (K:Act->World->Prop),K (a₁ x) W ->
      assign.wpIn (F.inRound l) (n-1-1) P (Exit.then K (fun _ _ _=>False)) { tmps:=(ps.zip (encs x)).foldl (fun t (p,v)=>t.setIfInBounds p v) a.tmps,defers:=[] } W)
    (hbody:∀(l:Nat) (pre:List α) (K:List Nat) (x:α) (W:World),I pre K W->pre.length<N->body.wpIn (F.inRound l) (n-1-1) P (fun e _ W' =>e=.normal/\xY I (pre++[x]) K W W') (a₁ x) W)
    (hdone:∀(D:Nat) (xs:List α) (K K' :List Nat) (W:World),w.heap.size<=D->I xs K W->T xs K' W->D∈K' -> D∉K->(∀b∈K,b∈K')->W.heap[D]? =some (.deferred (some []))->Q .normal { a with defers:={ target:=.collected D,args:=#[] }::a.defers } W):
    (Code.rangeFunc g ps assign body).wpIn F n P Q a w:=by
 refine wpIn_rangeFunc ?_;intro fn hfn;rw[hro];obtain⟨D,hD⟩:∃D,D=w.heap.size:=⟨_,rfl⟩;obtain⟨L,hL⟩:∃L,L=D+1:=⟨_,rfl⟩;obtain⟨rc,hrc⟩:∃rc:LoopState->Option Code->Loop,rc=fun st pe=>{ state:=st,pending:=pe,fn,tmps:=a.tmps,params:=ps,assign,body,defers:=w.heap.size }:=⟨_,rfl⟩;obtain⟨W1,hW1⟩:∃W1,W1=(w.alloc (.deferred (some []))).alloc (.loop (rc .ready none)):=⟨_,rfl⟩;have hF1:Fr [] w W1:=by rw[hW1];exact((Fr.refl _ _).alloc _).alloc _
 have hD1:W1.heap[D]? =some (.deferred (some [])):=by rw[hW1,hD];exact(Below.heap_alloc _ _ _ (by simp)).trans (World.alloc_heap_new w _)
 have hL1:W1.heap[L]? =some (.loop (rc .ready none)):=by rw[hW1,hL,hD];have:=World.alloc_heap_new (w.alloc (.deferred (some []))) (.loop (rc .ready none));rwa[World.size_alloc]at this
 let J:List α->List Nat->World->Prop:=fun pre K W=>∃K1,K=L::D::K1/\I pre K1 W/\L∉K1/\D∉K1/\W.heap[L]? =some (.loop (rc .ready none))/\W.heap[D]? =some (.deferred (some []))
 have hJ:aAS base J:=by {
 constructor
 {
 rintro pre K S A B ⟨K1,rfl,h1,h2,h3,h4,h5⟩ hF hS;have l1:=(qL.1 h4).1;have l2:=(qL.1 h5).1;exact⟨K1,rfl,hI.fr h1 hF (fun b hb=>hS b (by simp[hb])),h2,h3,(hF.keep _ l1 (hS _ (by simp))).trans h4,(hF.keep _ l2 (hS _ (by simp))).trans h5⟩}
 {
 rintro pre K A ⟨K1,rfl,h1,h2,h3,h4,h5⟩ b hb';have l1:=(qL.1 h4).1;have l2:=(qL.1 h5).1;simp only[qB]at hb';rcases hb' with rfl|rfl|hb'
 · omega
 · omega
 · exact hI.lt h1 b hb'}};refine⟨L,[{ target:=.collected D,args:=#[] }],W1,{ target:=.fn (.func gf) lb,args:=#[.func (.yield L) #[] #[]] },W1,gf,#[.func (.yield L) #[] #[]]++lb,W1,?_,?_,?_,?_,fun _=>h1,?_⟩
 · rw[hW1,hrc,hL,hD];exact run_enterLoop_outer _ _ _ _ _
 {
 simp only[resolve,hg];simp[go_sem]}
 · intro f' hf'; simp[Target.leads]at hf'; subst hf'; exact hFg
 · simp[invoke,go_sem,eg]
 {
 have h0' :∀b∈K0,b<D:=fun b hb=>by rw[hD];exact(hI.lt h0 b hb).2
 refine(hseq L J (L::D::K0) W1 hJ hF1 ⟨K0,rfl,hI.fr h0 hF1 (by simp),fun hm=>by have:=h0' _ hm;omega,fun hm=>by have:=h0' _ hm;omega,hL1,hD1⟩ (fun b hb' =>by
   simp only[qB]at hb';rcases hb' with rfl|rfl|hb'
   · exact .inr (by omega)
   · exact .inr (by omega)
   · exact .inl hb') ?_).mono ?_
 {
 rintro pre K x W ⟨K1,rfl,hi,n1,n2,hl,hd⟩ hN;have l1:=(qL.1 hl).1;have l2:=(qL.1 hd).1;have hy:=run_yield (P:=P) (args:=encs x) hl (by rw[hrc];exact hps x);rw[hrc]at hy;refine⟨fn,_,assign,body,hy,roundIn_of_wpIn hfn (hassign _ x W _ ⟨_,run_beginRound hl (by rw[hrc]),?_⟩)⟩;have hF2:Fr [L] W (W.putObj L (.loop { rc .ready none with state:=.busy })):=(Fr.refl _ _).putObj _ _ (.inl (by simp));have hl2:(W.putObj L (.loop { rc .ready none with state:=.busy })).heap[L]? =some (.loop { rc .ready none with state:=.busy }):=World.putObj_heap_same l1;have hd2:(W.putObj L (.loop { rc .ready none with state:=.busy })).heap[D]? =some (.deferred (some [])):=(World.putObj_heap_other (by omega)).trans hd;refine wpIn_mono (hbody _ pre K1 x _ (hI.fr hi hF2 (fun b hb hm=>by simp at hm;subst hm;exact n1 hb)) hN) ?_;rintro e a3 W3 ⟨rfl,K3,hi3,hF3,hk3⟩;have s2:=hF2.size;have l2a:=(qL.1 hl2).1;have l2b:=(qL.1 hd2).1;have n1' :L∉K3:=fun hm=>(hk3 _ hm).elim n1 (fun h=>Nat.lt_irrefl _ (Nat.lt_of_lt_of_le l2a h));have n2' :D∉K3:=fun hm=>(hk3 _ hm).elim n2 (fun h=>Nat.lt_irrefl _ (Nat.lt_of_lt_of_le l2b h));have hl3:W3.heap[L]? =some (.loop { rc .ready none with state:=.busy }):=(hF3.keep _ l2a n1).trans hl2;have hd3:W3.heap[D]? =some (.deferred (some [])):=(hF3.keep _ l2b n2).trans hd2;have l3:=(qL.1 hl3).1;have hr:=run_endRound (P:=P) none hl3;have hF4:Fr [L] W3 (W3.putObj L (.loop { { rc .ready none with state:=.busy } with state:=if (none:Option Code).isNone then .ready else .done,pending:=none })):=(Fr.refl _ _).putObj _ _ (.inl (by simp));refine⟨_,_,hr,rfl,L::D::K3,⟨K3,rfl,hI.fr hi3 hF4 (fun b hb hm=>by simp at hm;subst hm;exact n1' hb),n1', n2', ?_,(World.putObj_heap_other (by omega)).trans hd3⟩,?_,fun b hb' =>?_⟩
 · rw[World.putObj_heap_same l3,hrc];rfl
 · refine((hF2.mono (S' :=L::D::K1) (by simp)).trans (hF3.mono (S' :=L::D::K1) (by simp +contextual)) (fun b hb=>.inl hb)).trans' (hF4.mono (by simp))
 {
 simp only[qB]at hb' ⊢;rcases hb' with rfl|rfl|hb'
 · exact .inl (.inl rfl)
 · exact .inl (.inr (.inl rfl))
 {
 rcases hk3 b hb' with h|h
 · exact .inl (.inr (.inr h))
 · exact .inr (zG s2 h)}}}
 {
 rintro e W2 ⟨⟨v,rfl⟩,xs,K,⟨K1,rfl,hi,n1,n2,hl,hd⟩,ht⟩;have l1:=(qL.1 hl).1;have hF2:Fr [L] W2 (W2.putObj L (.loop { rc .ready none with state:=.exhausted })):=(Fr.refl _ _).putObj _ _ (.inl (by simp));have hr:=run_endLoop (P:=P) hl (by rw[hrc];simp);refine⟨none,_,by rw[hrc]at hr ⊢;exact hr,hdone D xs K1 (L::D::K1) _ (by omega) (hI.fr hi hF2 (fun b hb hm=>by simp at hm;subst hm;exact n1 hb)) (hT ht (hF2.mono (by simp))) (by simp) n2 (by simp +contextual) ((World.putObj_heap_other (by omega)).trans hd)⟩}}
end
end Go.Proofs.YtjdgpcjbgjnahaaGreatDoor
namespace Go.Proofs.YtjdgpcjbgjnahaaGreatDoor
open Go.RowKit Go.Shelf
attribute [local go_sem] Oper.semAt_some
theorem fG.snoc{to:Int}{Q0 Q:Nat->Option Int}{pre:List Nat}(h:∀{ds Q'},fG to Q ds Q' -> fG to Q0 (pre++ds) Q'){i:Nat}{x:Int}(hq:Q i=some x)(hx:x<=to)(hm:∀j y,Q j=some y->¬(y<x∨(y=x/\j<i))):
    ∀{ds Q'},fG to (mQ Q i none) ds Q' -> fG to Q0 (pre++[i]++ds) Q' :=by
 intro ds Q' hd;rw[List.append_assoc];exact h (.more Q i x ds Q' hq hx hm hd)
theorem aQY(px:Nat)(now:Int)(w:World):
    CallsIn Fence.wide 9 Tryz.prog 149 #[aS px,.int .i64 now] w fun e w' =>e=.returned (.func (.func 195) #[] #[.pointer (some ⟨w.heap.size,0,none⟩),.pointer (some ⟨w.heap.size+1,0,none⟩)])/\w' =(w.alloc (.cells #[aS px] 34)).alloc (.cells #[.int .i64 now] 2):=by
 refine callsIn_of_wp Tryz.func149 rfl trivial ?_ rfl;simp only[Tryz.ntmps149,List.size_toArray,qY,List.length_nil,Nat.reduceAdd,Nat.reduceSub,Array.replicate_succ,Array.replicate_zero,List.push_toArray,List.append_toArray,List.nil_append,zB];gi_wp2
 go_ret;exact⟨rfl,rfl⟩
theorem cJ.one{w:World}{px slots n n' :Nat}{Q Q' :Nat->Option Int}{l l' :List Nat}(h:cJ w px slots Q n l)(h' :cJ w px slots Q' n' l'):n=n' :=by
 obtain⟨ph,lh,h1,⟨e,pl,v,gp,cp,bs,hm,_⟩,_,_⟩:=h;obtain⟨ph', lh', h1', ⟨e', pl', v', gp', cp', bs', hm', _⟩,_,_⟩:=h';have e1:=h1.eq h1';simp only[List.cons.injEq,aS,Value.pointer.injEq,qI,Addr.mk.injEq,and_true,true_and]at e1;subst e1;have e2:=hm.hd.eq hm'.hd;obtain⟨a,c,rfl⟩:=aT hm.items;obtain⟨a', c', rfl⟩:=aT hm'.items;simp only[List.cons.injEq,qO,true_and]at e2;exact e2.1.2.1
open Classical in
noncomputable def xZ(px slots:Nat)(W:World):Nat:=if h:∃n,∃Q l,cJ W px slots Q n l then Classical.choose h else 0
theorem tV{W:World}{px slots n:Nat}{Q:Nat->Option Int}{l:List Nat}(h:cJ W px slots Q n l):xZ px slots W=n:=by
 have hex:∃n,∃Q l,cJ W px slots Q n l:=⟨n,Q,l,h⟩;unfold xZ;rw[dif_pos hex];obtain⟨Q', l', h'⟩:=Classical.choose_spec hex;exact h'.one h
def aQZ(px slots:Nat)(now:Int)(w0:World)(Q:Nat->Option Int)(lx:List Nat)(ds K:List Nat)(W:World):Prop:=
  ∃Q' n' lx', fG now Q ds Q' /\ cJ W px slots Q' n' lx' /\ (∀b∈lx', b∉K)/\(∀b∈lx', b∈lx∨w0.heap.size<=b)/\Fr lx w0 W/\∀b∈K,w0.heap.size<=b
theorem aOE(nf l Bs Bn px slots n:Nat)(now:Int)(Q:Nat->Option Int)(lx:List Nat)(w0:World)(hnf:2<=nf)(J:List Nat->List Nat->World->Prop)(K:List Nat)(W:World)(hJ:aAS w0.heap.size J)(hF:Fr [] w0 W)(h0:J [] K W)
    (hS:cJ w0 px slots Q n lx) (hcs:W.cell? ⟨Bs,0,none⟩=some (aS px)) (hcn:W.cell? ⟨Bn,0,none⟩=some (.int .i64 now)) (hBs:w0.heap.size<=Bs) (hBn:w0.heap.size<=Bn) (hKs:Bs∉K) (hKn:Bn∉K)
    (hY:∀pre K x W1,J pre K W1->pre.length<n->YieldAt Fence.wide (nf-1) Tryz.prog l #[.int .i64 (x:Nat)] W1 fun e W' =>e=.returned (.bool true)/\xY J (pre++[x]) K W1 W'):
    CallsIn Fence.wide nf Tryz.prog 195 #[.func (.yield l) #[] #[],.pointer (some ⟨Bs,0,none⟩),.pointer (some ⟨Bn,0,none⟩)] W fun e W' =>(∃v,e=.returned v)/\∃xs K', J xs K' W' /\ aQZ px slots now w0 Q lx xs K' W' :=by
  have HJ:=qA hJ;have hS1:=hS.fr0 hF;have hlx:=hS.lt;have hbs:=iE hcs;have hbn:=iE hcn;simp only at hbs hbn;refine callsIn_of_wp Tryz.func195 rfl trivial ?_ rfl;simp only[Tryz.ntmps195,List.size_toArray,qY,List.length_nil,Nat.reduceAdd,Nat.reduceSub,Array.replicate_succ,Array.replicate_zero,List.push_toArray,List.append_toArray,List.nil_append,zB];gi_wp2
  gi_loopw [] (fun wr=>∃pre K1 Q1 n1 lx1,J pre K1 wr/\pre.length+n1=n/\Hid (∀{ds Q'},fG now Q1 ds Q' -> fG now Q (pre++ds) Q')/\cJ wr px slots Q1 n1 lx1/\(∀b∈lx1,b∉K1)/\(∀b∈lx1,b∈lx∨w0.heap.size<=b)/\Fr lx w0 wr/\wr.cell? ⟨Bs,0,none⟩=some (aS px)/\wr.cell? ⟨Bn,0,none⟩=some (.int .i64 now)/\Bs∉K1/\Bn∉K1/\Bs∉lx1/\Bn∉lx1) (fun wr=>xZ px slots wr)
  case atStart=>
    exact⟨[],K,Q,n,lx,h0,by simp,qA (fun h=>h),hS1,fun b hb hm=>by have:=hlx b hb;have:=(hJ.lt h0 b hm).1;omega,fun b hb=>.inl hb,hF.mono (by simp),hcs,hcn,hKs,hKn,fun hm=>by have:=hlx _ hm;omega,fun hm=>by have:=hlx _ hm;omega⟩
  case round=>
    clear hcs hcn hKs hKn hS1 h0 hF hbs hbn;obtain⟨pre,K1,Q1,n1,lx1,hJ1,hlen,HMi,hS1,hk1,hl1,hF1,hcs,hcn,hbk1,hbk2,hbx1,hbx2⟩:=hrel;have hbs:=iE hcs;have hbn:=iE hcn;simp only at hbs hbn;have HS1:=qA hS1;obtain⟨ph,lh,hx1,hh1,hx2,rfl⟩:=hS1;have c1:=hx1.cell 1;simp only[zI,zJ]at c1;have HMn:=qA (aAF hh1);have HH:=qA (zH hx1 (zH hh1 hx2));have HB:=qA (zH hJ1 (zH hk1 (zH hl1 (zH hF1 (zH hbk1 (zH hbk2 (zH hbx1 hbx2)))))));clear hJ1 hk1 hl1 hF1 hbk1 hbk2 hbx1 hbx2 hx1 hh1 hx2;gi_wp2_with fail
    refine⟨trivial,fun _=>by omega,?_⟩;gi_at_call 196
    refine(callsIn_wide.2 HMn.out).mono ?_;rintro r w1 ⟨f1,hr⟩;have c1:=f1.cell c1 (by simp);have hcs:=f1.cell hcs (by simp);have hcn:=f1.cell hcn (by simp);have hs1:=f1.size;have hbs1:Bs<w1.heap.size:=by omega
    have hbn1:Bn<w1.heap.size:=by omega
    have hpx1:=iE c1;simp only at hpx1;have hFa:∀v:Value,∀u:Value,Fr [] wr (w1.alloc (.cells #[v,u] 223)):=fun v u=>f1.alloc _;have HFa:=qA hFa;clear hFa;have hfin:∀(v u:Value),fG now Q1 [] Q1->(∃v,Ending.returned (Value.tuple #[])=Ending.returned v)/\∃xs K', J xs K' (w1.alloc (.cells #[v,u] 223))/\aQZ px slots now w0 Q lx xs K' (w1.alloc (.cells #[v,u] 223)):=fun v u hd=>by
      refine⟨⟨_,rfl⟩,pre,K1,HJ.out.fr HB.out.1 (HFa.out v u) (by simp),Q1,n1,px::lh,?_,HS1.out.fr0 (HFa.out v u),HB.out.2.1,HB.out.2.2.1,HB.out.2.2.2.1.trans' ((HFa.out v u).mono (by simp)),fun b hb=>(HJ.out.lt HB.out.1 b hb).1⟩;have:=HMi.out hd;rwa[List.append_nil]at this
    have HFin:=qA hfin;clear hfin;rcases hr with⟨hn,rfl⟩|⟨hn,i,k,hq,hm,rfl⟩
    · gi_wp2
      refine bodyPost_ret (results_none rfl _ _ _) rfl ?_;refine HFin.out _ _ (.done _ fun j x hx=>?_);obtain⟨ph', lh', _,⟨e,pl,v,gp,cp,bs,_,_,_,hQ,_⟩,_,_⟩:=HS1.out;obtain⟨p,hp,_⟩:=(hQ j x).1 hx;omega
    · have Hq := qA (zH hn (zH hq hm)); clear hn hq hm
      by_cases hk:now<k
      · have d1 : decide (k > now) = true := qG hk
        gi_wp2
        refine bodyPost_ret (results_none rfl _ _ _) rfl ?_;refine HFin.out _ _ (.done _ fun j x hx=>?_);have:=Hq.out.2.2 j x hx;unfold elt at this;simp only at this;omega
      · have d1 : decide (k > now) = false := qF hk
        have Hk:=qA hk;clear hk;gi_wp2_with fail
        refine⟨trivial,fun _=>by omega,?_⟩;gi_at_call 150
        have hFw:=HFa.out (.int .i64 (i:Nat)) (.int .i64 k);have b2:=Blk.new w1 [.int .i64 (i:Nat),.int .i64 k] 223;have hlh:=HH.out.2.1.lt;have HB2:=qA (zH hFw (zH b2 hlh));clear hFw b2 hlh;refine(callsIn_wide.2 (aPF (HH.out.2.1.fr HB2.out.1 (by simp)))).mono ?_;rintro r W3 (⟨hn0,_,_⟩|⟨_,i', k', hq', hm', rfl,l', h3,f3,k3⟩)
        · exact absurd Hq.out.1 (by omega)
        · have hik:i' =i/\k' =k:=by
            have e1:=Hq.out.2.2 i' k' hq';have e2:=hm' i k Hq.out.2.1;unfold elt at e1 e2;simp only at e1 e2;omega
          obtain⟨rfl,rfl⟩:=hik;have hbx:=f3.blk HB2.out.2.1 (fun hm=>by have:=HB2.out.2.2 _ hm;omega);have hc0:=hbx.cell 0;simp only[zI]at hc0;have hfw:Fr lh wr W3:=(HB2.out.1.mono (by simp)).trans' f3;have hnx:∀b∈K1,b∉lh:=fun b hb hm=>HB.out.2.1 b (by simp[hm]) hb;have hJ3:=HJ.out.fr HB.out.1 hfw hnx;have hs3:=hfw.size;have hlt3:=HJ.out.lt HB.out.1;have hcs3:W3.cell? ⟨Bs,0,none⟩=some (aS px):=f3.cell ((((Fr.refl [] w1).alloc _).cell hcs (by simp))) (fun hm=>HB.out.2.2.2.2.2.2.1 (by simp[hm]));have hcn3:W3.cell? ⟨Bn,0,none⟩=some (.int .i64 now):=f3.cell ((((Fr.refl [] w1).alloc _).cell hcn (by simp))) (fun hm=>HB.out.2.2.2.2.2.2.2 (by simp[hm]));have hsch:cJ W3 px slots (mQ Q1 i' none) (n1-1) (px::l'):=⟨ph,l', hfw.blk HH.out.1 HH.out.2.2,h3,fun hm=>by
            rcases k3 _ hm with h|h
            · exact HH.out.2.2 h
            · have:=(HB2.out.1.blk HH.out.1 (by simp)).lt;omega,rfl⟩
          have HR:=qA (zH hsch (zH hfw (zH k3 (zH hcs3 hcn3))));obtain⟨fn,tmps,assign,body,hy,hRd⟩:=hY pre K1 i' W3 hJ3 (by have:=Hq.out.1;omega);have HRd:=qA hRd;clear hsch hfw k3 hcs3 hcn3 f3 h3 hq' hm' hbx hJ3 hRd hnx hcs hcn c1 hY hlt3;gi_wp2
          refine⟨fun _=>by omega,?_⟩;refine HRd.out.mono ?_;rintro e W4 ⟨rfl,K4,hJ4,hF4,hk4⟩;have HJ4:=qA (zH hJ4 (zH hF4 hk4));clear hJ4 hF4 hk4;gi_wp2
          go_roundw
          case rel=>
            have hK1:=HJ.out.lt HB.out.1;have hs0:=HB.out.2.2.2.1.size;have hl3:=HR.out.1.lt;have hnk:∀b∈px::l', b∉K1:=fun b hb hm=>by
              rcases qB.1 hb with rfl|hb'
              · exact HB.out.2.1 _ (by simp) hm
              · rcases HR.out.2.2.1 b hb' with h | h
                · exact HB.out.2.1 b (by simp[h]) hm
                · have:=(hK1 b hm).2;have:=HB2.out.1.size;omega
            have hsub:∀b∈px::l', b∈lx∨w0.heap.size<=b:=fun b hb=>by
              rcases qB.1 hb with rfl|hb'
              · exact HB.out.2.2.1 _ (by simp)
              · rcases HR.out.2.2.1 b hb' with h | h
                · exact HB.out.2.2.1 b (by simp[h])
                · have:=HB2.out.1.size;exact .inr (by omega)
            have hnk4:∀b∈px::l', b∉K4:=fun b hb hm=>by
              rcases HJ4.out.2.2 b hm with h|h
              · exact hnk b hb h
              · have:=hl3 b hb;omega
            have hnm:∀x,x<wr.heap.size->x∉K1->x∉K4:=fun x hx hn hm=>by
              rcases HJ4.out.2.2 x hm with h|h
              · exact hn h
              · omega
            have hnl:∀x,x<wr.heap.size->x∉px::lh->x∉px::l' :=fun x hx hn hm=>by
              rcases qB.1 hm with rfl|hb'
              · exact hn (by simp)
              · rcases HR.out.2.2.1 x hb' with h | h
                · exact hn (by simp[h])
                · have:=HB2.out.1.size;omega
            exact⟨pre++[i'],K4,mQ Q1 i' none,n1-1,px::l', HJ4.out.1,by have:=Hq.out.1;simp;omega,qA (fG.snoc HMi.out Hq.out.2.1 (by have:=Hk.out;omega) (fun j y hy=>by
                have:=Hq.out.2.2 j y hy;unfold elt at this;simpa using this)),HR.out.1.fr HJ4.out.2.1 hnk,hnk4,hsub,
              (HB.out.2.2.2.1.trans (HR.out.2.1) (fun b hb=>HB.out.2.2.1 b (by simp[hb]))).trans HJ4.out.2.1 (fun b hb=>.inr (hK1 b hb).1),
              HJ4.out.2.1.cell HR.out.2.2.2.1 HB.out.2.2.2.2.1,HJ4.out.2.1.cell HR.out.2.2.2.2 HB.out.2.2.2.2.2.1,hnm Bs hbs HB.out.2.2.2.2.1,hnm Bn hbn HB.out.2.2.2.2.2.1,hnl Bs hbs HB.out.2.2.2.2.2.2.1,hnl Bn hbn HB.out.2.2.2.2.2.2.2⟩
          case measure=>
            have hK1:=HJ.out.lt HB.out.1;have hnk:∀b∈px::l', b∉K1:=fun b hb hm=>by
              rcases qB.1 hb with rfl|hb'
              · exact HB.out.2.1 _ (by simp) hm
              · rcases HR.out.2.2.1 b hb' with h | h
                · exact HB.out.2.1 b (by simp[h]) hm
                · have:=(hK1 b hm).2;have:=HB2.out.1.size;omega
            rw[tV (HR.out.1.fr HJ4.out.2.1 hnk),tV HS1.out];have:=Hq.out.1;omega
theorem uW{F:Fence}{nf:Nat}{P:Program}{w:World}{ops:Array Oper}{rest:List Oper}{o:Oper}{a:Act}{Q:Exit->Act->World->Prop}(hgd:o.guard=none)(s x:Operand)(t:TypeId)
    (ho:o.op=.call { callee:=.builtin .append,args:=#[s,x],argTypes:=#[t,t] })
    (e:TypeId) (z:Value) (bytes:Nat) (ht:P.underlying t=some (.slice e)) (hinfo:(P.info? e).map (fun i=>(i.zero,i.size,i.bytes))=some (some z,1,bytes)) (hzs:z.cells.size=1)
    (v:Value) (n:Nat) (xs:List Value) (hs:a.eval s=v) (hown:w.ownsRow 0 e 1 v n xs)
    (b:Nat) (u:Value) (hx:a.eval x=.slice (some ⟨b,0,none⟩) 1 1) (hu:w.cell? ⟨b,0,none⟩=some u) (hu1:u.oneCell' =true)
    (hn:n+1<=4294967296) (hby:bytes<=1024)
    (h:∀g cap w', w'.ownsRow 0 e 1 (.slice (some ⟨g,0,none⟩) (n+1) cap) (n+1) (xs++[u])->w.grownBy w' v.ownBlock->(v.ownBlock=some g∨w.heap.size<=g) ->
      wpListIn F nf P ops Q rest (a.put o.dst (.slice (some ⟨g,0,none⟩) (n+1) cap)) w'):wpListIn F nf P ops Q (o::rest) a w:=by
 obtain⟨i0,hi,hz0,hz1,hz2⟩:=info_parts hinfo;have hb2:(n+1)*bytes<=140737488355328:=by {
 have:(n+1)*bytes<=4294967296*1024:=Nat.mul_le_mul hn hby;omega};have hne:∀j y,[u][j]? =some y->w.cell? ((⟨b,0,none⟩:Addr).add j)=some y:=by {
 intro j y hj;cases j with
 | zero=>simp at hj;subst hj;exact hu
 | succ j=>simp at hj};obtain⟨g,cap,w', hr,h2,h3,h4⟩:=wJ (P:=P) w t o.type e i0 z 1 bytes ht hi hz0 hz1 hz2 hzs (by decide) v n xs hown ⟨b,0,none⟩ 1 1 [u] rfl hne (by simp[hu1]) (by decide) (by unfold maxLen;omega) hb2;refine wpListIn_plain hgd fun K hK' =>?_;unfold Oper.wpIn;refine⟨?_,?_⟩
 · simp[Oper.about,ho,resolve,Target.leads,Sem.run_pure]
 {
 rw[Oper.semAt_plain F _ _ (by rw[ho];intro c hc'; cases hc')];simp[execOp,ho,resolve,invoke,builtin,hs,hx,hr,Result.andThen];exact hK' _ _ (h g cap w' h2 h3 h4)}
def aRA(B:Nat)(pre K:List Nat)(W:World):Prop:=∃v,K=B::v.ownBlock.toList/\Blk W B 158 [v]/\dK W v pre/\∀q,v.ownBlock=some q->B<q
theorem aCT(B:Nat):aAS B (aRA B):=by
 constructor
 {
 rintro pre K S A C ⟨v,rfl,h1,h2,h3⟩ hF hS;exact⟨v,rfl,hF.blk h1 (hS _ (by simp)),h2.fr hF (fun q hq=>hS _ (by simp[hq])),h3⟩}
 {
 rintro pre K A ⟨v,rfl,h1,h2,h3⟩ b hb;simp only[qB,Option.mem_toList]at hb;rcases hb with rfl|hb
 · exact⟨qJ _,h1.lt⟩
 · exact⟨Nat.le_of_lt (h3 b hb),h2.lt hb⟩}
theorem aGS{B:Nat}{pre K:List Nat}{W w1:World}{x g cap:Nat}{v:Value}(hK:K=B::v.ownBlock.toList)(h1:Blk W B 158 [v])(_h2:dK W v pre)(h3:∀q,v.ownBlock=some q->B<q)
    (hown:w1.ownsRow 0 3 1 (.slice (some ⟨g,0,none⟩) (pre.length+1) cap) (pre.length+1) (fM pre++[.int .i64 x])) (hgrow:(W.alloc (.cells #[.int .i64 x] 3)).grownBy w1 v.ownBlock) (hg:v.ownBlock=some g∨(W.alloc (.cells #[.int .i64 x] 3)).heap.size<=g):
    Blk w1 B 158 [v]/\xY (aRA B) (pre++[x]) K W (w1.setCell ⟨B,0,none⟩ (.slice (some ⟨g,0,none⟩) (pre.length+1) cap)):=by
 have hlt:=h1.lt;simp only[World.size_alloc]at hg;have hF:Fr v.ownBlock.toList W w1:=((Fr.refl _ _).alloc _).grown hgrow (fun q e=>.inl (by simp[e]));have hb1:Blk w1 B 158 [v]:=hF.blk h1 (fun hm=>by have:=h3 B (by simpa using hm);omega);have hgB:B<g:=by {
 rcases hg with e|e
 · exact h3 g e
 · omega};have e1:(Value.slice (some ⟨g,0,none⟩) (pre.length+1) cap).ownBlock=some g:=rfl;subst hK;refine⟨hb1,B::[g],⟨_,by rw[e1];rfl,hb1.set 0 _,?_,fun q hq=>by rw[e1]at hq;cases hq;exact hgB⟩,(hF.mono (by simp +contextual)).setCell _ _ (.inl (by simp)),fun b hb=>?_⟩
 {
 have:dK w1 (.slice (some ⟨g,0,none⟩) (pre.length+1) cap) (pre++[x]):=by {
 unfold dK fM;unfold fM at hown;simpa using hown};exact bN this _ _ (by rw[e1];simp;omega)}
 {
 simp only[qB,List.not_mem_nil,or_false]at hb;rcases hb with rfl|rfl
 · exact .inl (by simp)
 {
 rcases hg with e|e
 · exact .inl (by simp[e])
 · exact .inr (by omega)}}
theorem aPH{w:World}{px slots n:Nat}{Q:Nat->Option Int}{lx:List Nat}(h:cJ w px slots Q n lx)(now:Int):
    Calls Tryz.prog 107 #[aS px,.int .i64 now] w fun e w' =>∃v ds Q' n' lx', e=.returned v/\fG now Q ds Q' /\ cJ w' px slots Q' n' lx' /\ dK w' v ds/\Fr lx w w' /\ (∀b∈lx', b∈lx∨w.heap.size<=b)/\(∀q,v.ownBlock=some q->w.heap.size<=q/\q∉lx'):=by
 refine(callsIn_wide (n:=9)).1 ?_;refine callsIn_of_wp_marks Tryz.func107 rfl trivial ?_ rfl;simp only[Tryz.ntmps107,List.size_toArray,qY,List.length_nil,Nat.reduceAdd,Nat.reduceSub,Array.replicate_succ,Array.replicate_zero,List.push_toArray,List.append_toArray,List.nil_append,zB];have HS:=qA h;clear h;gi_wp2_with fail
 refine⟨trivial,?_⟩;gi_at_call 120
 refine(callsIn_wide.2 (oQ HS.out)).mono ?_;rintro _ w ⟨rfl,rfl⟩;gi_wp2_with fail
 refine⟨trivial,?_⟩;gi_at_call 149
 refine(callsIn_wide.2 (callsIn_wide.1 (aQY px now _))).mono ?_;rintro _ _ ⟨rfl,rfl⟩;have hs1:(w.alloc (Obj.cells #[Value.slice none 0 0] 158)).heap.size=w.heap.size+1:=by simp
 gi_wp2_with fail
 have b0:=Blk.new w [.slice none 0 0] 158;have b1:=Blk.new (w.alloc (.cells #[.slice none 0 0] 158)) [aS px] 34;have b2:=Blk.new ((w.alloc (.cells #[.slice none 0 0] 158)).alloc (.cells #[aS px] 34)) [.int .i64 now] 2;simp only[World.size_alloc]at b1 b2;have hF0:Fr [] w (((w.alloc (.cells #[.slice none 0 0] 158)).alloc (.cells #[aS px] 34)).alloc (.cells #[.int .i64 now] 2)):=(((Fr.refl _ _).alloc _).alloc _).alloc _;have hb0:=(b0.alloc (.cells #[aS px] 34)).alloc (.cells #[.int .i64 now] 2);have hb1:=b1.alloc (.cells #[.int .i64 now] 2);have hsz:(((w.alloc (.cells #[.slice none 0 0] 158)).alloc (.cells #[aS px] 34)).alloc (.cells #[.int .i64 now] 2)).heap.size=w.heap.size+3:=by simp
 clear b0 b1;generalize (((w.alloc (.cells #[.slice none 0 0] 158)).alloc (.cells #[aS px] 34)).alloc (.cells #[.int .i64 now] 2))=W0 at *;have hle:n<=65536:=by {
 obtain⟨ph,lh,_,hh,_,_⟩:=HS.out;have:=hh.le;omega}
 refine aGR (α := Nat) rfl (by decide) (gf := 195) (lb := #[.pointer (some ⟨w.heap.size + 1, 0, none⟩), .pointer (some ⟨w.heap.size + 1 + 1, 0, none⟩)]) rfl trivial (enters_of Tryz.func195 (by kernel_rfl) rfl)
   (encs:=fun x=>#[.int .i64 (x:Nat)]) (fun _=>rfl) (base:=w.heap.size) (N:=n) (by omega) (T:=aQZ px slots now w Q lx) ?hT (aRA w.heap.size) (aCT w.heap.size) [w.heap.size] ⟨_,rfl,hb0,dK.nil _,fun q hq=>by cases hq⟩
   (fun l J K W hJ hF h0 hK hY => aOE 8 l (w.heap.size + 1) (w.heap.size + 1 + 1) px slots n now Q lx w (by decide) J K W hJ (hF0.trans' hF) h0 HS.out (hF.cell (hb1.cell 0) (by simp)) (hF.cell (b2.cell 0) (by simp)) (by omega) (by omega)
     (fun hm=>by have:=hK _ hm;simp at this;omega) (fun hm=>by have:=hK _ hm;simp at this;omega) hY)
   (fun x=>{ tmps:=#[aS px,.int .i64 now,undef,undef,.slice none 0 0,.pointer (some ⟨w.heap.size,0,none⟩),.int .i64 (x:Nat),aS px,.bool true,.bool false,aS px,.int .i64 now,.func (.func 195) #[] #[.pointer (some ⟨w.heap.size+1,0,none⟩),.pointer (some ⟨w.heap.size+1+1,0,none⟩)],.int .i64 (x:Nat),undef,undef,undef,undef,undef],defers:=[] }) ?assign ?body ?done
 case hT=>
  rintro xs K A B ⟨Q', n', lx', h1,h2,h3,h4,h5,h6⟩ hF;exact⟨Q', n', lx', h1,h2.fr hF h3,h3,h4,h5.trans hF (fun b hb=>.inr (h6 b hb)),h6⟩
 case assign=>
  intro l x W K hK;gi_wp2
  exact hK
 case body=>
  rintro l pre K x W ⟨v,rfl,hv,hrow,hq⟩ hlt;have hc:=hv.cell 0;simp only[zI]at hc;obtain⟨a0,c0,rfl⟩:=aT hrow;gi_wp2_with (gi_at_builtin;go_loud (refine uW rfl _ _ _ rfl 3 (.int .i64 0) 8 Tryz.underlying158 Tryz.info3 rfl (.slice a0 pre.length c0) pre.length (fM pre) rfl (hrow.alloc _) W.heap.size (.int .i64 x) rfl (aC _ _ _ _ rfl) rfl (by omega) (by decide) ?_;intro g cap w1 hown hgrow hg;obtain⟨hb1,hgo⟩:=aGS rfl hv hrow hq hown hgrow hg;have hc1:=hb1.cell 0;have hf1:=hb1.frozen 0;simp only[zI]at hc1))
 case done=>
  rintro D xs K K' W hD ⟨v,rfl,hv,hrow,hq⟩ ⟨Q', n', lx', h1,h2,h3,h4,h5,h6⟩ hDK hDK' hKK hd;have hc:=hv.cell 0;simp only[zI]at hc;obtain⟨a0,c0,rfl⟩:=aT hrow;gi_wp2
  refine⟨by simp,.inl ⟨_,_,rfl,run_takeDeferred hd,?_⟩⟩;have hF:Fr [D] W (W.putObj D (.deferred none)):=(Fr.refl _ _).putObj _ _ (.inl (by simp));refine⟨.slice a0 xs.length c0,?_,.slice a0 xs.length c0,xs,Q', n', lx', rfl,h1,h2.fr hF (fun b hb hm=>h3 b hb (by rw[show b=D by simpa using hm];exact hDK)),hrow.fr hF (fun q hq hm=>hDK' (by rw[<-show q=D by simpa using hm];simp[hq])),h5.trans hF (fun b hb=>.inr (by rw[show b=D by simpa using hb];omega)),h4,fun q e=>⟨Nat.le_of_lt (hq q e),fun hm=>h3 q hm (hKK q (by simp[e]))⟩⟩;simp[results,Tryz.results107,go_sem]
end Go.Proofs.YtjdgpcjbgjnahaaGreatDoor
namespace Go.Proofs.YtjdgpcjbgjnahaaGreatDoor
open Go.RowKit
section
variable {w w' :World} {pw pc ps px pf:Nat} {P:Wp} {Ks lx Lf K:List Nat} {cl:Nat->Nat}
theorem aKF(h:dR w pw pc ps px pf P Ks lx Lf cl)(to:Int)(h1:-9223372036854775808<=to)(h2:to<=9223372036854775807)(hc:dI P.m P.now to≠0):
    Calls Tryz.prog 67 #[eQ pw,.int .i64 to] w fun e w' =>e=.returned (.int .i64 (dI P.m P.now to))/\w' =w:=by
 have HV:=qA (eS h);have HA:=qA (aES h.clk to h1 h2 hc);have c4:=h.hd.cell 4;simp only[zI,zJ]at c4;clear h;generalize dI P.m P.now to=cc at *;have d1:(cc != 0)=true:=by simp[hc]
 clear hc;go_enter Tryz.func67,Tryz.ntmps67
 go_wp2_with fail
 refine HV.out.mono ?_;rintro _ w ⟨rfl,rfl⟩;go_wp2_with fail
 refine HA.out.mono ?_;rintro _ w ⟨rfl,rfl⟩;go_wp2
 go_ret;exact⟨rfl,rfl⟩
def TI(w:World)(K:List Nat)(pw pc ps px pf:Nat)(P:Wp)(lx' :List Nat)(v:Value)(ds:List Nat)(to:Int)(SE:Sm)(GE:Nat->Option (Nat×Nat×Int))(gE:Nat)(k:Nat)(wr:World):Prop:=
  ∃s1 Q1 Q' G1 g1 Ks1 Lf1 cl1,dR wr pw pc ps px pf { P with s:=s1,G:=G1,gone:=g1 } Ks1 lx' Lf1 cl1/\dK wr v ds/\(∀q,v.ownBlock=some q->q∉bY pw pc Ks1 lx' Lf1)/\Fr K w wr/\(∀q∈bY pw pc Ks1 lx' Lf1,q∈K∨w.heap.size<=q) /\
    Lk s1 Q1 G1/\s1.Ok/\fG to Q1 (ds.drop k) Q' /\ s1.rems (ds.drop k)=SE/\(fun j=>if j∈ds.drop k then none else G1 j)=GE/\g1+(ds.drop k).length=gE
theorem aEU{α:Type}{l:List α}{k:Nat}(h:k<l.length):l.drop k=l[k]::l.drop (k+1):=List.drop_eq_getElem_cons h
theorem vZ(h:dR w pw pc ps px pf P Ks lx Lf cl)(hl:Lk P.s P.Q P.G)(hok:P.s.Ok)(to:Int)(h1:-9223372036854775808<=to)(h2:to<=9223372036854775807)(hc:dI P.m P.now to=0)(hg:P.gone+P.s.L.length<=9223372036854775807):
    Calls Tryz.prog 67 #[eQ pw,.int .i64 to] w fun e w' =>e=.returned (.int .i64 0)/\∃ds Q' n' Ks' lx' Lf' cl', fG to P.Q ds Q' /\
      dR w' pw pc ps px pf { P with now:=to,s:=P.s.rems ds,Q:=Q', nq:=n', G:=fun j=>if j∈ds then none else P.G j,gone:=P.gone+ds.length } Ks' lx' Lf' cl' /\ Fr (bY pw pc Ks lx Lf) w w' /\ ∀q∈bY pw pc Ks' lx' Lf', q∈bY pw pc Ks lx Lf∨w.heap.size<=q:=by
 have HV:=qA (eS h);have HA:=qA (aAP h.clk to h1 h2 hc);have HB:=qA h;have c4:=h.hd.cell 4;simp only[zI,zJ]at c4;have HL:=qA (zH hl (zH hok hg));clear h hc hl hok hg h1 h2;go_enter Tryz.func67,Tryz.ntmps67
 go_wp2_with fail
 refine HV.out.mono ?_;rintro _ w ⟨rfl,rfl⟩;go_wp2_with fail
 refine HA.out.mono ?_;rintro _ w1 ⟨rfl,k1,k2⟩;have hB1:=HB.out.setClk k1 k2;have HD:=qA (aPH hB1.sch to);have c6:=hB1.hd.cell 6;simp only[zI,zJ]at c6;have H1:=qA (zH hB1 k2);clear k1 k2 hB1 HV HA c4;go_wp2_with fail
 refine HD.out.mono ?_;rintro _ w2 ⟨v,ds,Q', n', lx', rfl,hm,hs2,hr2,hF2,hn2,hv2⟩;obtain⟨cl2,hB2⟩:=H1.out.1.setSch hs2 hF2 hn2;obtain⟨av,cv,rfl⟩:=hr2.slice;have hsz:=H1.out.2.size;obtain⟨k1,k2,k3,k4⟩:=hm.law HL.out.1 HL.out.2.1;have hT:TI w (bY pw pc Ks lx Lf) pw pc ps px pf { P with now:=to,Q:=Q', nq:=n' } lx' (.slice av ds.length cv) ds to (P.s.rems ds) (fun j=>if j∈ds then none else P.G j) (P.gone+ds.length) 0 w2:=by {
 refine⟨P.s,P.Q,Q', P.G,P.gone,Ks,Lf,cl2,hB2,hr2,fun q hq=>?_,(H1.out.2.mono (by simp[bY])).trans hF2 (fun b hb=>.inl (by simp[bY,hb])),fun q hq=>?_,HL.out.1,HL.out.2.1,by simpa using hm,by simp,by simp,by simp⟩
 {
 obtain⟨e1,e2⟩:=hv2 q hq;intro hmem;simp only[bY,qB,qE]at hmem;have hlt:=H1.out.1.lt;rcases hmem with hmem|hmem|hmem|hmem|hmem
 · have:=hlt q (by simp[bY,hmem]);omega
 · have:=hlt q (by simp[bY,hmem]);omega
 · have:=hlt q (by simp[bY,hmem]);omega
 · exact e2 hmem
 · have:=hlt q (by simp[bY,hmem]);omega}
 {
 simp only[bY,qB,qE]at hq ⊢;rcases hq with e|e|e|e|e
 · simp[e]
 · simp[e]
 · simp[e]
 {
 rcases hn2 q e with e|e
 · simp[e]
 · exact .inr (by omega)}
 · simp[e]}};have HT:=qA hT;have hdl:P.gone+ds.length<=9223372036854775807:=by have:=HL.out.2.2;omega
 have hdn:(ds.length:Int)<=9223372036854775807:=by omega
 have Hm:=qA hm;have HN:=qA (show n' =n' from rfl);clear hT hm hs2 hr2 hF2 hn2 hv2 hB2 k1 k2 k3 k4 hsz HD c6 H1 HL;generalize hSE:P.s.rems ds=SE at *;generalize hGE:(fun j=>if j∈ds then none else P.G j)=GE at *;generalize hgE:P.gone+ds.length=gE at *;have HEQ:=qA (zH hSE (zH hGE hgE));clear hSE hGE hgE;go_wp2_with fail
 go_loopw [27] (fun x wr=>∃k:Nat,k<=ds.length/\x=.int .i64 k/\Hid (TI w (bY pw pc Ks lx Lf) pw pc ps px pf { P with now:=to,Q:=Q', nq:=n' } lx' (.slice av ds.length cv) ds to SE GE gE k wr)) (fun x _=>ds.length-(intOf x).toNat)
 case atStart=>exact⟨0,qR _,rfl,HT⟩
 case round=>
  obtain⟨k,hk,rfl,HI⟩:=hrel;clear HT;by_cases hkl:k<ds.length
  {
  have hki:(k:Int)<ds.length:=by omega
  obtain⟨s1,Q1,Q2,G1,g1,Ks1,Lf1,cl1,hB,hrow,hvq,hF,hnw,hlk,hsok,hmin,hSE,hGE,hgE⟩:=HI.out;obtain⟨i,hi⟩:∃i,i=ds[k]:=⟨_,rfl⟩;rw[aEU hkl,<-hi]at hmin hSE hGE hgE;obtain⟨bv,cv', ev,_,hat⟩:=hrow.at hkl;rw[<-hi]at hat;simp only[qO,true_and]at ev;obtain⟨rfl,rfl⟩:=ev;have c7:=hB.hd.cell 7;simp only[zI,zJ]at c7;cases hmin with
  | more _ _ x _ _ hq hx hmn hrest=>
  obtain⟨e1,e2⟩:=aNB hlk hsok hq hmn;have hE:=aQW hB.fo;simp only at hE;have HX:=qA (zH hB (zH hrow (zH hvq (zH hF (zH hnw (zH hlk (zH hsok (zH hrest (zH hSE (zH hGE (zH hgE (zH e2 hq))))))))))));have HE:=qA hE;clear hB hrow hvq hF hnw hlk hsok hrest hSE hGE hgE e2 hq hE hmn e1 hi;generalize (oM G1).getD 0=i0 at *;generalize (oM G1).isSome=b0 at *;go_wp2_with fail
  refine HE.out.mono ?_;rintro _ w3 ⟨rfl,Lf2,hf3,hF3,hn3⟩;obtain⟨cl3,hB3⟩:=HX.out.1.setFo hf3 hF3 hn3;have HR:=qA (tT hB3.st i (oD HX.out.2.2.2.2.2.1 HX.out.2.2.2.2.2.2.1 HX.out.2.2.2.2.2.2.2.2.2.2.2.2));have c5:=hB3.hd.cell 5;simp only[zI,zJ]at c5;have H3:=qA (zH hB3 (zH hF3 hn3));clear hB3 hF3 hn3 hf3 HE c7;go_wp2_with fail
  refine HR.out.mono ?_;rintro _ w4 ⟨rfl,Ks2,hs4,hF4,hn4⟩;obtain⟨cl4,hB4⟩:=H3.out.1.setSt hs4 hF4 hn4;have c9:=hB4.hd.cell 9;have z9:=hB4.hd.frozen 9;simp only[zI,zJ]at c9;have H4:=qA (zH hB4 (zH hF4 hn4));have hg1:g1+1<=9223372036854775807:=by have:=HX.out.2.2.2.2.2.2.2.2.2.2.1;simp at this;omega
  have hw1:IntKind.u64.wrap ((g1:Int)+1)=(g1:Int)+1:=by simp[IntKind.wrap,IntKind.bits,IntKind.signed];omega
  clear hB4 hF4 hn4 hs4 HR c5;go_wp2_with fail
  go_roundw
  case rel=>
   refine⟨k+1,by omega,by go_num,qA ?_⟩;have hb5:=H4.out.1.hd.set 9 (.int .u64 ((g1:Int)+1));simp only[qX,qT]at hb5;have hF5:Fr [pw] w4 (w4.setCell ⟨pw,9,none⟩ (.int .u64 ((g1:Int)+1))):=(Fr.refl _ _).setCell _ _ (.inl (by simp));have hB5:=H4.out.1.setN hF5 (a:=P.added) (g:=g1+1) (by rw[Int.natCast_add];exact hb5);obtain⟨hB,hrow,hvq,hF,hnw,hlk,hsok,hrest,hSE,hGE,hgE,e2,hq⟩:=HX.out;obtain⟨hB3,hF3,hn3⟩:=H3.out;obtain⟨hB4,hF4,hn4⟩:=H4.out;have hs3:=hF3.size;have hs4:=hF4.size;have hsw:=hF.size;have hsub:∀q∈bY pw pc Ks2 lx' Lf2,q∈bY pw pc Ks1 lx' Lf1∨q∉bY pw pc Ks1 lx' Lf1/\w.heap.size<=q/\∀u,(Value.slice (some ⟨bv,0,none⟩) ds.length cv).ownBlock=some u->u<q:=by {
   intro q hq;by_cases hin:q∈bY pw pc Ks1 lx' Lf1
   · exact .inl hin
   {
   refine .inr ⟨hin,?_⟩;simp only[bY,qB,qE]at hq hin;rcases hq with e|e|e|e|e
   · exact absurd (.inl e) hin
   · exact absurd (.inr (.inl e)) hin
   {
   rcases hn4 q e with e|e
   · exact absurd (.inr (.inr (.inl e))) hin
   · exact⟨by omega,fun u hu=>by have:=hrow.lt hu;omega⟩}
   · exact absurd (.inr (.inr (.inr (.inl e)))) hin
   {
   rcases hn3 q e with e|e
   · exact absurd (.inr (.inr (.inr (.inr e)))) hin
   · exact⟨by omega,fun u hu=>by have:=hrow.lt hu;omega⟩}}};have hin:∀q,q∈Ks1∨q∈Lf1∨q=pw->q∈bY pw pc Ks1 lx' Lf1:=fun q hq=>by
     simp only[bY,qB,qE];rcases hq with h|h|h<;>simp[h]
   have hFall:Fr (bY pw pc Ks lx Lf) w (w4.setCell ⟨pw,9,none⟩ (.int .u64 ((g1:Int)+1))):=
     ((hF.trans hF3 (fun b hb=>hnw b (hin b (.inr (.inl hb))))).trans hF4 (fun b hb=>hnw b (hin b (.inl hb)))).trans hF5 (fun b hb=>by
       have e:b=pw:=by simpa using hb
       exact hnw b (hin b (.inr (.inr e))))
   rw[e2]at hB5;refine⟨s1.rem i,_,Q2,_,g1+1,Ks2,Lf2,cl4,hB5,((hrow.fr hF3 (fun q hq hm=>hvq q hq (hin q (.inr (.inl hm))))).fr hF4 (fun q hq hm=>hvq q hq (hin q (.inl hm)))).fr hF5 (fun q hq hm=>hvq q hq (hin q (.inr (.inr (by simpa using hm))))),fun q hq hm=>?_,hFall,fun q hq=>?_,hlk.drop hsok i,Sm.ok_rem hsok (oD hlk hsok ‹_›),hrest,hSE,?_,?_⟩
   {
   rcases hsub q hm with h|⟨_,_,h⟩
   · exact hvq q hq h
   · have:=h q hq;omega}
   {
   rcases hsub q hq with h|⟨_,h,_⟩
   · exact hnw q h
   · exact .inr h}
   {
   rw[<-hGE];funext j
   by_cases e:j=i
   · subst e;simp
   · by_cases e2:j∈ds.drop (k+1)<;>simp[e,e2]}
   · simp only[qY]at hgE;omega
  case measure=>simp[intOf];omega}
  {
  obtain rfl:k=ds.length:=by omega
  go_wp2_with fail
  go_ret;obtain⟨s1,Q1,Q2,G1,g1,Ks1,Lf1,cl1,hB,hrow,hvq,hF,hnw,hlk,hsok,hmin,hSE,hGE,hgE⟩:=HI.out;rw[List.drop_eq_nil_of_le (qJ _)]at hSE hGE hgE;have e1:s1=SE:=hSE;have e2:G1=GE:=by rw[<-hGE];funext j;simp
  have e3:g1=gE:=by simpa using hgE
  refine⟨rfl,ds,Q', n', Ks1,lx', Lf1,cl1,Hm.out,?_,hF,hnw⟩;rw[HEQ.out.1,HEQ.out.2.1,HEQ.out.2.2,<-e1,<-e2,<-e3];exact hB}
end
def Tryz.laysCloneMS_ren:Go.Shelf.Ren:=⟨fun|5=>118|7=>159|n=>n,fun|23=>143|25=>36|3=>158|4=>4|20=>20|n=>n,fun|n=>n⟩
theorem Tryz.laysCloneMS:Go.Proofs.SlLaysW.n5 Tryz.prog Tryz.laysCloneMS_ren:={
  mixed:=by kernel_rfl
  f5:=⟨Tryz.f118.name,by decide,Tryz.func118.trans (congrArg some (by kernel_rfl))⟩
  f7:=Tryz.func159.trans (congrArg some (by kernel_rfl))
  t4:=Tryz.underlying4
  a4:=Tryz.isAgg4
  z4:=Tryz.sizeOf4
  v4:=Tryz.zeroValue4
  t20:=Tryz.underlying20
  a20:=Tryz.isAgg20
  z20:=Tryz.sizeOf20
  v20:=Tryz.zeroValue20
  t23:=Tryz.underlying143
  a23:=Tryz.isAgg143
  z23:=Tryz.sizeOf143
  v23:=Tryz.zeroValue143 }
def Tryz.laysCloneL_ren:Go.Shelf.Ren:=⟨fun|41=>117|n=>n,fun|22=>59|23=>74|4=>4|n=>n,fun|n=>n⟩
theorem Tryz.laysCloneL:Go.Proofs.SlLaysE0.n41 Tryz.prog Tryz.laysCloneL_ren:={
  mixed:=by kernel_rfl
  f41:=⟨Tryz.f117.name,by decide,Tryz.func117.trans (congrArg some (by kernel_rfl))⟩
  t4:=Tryz.underlying4
  a4:=Tryz.isAgg4
  z4:=Tryz.sizeOf4
  v4:=Tryz.zeroValue4
  t22:=Tryz.underlying59
  a22:=Tryz.isAgg59
  z22:=Tryz.sizeOf59
  v22:=Tryz.zeroValue59 }
theorem aCU{w:World}{v:Value}{l:List Lv}(h:dJ w v l)(hp:l.length<=16384):
    Calls Tryz.prog 117 #[v] w fun e w' =>∃v', e=.returned v' /\ dJ w' v' l/\(∀q,v'.ownBlock=some q->w.heap.size<=q)/\Fr [] w w' :=by
 obtain⟨i0,hi,hz0,hz1,hz2⟩:=info_parts Tryz.info74;rcases h.2 with⟨rfl,h0⟩|⟨g,cap,cur,e,hg,hcur,hnc,hcm,hcs,htk⟩
 {
 have hn:l=[]:=List.length_eq_zero_iff.1 (by simpa using h0);subst hn;refine(AnyE.slices_Clone_nil Tryz.laysCloneL 0 0 w).mono ?_;rintro _ _ ⟨rfl,rfl⟩;exact⟨_,rfl,h,fun q e=>(by cases e),Fr.refl _ _⟩}
 {
 subst e;refine(AnyE.slices_Clone Tryz.laysCloneL i0 wY 7 56 hi hz0 hz1 hz2 rfl (by decide) Tryz.sizeOf74 g 0 l.length cap (rowV l) w (by rw[nZ]) (by unfold maxLen;omega) (by omega) (fun j u hj=>?_) (aHW l)).mono ?_
 {
 have hjl:j<l.length*7:=by have:=(qS.1 hj).1;rwa[nZ]at this
 rw[<-htk,List.getElem?_take,qD hjl]at hj;simp[World.cell?,hcur]at hj ⊢;exact hj}
 {
 rintro _ w' ⟨v', rfl,h1,_,hB⟩;exact⟨v', rfl,kS h1,kT h1,Fr.of_below hB⟩}}
theorem aCV{w:World}{mb n:Nat}{m:Int->Option Value}(h:cV Tryz.prog 36 .u64 okS w mb m n):
    Calls Tryz.prog 118 #[.map (some mb)] w fun e w' =>e=.returned (.map (some w.heap.size))/\cV Tryz.prog 36 .u64 okS w' w.heap.size m n/\Fr [] w w' :=by
 obtain⟨D,h1,h2,h3,h4⟩:=h;refine(AnyW.maps_Clone_owns Tryz.laysCloneMS 36 (sO okS) mb n D w h1).mono ?_;rintro _ w' ⟨rfl,k1,_,hB⟩;exact⟨rfl,⟨D,k1,h2,h3,h4⟩,Fr.of_below hB⟩
structure CI (w:World) (B mc:Nat) (iv iv' :Int->Option Value) (f:Nat->List Nat) (n:Nat) (dn:List Int) (lc:List Nat):Prop where
  im:cV Tryz.prog 36 .u64 okS w mc iv' n
  ge:∀q∈lc,B<=q
  lt:∀q∈lc,q<w.heap.size
  nm:mc∉lc
  row:∀id:Nat,id<U64->(id:Int)∈dn->((iv' id).isSome=true/\(iv id).isSome=true)/\dK w ((iv' id).getD fP) (f id)/\∀q,((iv' id).getD fP).ownBlock=some q->q∈lc
  old:∀id:Nat,id<U64->(id:Int)∉dn->iv' id=iv id
  inj:∀(id id' q:Nat),id<U64->id' < U64->(id:Int)∈dn->(id' :Int)∈dn->((iv' id).getD fP).ownBlock=some q->((iv' id').getD fP).ownBlock=some q->id=id'
section
variable {w w' w1 w2:World} {B mc n:Nat} {iv iv' :Int->Option Value} {f:Nat->List Nat} {dn:List Int} {lc S:List Nat}
theorem CI.fr(h:CI w B mc iv iv' f n dn lc)(hf:Fr S w w')(h1:mc∉S)(h2:∀q∈lc,q∉S):CI w' B mc iv iv' f n dn lc:=
  ⟨h.im.same (hf.keep mc h.im.lt h1),h.ge,fun q hq=>Nat.lt_of_lt_of_le (h.lt q hq) hf.size,h.nm,fun id hid hd=>⟨(h.row id hid hd).1,(h.row id hid hd).2.1.fr hf (fun q hq=>h2 q ((h.row id hid hd).2.2 q hq)),(h.row id hid hd).2.2⟩,h.old,h.inj⟩
theorem CI.start(h:cV Tryz.prog 36 .u64 okS w mc iv n):CI w B mc iv iv f n [] []:=
  ⟨h,by simp,by simp,by simp,fun _ _ h=>by simp at h,fun _ _ _=>rfl,fun _ _ _ _ _ h=>by simp at h⟩
theorem CI.put(h:CI w B mc iv iv' f n dn lc){id:Nat}(hid:id<U64)(hs:(iv id).isSome=true)(hd:(id:Int)∉dn){v1:Value}(hr:dK w1 v1 (f id))(hq:∀q,v1.ownBlock=some q->w.heap.size<=q)(hB:B<=w.heap.size)
    (hF:Fr [] w w1) (hI:cV Tryz.prog 36 .u64 okS w2 mc (jR iv' id (some v1)) (if (iv' id).isSome=true then n else n+1)) (hF2:Fr [mc] w1 w2):CI w2 B mc iv (jR iv' id (some v1)) f n (dn++[(id:Int)]) (lc++v1.ownBlock.toList):=by
 have hml:=h.im.lt;have hs1:=hF.size;have hs2:=hF2.size;rw[h.old id hid hd,qD hs]at hI;have hm1:∀q,v1.ownBlock=some q->q≠mc:=fun q hqq e=>by have:=hq q hqq;omega
 refine⟨hI,fun q hqm=>?_,fun q hqm=>?_,fun hm=>?_,fun x hx hxd=>?_,fun x hx hxd=>?_,fun x y q hx hy hxd hyd hxq hyq=>?_⟩
 {
 rcases qE.1 hqm with e|e
 · exact h.ge q e
 · have:=hq q (by simpa using e);omega}
 {
 rcases qE.1 hqm with e|e
 · have:=h.lt q e;omega
 · have:=hr.lt (q:=q) (by simpa using e);omega}
 {
 rcases qE.1 hm with e|e
 · exact h.nm e
 · exact hm1 mc (by simpa using e) rfl}
 {
 by_cases e:x=id
 {
 subst e;rw[cG];exact⟨⟨rfl,hs⟩,hr.fr hF2 (fun q hqq hm=>hm1 q hqq (by simpa using hm)),fun q hqq=>qE.2 (.inr (by simpa using hqq))⟩}
 {
 rw[bM (by omega)];have hxd' :(x:Int)∈dn:=by {
 rcases qE.1 hxd with e1|e1
 · exact e1
 · simp at e1;omega};obtain⟨a1,a2,a3⟩:=h.row x hx hxd';exact⟨a1,(a2.fr hF (by simp)).fr hF2 (fun q hqq hm=>h.nm (by have:=a3 q hqq;rw[qH]at hm;rwa[hm]at this)),fun q hqq=>qE.2 (.inl (a3 q hqq))⟩}}
 {
 have e:x≠id:=fun e=>hxd (by simp[e]);rw[bM (by omega)];exact h.old x hx (fun hm=>hxd (by simp[hm]))}
 {
 have hin:∀y:Nat,y≠id->(y:Int)∈dn++[(id:Int)]->(y:Int)∈dn:=fun y hy hm=>by
   rcases qE.1 hm with e1|e1
   · exact e1
   · simp at e1;omega
 by_cases ex:x=id
 {
 by_cases ey:y=id
 · rw[ex,ey]
 {
 subst ex;rw[cG]at hxq;rw[bM (by omega)]at hyq;have h1:=hq q hxq;have h2:=h.lt q ((h.row y hy (hin y ey hyd)).2.2 q hyq);omega}}
 {
 rw[bM (by omega)]at hxq;by_cases ey:y=id
 {
 subst ey;rw[cG]at hyq;have h1:=hq q hyq;have h2:=h.lt q ((h.row x hx (hin x ex hxd)).2.2 q hxq);omega}
 {
 rw[bM (by omega)]at hyq;exact h.inj x y q hx hy (hin x ex hxd) (hin y ey hyd) hxq hyq}}}
theorem CI.all(h:CI w B mc iv iv' f n dn lc){w0:World}{mb:Nat}{lb:List Nat}(h0:nF w0 mb iv f n lb)(hall:∀x,(Lit.int .u64 x).wf=true->(iv x).isSome=true->x∈dn):nF w mc iv' f n lc:=by
 have hno:∀id:Nat,id<U64->(id:Int)∉dn->iv' id=none/\f id=[]:=fun id hid hd=>by
   have h1:(iv id).isSome=false:=by
     cases hs:(iv id).isSome with
     | false=>rfl
     | true=>exact absurd (hall id (jU hid) hs) hd
   have h2:=h.old id hid hd;refine⟨by rw[h2];simpa using h1,?_⟩;by_cases e:f id=[]
   · exact e
   · have := (h0.row id hid).1.2 e
     rw[h1]at this;cases this
 refine⟨h.im,h.nm,h.lt,fun id hid=>?_,fun id id' q hid hid' h1 h2=>?_⟩
 {
 by_cases hd:(id:Int)∈dn
 {
 obtain⟨a1,a2,a3⟩:=h.row id hid hd;exact⟨⟨fun _=>(h0.row id hid).1.1 a1.2,fun _=>a1.1⟩,a2,a3⟩}
 {
 obtain⟨a1,a2⟩:=hno id hid hd;rw[a1,a2];exact⟨by simp,dK.nil _,fun q e=>by cases e⟩}}
 {
 by_cases hd:(id:Int)∈dn
 {
 by_cases hd' :(id' :Int)∈dn
 · exact h.inj id id' q hid hid' hd hd' h1 h2
 · rw[(hno id' hid' hd').1]at h2;cases h2}
 · rw[(hno id hid hd).1]at h1;cases h1}
end
theorem Blk.frc{S:List Nat}{w w' :World}{b:Nat}{t:TypeId}{l:List Value}(h:Blk w b t l)(hf:Fr S w w')(hn:b∉S):Blk w' b t l:=hf.blk h hn
theorem Blk.fr0c{w w' :World}{b:Nat}{t:TypeId}{l:List Value}(h:Blk w b t l)(hf:Fr [] w w'):Blk w' b t l:=hf.blk h (by simp)
section
variable {w w' :World} {ps:Nat} {s:Sm} {K:List Nat}
theorem aOF(h:bH w ps s K):Calls Tryz.prog 76 #[iO ps] w fun e w' =>∃pc,e=.returned (iO pc)/\∃K', bH w' pc s K' /\ Fr [] w w' /\ ∀q∈K', w.heap.size<=q:=by
 have HV:=qA (kX h);obtain⟨pa,pt,mb,n,vl,la,lT,lb,c,hB,rfl,c0,c1,c2,c3,c4,c5,c6⟩:=h.open;have HB:=qA hB;have HLT:=qA hB.lt;have hnE:=hB.nE;have hE:=hB.ok.leE;obtain⟨iv,hI⟩:=hB.inc;have HI:=qA hI;have HC1:=qA (fun(w' :World) (hf:Fr [] w w')=>sP (hB.ar.fr hf (by simp)));have HC2:=qA (fun(w' :World) (hf:Fr [] w w')=>aIA (hB.tb.fr hf (by simp)));have HC3:=qA (fun(w' :World) (hf:Fr [] w w')=>aCU (hB.lv.fr0 hf) (by simp;omega));have HC4:=qA (fun(w' :World) (hf:Fr [] w w')=>aCV (hI.fr hf (by simp) (by simp)).im);have hps:=hB.hd.lt;obtain⟨av,cv,rfl⟩:∃a cap,vl=.slice a n cap:=by simpa using hB.lv.slice
 clear h hB hI;go_enter Tryz.func76,Tryz.ntmps76
 go_wp2_with fail
 refine HV.out.mono ?_;rintro _ w ⟨rfl,rfl⟩;have hne:ps≠w.heap.size:=by omega
 have hFa:Fr [] w (w.alloc (.cells #[.int .i64 s.V,.int .i64 s.E,.int .u64 s.last,ptr pa,ptr pt,.slice av n cv,.map (some mb)] 145)):=(Fr.refl [] w).alloc _;have hB0:Blk (w.alloc (.cells #[.int .i64 s.V,.int .i64 s.E,.int .u64 s.last,ptr pa,ptr pt,.slice av n cv,.map (some mb)] 145)) w.heap.size 145 [.int .i64 s.V,.int .i64 s.E,.int .u64 s.last,ptr pa,ptr pt,.slice av n cv,.map (some mb)]:=Blk.new w _ _;have hs0:(w.alloc (.cells #[.int .i64 s.V,.int .i64 s.E,.int .u64 s.last,ptr pa,ptr pt,.slice av n cv,.map (some mb)] 145)).heap.size=w.heap.size+1:=by simp
 go_wp2_with fail
 refine(HC1.out _ hFa).mono ?_;rintro _ w2 ⟨pa', rfl,la', hA2,hF2,hl2⟩;have hb2:=hF2.blk hB0 (by simp);have d2:=hb2.cell 3;have z2:=hb2.frozen 3;simp only[zI,zJ]at d2;have e4:=(hFa.trans' hF2).cell c4 (by simp);have hs2:=hF2.size;have hl2' :∀q∈la', w.heap.size+1<=q:=fun q hq=>by have:=hl2 q hq;omega
 have HF2:=qA (zH (hFa.trans' hF2) (zH hb2 (zH hA2 hl2')));clear hFa hB0 hF2 hb2 hA2 hl2 hl2' HC1 c0 c1 c2 c3;go_wp2_with fail
 have hF3:Fr [] w (w2.setCell ⟨w.heap.size,3,none⟩ (ptr pa')):=HF2.out.1.setCell _ _ (.inr (qJ _));have hb3:=HF2.out.2.1.set 3 (ptr pa');have hA3:=HF2.out.2.2.1.fr ((Fr.refl [w.heap.size] w2).setCell ⟨w.heap.size,3,none⟩ (ptr pa') (.inl (by simp))) (fun q hq hm=>by have:=HF2.out.2.2.2 q hq;rw[qH]at hm;omega);have hs3:(w2.setCell ⟨w.heap.size,3,none⟩ (ptr pa')).heap.size=w2.heap.size:=by simp
 simp only[qX,qT]at hb3;have hl2:=HF2.out.2.2.2;clear d2 z2 e4 HF2;generalize w2.setCell ⟨w.heap.size,3,none⟩ (ptr pa')=w3 at *;have HF3:=qA (zH hF3 (zH hb3 (zH hA3 hl2)));have HLA:=qA hA3.lt;clear hb3 hA3 hl2;refine(HC2.out _ hF3).mono ?_;rintro _ w4 ⟨pt', rfl,lT', hT4,hF4,hl4⟩;have hb4:=hF4.blk HF3.out.2.1 (by simp);have hA4:=HF3.out.2.2.1.fr hF4 (by simp);have d2:=hb4.cell 4;have z2:=hb4.frozen 4;simp only[zI,zJ]at d2;have e5:=(hF3.trans' hF4).cell c5 (by simp);have hs4:=hF4.size;have HF4:=qA (zH (hF3.trans' hF4) (zH hb4 (zH hA4 (zH HF3.out.2.2.2 (zH hT4 (show ∀q∈lT', w3.heap.size<=q from hl4))))));clear hF3 hF4 hb4 hA4 hT4 hl4 HC2 c4 HF3;go_wp2_with fail
 have hF5:Fr [] w (w4.setCell ⟨w.heap.size,4,none⟩ (ptr pt')):=HF4.out.1.setCell _ _ (.inr (qJ _));have hset:Fr [w.heap.size] w4 (w4.setCell ⟨w.heap.size,4,none⟩ (ptr pt')):=(Fr.refl [w.heap.size] w4).setCell ⟨w.heap.size,4,none⟩ (ptr pt') (.inl (by simp));have hb5:=HF4.out.2.1.set 4 (ptr pt');have hla3:=HF4.out.2.2.2.1;have hA5:=HF4.out.2.2.1.fr hset (fun q hq hm=>by have:=hla3 q hq;rw[qH]at hm;omega);have hT5:=HF4.out.2.2.2.2.1.fr hset (fun q hq hm=>by have:=HF4.out.2.2.2.2.2 q hq;rw[qH]at hm;omega);have hs5:(w4.setCell ⟨w.heap.size,4,none⟩ (ptr pt')).heap.size=w4.heap.size:=by simp
 have hl5:=HF4.out.2.2.2.2.2;have hla4:=HF4.out.2.2.1.lt;simp only[qX,qT]at hb5;clear d2 z2 e5 HF4 hset;generalize w4.setCell ⟨w.heap.size,4,none⟩ (ptr pt')=w5 at *;have HF5:=qA (zH hF5 (zH hb5 (zH hA5 (zH hla3 (zH hT5 hl5)))));have HLAT:=qA (zH HLA.out hT5.lt);clear hb5 hA5 hla3 hT5 hl5 HLA;refine(HC3.out _ hF5).mono ?_;rintro _ w6 ⟨vl', rfl,hV6,hn6,hF6⟩;obtain⟨av', cv', rfl⟩:∃a cap,vl' =.slice a n cap:=by simpa using hV6.slice
 have hb6:=hF6.blk HF5.out.2.1 (by simp);have d2:=hb6.cell 5;have z2:=hb6.frozen 5;simp only[zI,zJ]at d2;have e6:=(hF5.trans' hF6).cell c6 (by simp);have hs6:=hF6.size;have HF6:=qA (zH (hF5.trans' hF6) (zH hb6 (zH (HF5.out.2.2.1.fr hF6 (by simp)) (zH HF5.out.2.2.2.1 (zH (HF5.out.2.2.2.2.1.fr hF6 (by simp)) (zH HF5.out.2.2.2.2.2 (zH hV6 hn6)))))));clear hF5 hF6 hb6 hV6 hn6 HC3 c5 HF5;go_wp2_with fail
 have hF7:Fr [] w (w6.setCell ⟨w.heap.size,5,none⟩ (.slice av' n cv')):=HF6.out.1.setCell _ _ (.inr (qJ _));have hset:Fr [w.heap.size] w6 (w6.setCell ⟨w.heap.size,5,none⟩ (.slice av' n cv')):=(Fr.refl [w.heap.size] w6).setCell ⟨w.heap.size,5,none⟩ _ (.inl (by simp));have hb7:=HF6.out.2.1.set 5 (.slice av' n cv');have hA7:=HF6.out.2.2.1.fr hset (fun q hq hm=>by have:=HF6.out.2.2.2.1 q hq;rw[qH]at hm;omega);have hT7:=HF6.out.2.2.2.2.1.fr hset (fun q hq hm=>by have:=HF6.out.2.2.2.2.2.1 q hq;rw[qH]at hm;omega);have hV7:=HF6.out.2.2.2.2.2.2.1.fr hset (fun q hq hm=>by have:=HF6.out.2.2.2.2.2.2.2 q hq;rw[qH]at hm;omega);have hs7:(w6.setCell ⟨w.heap.size,5,none⟩ (.slice av' n cv')).heap.size=w6.heap.size:=by simp
 simp only[qX,qT]at hb7;have HL7:=qA (zH HF6.out.2.2.2.1 (zH HF6.out.2.2.2.2.2.1 HF6.out.2.2.2.2.2.2.2));have hlT6:=HF6.out.2.2.2.2.1.lt;clear d2 z2 e6 HF6 hset;generalize w6.setCell ⟨w.heap.size,5,none⟩ (.slice av' n cv')=w7 at *;have HF7:=qA (zH hF7 (zH hb7 (zH hA7 (zH hT7 hV7))));clear hb7 hA7 hT7 hV7;refine(HC4.out _ hF7).mono ?_;rintro _ w8 ⟨rfl,hM8,hF8⟩;rw[hs7]at hM8;have hb8:=hF8.blk HF7.out.2.1 (by simp);have d2:=hb8.cell 6;have z2:=hb8.frozen 6;simp only[zI,zJ]at d2;have e7:=(hF7.trans' hF8).cell c6 (by simp);have hs8:=hF8.size;have hml:=hM8.lt;have hvo:∀q,(Value.slice av' n cv').ownBlock=some q->w.heap.size+1<=q/\q<w6.heap.size:=fun q hq=>⟨by have:=HL7.out.2.2 q hq;omega,by have:=HF7.out.2.2.2.2.lt hq;omega⟩;have hlA:=HF7.out.2.2.1.lt;have hlT:=HF7.out.2.2.2.1.lt;have hset:Fr [w.heap.size] w8 (w8.setCell ⟨w.heap.size,6,none⟩ (.map (some w6.heap.size))):=(Fr.refl _ w8).setCell ⟨w.heap.size,6,none⟩ _ (.inl (by simp));have hF9:Fr [] w (w8.setCell ⟨w.heap.size,6,none⟩ (.map (some w6.heap.size))):=(hF7.trans' hF8).setCell _ _ (.inr (qJ _));have hb9:=hb8.set 6 (.map (some w6.heap.size));simp only[qX,qT]at hb9;have hn9:∀q,w.heap.size+1<=q->q∉[w.heap.size]:=fun q hq hm=>by rw[qH]at hm;omega
 have hA9:=(HF7.out.2.2.1.fr hF8 (by simp)).fr hset (fun q hq=>hn9 q (HL7.out.1 q hq));have hT9:=(HF7.out.2.2.2.1.fr hF8 (by simp)).fr hset (fun q hq=>hn9 q (by have:=HL7.out.2.1 q hq;omega));have hV9:=(HF7.out.2.2.2.2.fr0 hF8).fr hset (fun q hq=>hn9 q (hvo q hq).1);have hM9:=hM8.same (hset.keep _ hml (hn9 _ (by omega)));have HIM:=qA (HI.out.fr hF9 (by simp) (by simp));have hc6:=hb9.cell 6;simp only[zI,zJ]at hc6;have hs9:(w8.setCell ⟨w.heap.size,6,none⟩ (.map (some w6.heap.size))).heap.size=w8.heap.size:=by simp
 have H9:=qA (zH hF9 (zH hb9 (zH hA9 (zH hT9 (zH hV9 hM9)))));have HVO:=qA (zH hvo (zH (fun q (hq:q∈la')=>zH (HL7.out.1 q hq) (show q<w6.heap.size by have:=hlA q hq;omega)) (fun q (hq:q∈lT')=>zH (show w.heap.size+1<=q by have:=HL7.out.2.1 q hq;omega) (zH (show w3.heap.size<=q from HL7.out.2.1 q hq) (show q<w6.heap.size by have:=hlT q hq;omega)))));clear hF7 hF8 hb8 hM8 HC4 HF7 hset hF9 hb9 hn9 hA9 hT9 hV9 hM9 hvo hlA hlT hml c6;go_wp2_with (first|(at_range;refine uV rfl _ rfl HIM.out.im Tryz.underlying36 Tryz.underlying143 rfl ?_;intro w10 cnt0 hI0 hc0 hF0 hs0)|fail)
 go_frame
 generalize w8.setCell ⟨w.heap.size,6,none⟩ (.map (some w6.heap.size))=w9 at *;clear hs9;have hm6:=H9.out.2.2.2.2.2.lt;have HI0:=qA (zH hI0 (zH hF0 hs0));have hs90:=hF0.size;clear hI0 hF0 hs0;have hnmm:s.M.L.length<maxLen:=by have:=HB.out.ok.md.len;unfold maxLen;omega
 obtain⟨nm,hnm⟩:∃nm,nm=s.M.L.length:=⟨_,rfl⟩;rw[<-hnm]at H9 HI0 HIM hnmm HI;have HNM:=qA hnm;clear hnm hc0 d2 z2 e7 hc6;have hcl:∀id,(bU s.L id).length<=16384:=fun id=>by
   have h1:=kQ s.L id;have h2:=Sm.len_used HB.out.ok;have h3:=HB.out.ok.ar.hb;have h4:=HB.out.ok.sl;unfold Ar.used at h2;omega
 have HCL:=qA (zH hcl hnmm);clear hcl hnmm;have hmbw:mb<w.heap.size:=HLT.out mb (by simp[stK]);have hs10:=HI0.out.2.2;have hrbm:w9.heap.size≠mb:=by have:=HIM.out.im.lt;omega
 go_loopw [] (fun wr=>∃(dn:List Int) (cnt:Nat) (iv' :Int->Option Value) (lc:List Nat),Hid (kE Tryz.prog 36 .u64 okS wr mb w9.heap.size iv nm dn cnt/\CI wr w10.heap.size w6.heap.size iv iv' (bU s.L) nm dn lc/\Fr [w6.heap.size,w9.heap.size] w10 wr)) (fun wr=>wr.rangeLeft mb w9.heap.size)
 case atStart=>exact⟨[],cnt0,iv,[],qA ⟨HI0.out.1,(CI.start (H9.out.2.2.2.2.2)).fr HI0.out.2.1 (by simp) (by simp),Fr.refl _ _⟩⟩
 case round=>
  obtain⟨dn,cnt,iv', lc,HR⟩:=hrel;rename World=>wr
  have hF10:Fr [] w wr:=(H9.out.1.trans' HI0.out.2.1).trans HR.out.2.2 (fun q hq=>.inr (by simp at hq;omega));have HFW:=qA hF10;have hsr:=HR.out.2.2.size;clear hF10;go_wp2_with (first|(at_next;refine xT rfl _ rfl Tryz.underlying36 rfl HR.out.1 ?_ ?_)|fail)
  {
  intro hall;have HA:=qA hall;clear hall;go_wp2_with fail
  go_ret;have hII:=HR.out.2.1.all (HI.out) HA.out;have hF1:Fr [w6.heap.size,w9.heap.size] w9 wr:=(HI0.out.2.1.mono (by simp)).trans' HR.out.2.2;have hno:∀q,q<w6.heap.size->q∉[w6.heap.size,w9.heap.size]:=fun q hq hm=>by simp at hm;omega
  have hge:=HR.out.2.1.ge;refine⟨_,rfl,_,⟨pa', pt', w6.heap.size,n,.slice av' n cv', la', lT', lc,fun x=>if x=w.heap.size then 0 else if x=w6.heap.size then 1 else if w10.heap.size<=x then 5 else if x∈la' then 2 else if x∈lT' then 3 else 4,⟨hF1.blk H9.out.2.1 (hno _ (by omega)),H9.out.2.2.1.fr hF1 (fun q hq=>hno q (HVO.out.2.1 q hq).2),H9.out.2.2.2.1.fr hF1 (fun q hq=>hno q (HVO.out.2.2 q hq).2.2),H9.out.2.2.2.2.1.fr hF1 (fun q hq=>hno q (HVO.out.1 q hq).2),⟨iv', by rw[<-HNM.out];exact hII⟩,HB.out.sn,hnE,HB.out.ok,?_⟩,rfl⟩,HFW.out,?_⟩
  {
  have h1:=HVO.out.1;have h2:=HVO.out.2.1;have h3:=HVO.out.2.2;have hL:=HLAT.out;refine⟨qD rfl,?_,fun q hq=>?_,fun q hq=>?_,fun q hq=>?_,fun q hq=>?_⟩
  · rw[qC (by omega),qD rfl]
  {
  have:=h2 q hq;rw[qC (by omega),qC (by omega),qC (by omega),qD hq]}
  {
  have:=h3 q hq;have hn:q∉la' :=fun hm=>by have:=hL.1 q hm;omega
  rw[qC (by omega),qC (by omega),qC (by omega),qC hn,qD hq]}
  {
  have:=h1 q hq;have h5:=HL7.out.2.2 q hq;have hn:q∉la' :=fun hm=>by have:=hL.1 q hm;omega
  have hn2:q∉lT' :=fun hm=>by have:=hL.2 q hm;omega
  rw[qC (by omega),qC (by omega),qC (by omega),qC hn,qC hn2]}
  {
  have:=hge q hq;rw[qC (by omega),qC (by omega),qD this]}}
  {
  intro q hq;simp only[stK,qB,qE,Option.mem_toList]at hq;rcases hq with rfl|rfl|((hq|hq)|hq)|hq
  · exact qJ _
  · omega
  · have:=(HVO.out.2.1 q hq).1;omega
  · have:=(HVO.out.2.2 q hq).1;omega
  · have:=(HVO.out.1 q hq).1;omega
  · have:=hge q hq;omega}}
  {
  intro x cv0 w1 cnt1 hwx hm hnd hI1 hlt1 hF1 hs1 hen;obtain⟨id,rfl,hid⟩:=aFT hwx;have hFw1:Fr [] w w1:=HFW.out.trans hF1 (fun q hq=>.inr (by rw[qH]at hq;omega));have hrow:=((HI.out.fr hFw1 (by simp) (by simp)).row id hid).2.1;rw[hm]at hrow;obtain⟨ac,cc,ec⟩:=hrow.slice;simp only[Option.getD_some]at ec hrow;subst ec;have hCL:=aCB (hrow.fr0 ((Fr.refl [] w1).drew)) (HCL.out.1 id);have hCI:=HR.out.2.1.fr hF1 (by simp;omega) (fun q hq hm=>by have:=HR.out.2.1.ge q hq;rw[qH]at hm;omega);have HPU:=qA (show ∀(w5:World) (v5:Value),Fr [] w1 w5->dK w5 v5 (bU s.L id)->∃w6', (Instr.mapUpdate 143 (.map (some w6.heap.size)) (.int .u64 id) v5).run Tryz.prog w5=.ok () w6' /\ cV Tryz.prog 36 .u64 okS w6' w6.heap.size (jR iv' id (some v5)) (if (iv' id).isSome=true then nm else nm+1)/\Fr [w6.heap.size] w5 w6' from fun w5 v5 hf hr=>by
    obtain⟨a5,c5,rfl⟩:=hr.slice;exact(hCI.im.same (hf.keep _ hCI.im.lt (by simp))).put Tryz.underlying36 Tryz.underlying143 HCL.out.2 (jU hid) rfl)
  have hb1:=(((H9.out.2.1.fr0c HI0.out.2.1).frc HR.out.2.2 (by simp;omega)).frc hF1 (by simp;omega)).cell 6;simp only[zI,zJ]at hb1;have HK:=qA (fun(w' :World) (S:List Nat) (hf:Fr S w1 w') (hs:w.heap.size∉S)=>hf.cell hb1 hs);have HNC:=qA (show w.heap.size∉[w6.heap.size] by simp;omega);have HCLn:=qA hCL;have HX:=qA (zH hCI (zH hI1 (zH hF1 (zH hnd hm))));clear hCL hCI hrow hI1 hF1 hnd hm hFw1 hwx;go_wp2_with fail
  go_region_held3 (fun w' => w'.cell? ⟨w.heap.size, 6, none⟩ = some (.map (some w6.heap.size)))
    (first
      | with_reducible exact HK.out _ _ hF16 HNC.out
      | with_reducible exact HK.out _ _ hF15 (by simp)
      | with_reducible exact HK.out _ _ ((Fr.refl [] w1).drew) (by simp))
    (first
      | (go_at_call 119; with_reducible refine Calls.mono HCLn.out ?_; rintro r w5' ⟨v5, rfl, hr5, hn5, hF5⟩
         have hF15:Fr [] w1 w5' :=((Fr.refl [] w1).drew).trans' hF5;obtain⟨w6', hrun6,hM6,hG6⟩:=HPU.out w5' v5 hF15 hr5;have hF16:Fr [w6.heap.size] w1 w6' :=(hF15.mono (by simp)).trans' hG6))
  all_goals
   go_wp2_with fail
   go_roundw
   case rel=>
    have hI6:=HX.out.2.1.fr hF16 (by simp;omega) (by simp;omega);refine⟨dn++[(id:Int)],cnt1,_,_,qA ⟨hI6,HX.out.1.put hid (by rw[HX.out.2.2.2.2];rfl) HX.out.2.2.2.1 hr5 hn5 (by omega) hF15 hM6 hG6,(HR.out.2.2.trans HX.out.2.2.1 (fun q hq=>.inl (by rw[qH]at hq;simp[hq]))).trans hF16 (fun q hq=>.inl (by rw[qH]at hq;simp[hq]))⟩⟩
   case measure=>rw[(HX.out.2.1.fr hF16 (by simp;omega) (by simp;omega)).left_eq,HR.out.1.left_eq];omega}
end
end Go.Proofs.YtjdgpcjbgjnahaaGreatDoor
