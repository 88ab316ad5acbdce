/- forest: Connected, Size, Until, Tree, Len. -/
import Derived.Test.YtjdgpcjbgjnahaaGreatDoorG8
import Derived.BigQuiet
import Derived.WalkSpells
import Derived.Test.YtjdgpcjbgjnahaaGreatDoorG3
import Derived.Test.YtjdgpcjbgjnahaaGreatDoorG7
import Derived.Deep.RegionHeld3
import Derived.Test.YtjdgpcjbgjnahaaGreatDoorG4
set_option maxRecDepth 10000
set_option maxHeartbeats 1600000
set_option linter.unusedSimpArgs false
set_option linter.unusedVariables false
/- The heap: settle. -/
namespace Go.Proofs.YtjdgpcjbgjnahaaGreatDoor
open Go.RowKit
structure Sft (W w:World) (ph slots n:Nat) (e0 e:Nat->Nat×Int) (pl:Nat->Nat) (v:Value) (gp cp:Nat) (bs0 bs:Nat->Option Nat) (b1 b2 p:Nat):Prop where
  hm:HM w ph slots n e pl v gp cp bs
  ok:kC slots n e pl
  mem:∀y,(∃x,x<n/\e x=y)↔∃x,x<n/\e0 x=y
  c1:Blk w b1 149 [aS ph]
  c2:Blk w b2 3 [.int .i64 p]
  a1:b1∉hB slots ph v gp bs
  a2:b2∉hB slots ph v gp bs
  a12:b1≠b2
  fr:Fr (b2::hB slots ph v gp bs0) W w
  new:∀b∈hB slots ph v gp bs,b∈hB slots ph v gp bs0∨W.heap.size<=b
  lt:p<n
section
variable {W w w' :World} {ph slots n:Nat} {e0 e:Nat->Nat×Int} {pl:Nat->Nat} {v:Value} {gp cp:Nat} {bs0 bs:Nat->Option Nat} {b1 b2 p:Nat}
theorem Sft.keep(h:Sft W w ph slots n e0 e pl v gp cp bs0 bs b1 b2 p)(hf:Fr [] w w'):Sft W w' ph slots n e0 e pl v gp cp bs0 bs b1 b2 p:=
  ⟨h.hm.fr0 hf,h.ok,h.mem,hf.blk h.c1 (by simp),hf.blk h.c2 (by simp),h.a1,h.a2,h.a12,h.fr.trans' (hf.mono (by simp)),h.new,h.lt⟩
theorem Sft.step(h:Sft W w ph slots n e0 e pl v gp cp bs0 bs b1 b2 p){q:Nat}(hq:q<n){bs' :Nat->Option Nat}(hm:HM w' ph slots n (gD e p q) (kD (kD pl (e q).1 (p+1)) (e p).1 (q+1)) v gp cp bs')
    (hf:Fr (hB slots ph v gp bs) w w') (hn:∀b∈hB slots ph v gp bs', b∈hB slots ph v gp bs∨w.heap.size<=b):
    Sft W (w'.setCell ⟨b2,0,none⟩ (.int .i64 (q:Int))) ph slots n e0 (gD e p q) (kD (kD pl (e q).1 (p+1)) (e p).1 (q+1)) v gp cp bs0 bs' b1 b2 q:=by
 have k1:=h.c1.lt;have k2:=h.c2.lt;have hs:=hf.size;have hs0:=h.fr.size;have n1:b1∉hB slots ph v gp bs' :=fun hm=>(hn b1 hm).elim h.a1 (fun e=>by omega);have n2:b2∉hB slots ph v gp bs' :=fun hm=>(hn b2 hm).elim h.a2 (fun e=>by omega);have hset:Fr [b2] w' (w'.setCell ⟨b2,0,none⟩ (.int .i64 (q:Int))):=(Fr.refl _ _).setCell _ _ (.inl (by simp));refine⟨hm.fr hset (fun b hb hm=>?_),h.ok.swap h.lt hq,fun y=>(aJG h.lt hq y).trans (h.mem y),(hf.blk h.c1 h.a1).other _ _ h.a12,?_,n1,n2,h.a12,?_,fun b hb=>?_,hq⟩
 · simp at hm;subst hm;exact n2 hb
 · have:=(hf.blk h.c2 h.a2).set 0 (.int .i64 (q:Int));exact this
 {
 refine(h.fr.trans hf (fun b hb=>(h.new b hb).imp (fun e=>List.mem_cons_of_mem _ e) (fun e=>e))).trans' (hset.mono (fun b hb=>.inl ?_));simp at hb;subst hb;exact List.mem_cons_self}
 {
 rcases hn b hb with e|e
 · exact h.new b e
 · exact .inr (by omega)}
def msd(n:Nat):Value->Nat
  | .int _ x=>if x<0 then 0 else n-x.toNat
  | _=>0
theorem aNL(n:Nat):msd n (.int .i64 (-1))=0:=by simp[msd]
theorem xS(n z:Nat):msd n (.int .i64 (z:Int))=n-z:=by
 show(if (z:Int)<0 then 0 else n-(z:Int).toNat)=n-z
 rw[qC (by omega)];simp
theorem aSZ(e:Nat->Nat×Int){q:Nat}(_hq:q<n):blw n e q=q∨(q<blw n e q/\blw n e q<n):=by
 rcases vT n e q with h|⟨h1,h2,_⟩
 · exact .inl h
 · exact .inr ⟨by omega,h1⟩
theorem aNM(h:Sft W w ph slots n e0 e pl v gp cp bs0 bs b1 b2 p)(hu:UpI n e p):
    Calls Tryz.prog 230 #[.func (.func 231) #[aS ph] #[],aS b2,aS b1] w fun r w' =>r=.returned (.tuple #[])/\∃e' pl' bs' p', Sft W w' ph slots n e0 e' pl' v gp cp bs0 bs' b1 b2 p' /\ Hp n e' :=by
 have hnb:=h.hm.nb;have x1:=h.c1.cell 0;have x2:=h.c2.cell 0;simp only[zI]at x1 x2;have HA:=qA (xR h.hm h.lt);have HS:=qA (zH h hu);clear h hu;go_enter Tryz.func230,Tryz.ntmps230
 go_wp2_with fail
 refine HA.out.mono ?_;rintro _ w1 ⟨rfl,hf1⟩;have HS1:=qA (zH (HS.out.1.keep hf1) HS.out.2);clear HS HA hf1 x1 x2;go_wp2
 go_loopw [4] (fun sq wr=>∃(e:Nat->Nat×Int) (pl:Nat->Nat) (bs:Nat->Option Nat) (p:Nat),sq=.int .i64 (oO e p)/\Hid (Sft W wr ph slots n e0 e pl v gp cp bs0 bs b1 b2 p/\UpI n e p)) (fun s _=>(intOf s+1).toNat)
 case atStart=>exact⟨e,pl,bs,p,rfl,HS1⟩
 case round=>
  clear HS1;obtain⟨e,pl,bs,p,rfl,HS⟩:=hrel;have hplt:=HS.out.1.lt;by_cases hc:0<p/\elt (e p) (e ((p-1)/2))
  {
  obtain⟨q,hq⟩:∃q,q=(p-1)/2:=⟨_,rfl⟩;have hv:oO e p=(q:Int):=by unfold oO;rw[qD hc,<-hq]
  have hqn:q<n:=by omega
  have hstep:=aND HS.out.2 hc.1 hplt hc.2;rw[<-hq]at hstep;have HC:=qA hc;clear hc hq;have x1:=HS.out.1.c1.cell 0;have x2:=HS.out.1.c2.cell 0;simp only[zI]at x1 x2;have HW:=qA (aCN HS.out.1.hm HS.out.1.lt hqn HS.out.1.ok.lt);have t1:((q:Int) != -1)=true:=by simp
  have Hv:=qA hv;rw[hv];clear hv;go_wp2_with fail
  refine HW.out.mono ?_;rintro _ w2 ⟨rfl,bs2,hm2,hf2,hn2⟩;have hS2:=HS.out.1.step hqn hm2 hf2 hn2;have y1:=(hf2.blk HS.out.1.c1 HS.out.1.a1).cell 0;have y2:=(hf2.blk HS.out.1.c2 HS.out.1.a2).cell 0;have z2:=(hf2.blk HS.out.1.c2 HS.out.1.a2).frozen 0;have u2:=hS2.c2.cell 0;simp only[zI]at y1 y2 u2;have HA2:=qA (xR hS2.hm hS2.lt);have HS2:=qA (zH hS2 hstep);clear hm2 hf2 hn2 hS2 hstep HW x1 x2;go_wp2_with fail
  refine HA2.out.mono ?_;rintro _ w3 ⟨rfl,hf3⟩;have HS3:=qA (zH (HS2.out.1.keep hf3) HS2.out.2);clear HS2 HA2 hf3 y1 y2 z2 u2;go_wp2
  go_roundw
  case rel=>exact⟨_,_,_,q,rfl,HS3⟩
  case measure=>(simp only[intOf];unfold oO;split<;>omega)}
  {
  have hv:oO e p=-1:=by unfold oO;rw[qC hc]
  have hdone:=aNC HS.out.2 hc;have HD:=qA hdone;clear hdone;rw[hv];clear hv;go_wp2
  go_end0
  exact⟨rfl,e,pl,bs,p,HS.out.1,HD.out⟩}
theorem aEK(h:Sft W w ph slots n e0 e pl v gp cp bs0 bs b1 b2 p)(hu:DnI n e p):
    Calls Tryz.prog 230 #[.func (.func 232) #[aS ph] #[],aS b2,aS b1] w fun r w' =>r=.returned (.tuple #[])/\∃e' pl' bs' p', Sft W w' ph slots n e0 e' pl' v gp cp bs0 bs' b1 b2 p' /\ Hp n e' :=by
 have hnb:=h.hm.nb;have x1:=h.c1.cell 0;have x2:=h.c2.cell 0;simp only[zI]at x1 x2;have HA:=qA (aEJ h.hm h.lt);have HS:=qA (zH h hu);clear h hu;go_enter Tryz.func230,Tryz.ntmps230
 go_wp2_with fail
 refine HA.out.mono ?_;rintro _ w1 ⟨rfl,hf1⟩;have HS1:=qA (zH (HS.out.1.keep hf1) HS.out.2);clear HS HA hf1 x1 x2;go_wp2
 go_loopw [4] (fun sq wr=>∃(e:Nat->Nat×Int) (pl:Nat->Nat) (bs:Nat->Option Nat) (p:Nat),sq=.int .i64 (pQ n e p)/\Hid (Sft W wr ph slots n e0 e pl v gp cp bs0 bs b1 b2 p/\DnI n e p)) (fun s _=>msd n s)
 case atStart=>exact⟨e,pl,bs,p,rfl,HS1⟩
 case round=>
  clear HS1;obtain⟨e,pl,bs,p,rfl,HS⟩:=hrel;have hplt:=HS.out.1.lt;by_cases hc:blw n e p≠p
  {
  obtain⟨q,hq⟩:∃q,q=blw n e p:=⟨_,rfl⟩;have hv:pQ n e p=(q:Int):=by unfold pQ;rw[qC hc,<-hq]
  obtain⟨hstep,hpq,hqn⟩:=aNG HS.out.2 hc;rw[<-hq]at hstep hpq hqn;have HC:=qA hc;clear hc hq;have x1:=HS.out.1.c1.cell 0;have x2:=HS.out.1.c2.cell 0;simp only[zI]at x1 x2;have HW:=qA (aCN HS.out.1.hm HS.out.1.lt hqn HS.out.1.ok.lt);have t1:((q:Int) != -1)=true:=by simp
  have Hv:=qA hv;rw[hv];clear hv;go_wp2_with fail
  refine HW.out.mono ?_;rintro _ w2 ⟨rfl,bs2,hm2,hf2,hn2⟩;have hS2:=HS.out.1.step hqn hm2 hf2 hn2;have y1:=(hf2.blk HS.out.1.c1 HS.out.1.a1).cell 0;have y2:=(hf2.blk HS.out.1.c2 HS.out.1.a2).cell 0;have z2:=(hf2.blk HS.out.1.c2 HS.out.1.a2).frozen 0;have u2:=hS2.c2.cell 0;simp only[zI]at y1 y2 u2;have HA2:=qA (aEJ hS2.hm hS2.lt);have HS2:=qA (zH hS2 hstep);clear hm2 hf2 hn2 hS2 hstep HW x1 x2;go_wp2_with fail
  refine HA2.out.mono ?_;rintro _ w3 ⟨rfl,hf3⟩;have HS3:=qA (zH (HS2.out.1.keep hf3) HS2.out.2);clear HS2 HA2 hf3 y1 y2 z2 u2;go_wp2
  go_roundw
  case rel=>exact⟨_,_,_,q,rfl,HS3⟩
  case measure=>
   rcases aSZ (gD e p q) hqn with hb|⟨hb,hb2⟩
   {
   rw[show pQ n (gD e p q) q=-1 by unfold pQ;rw[qD hb],aNL,xS];omega}
   {
   rw[show pQ n (gD e p q) q=(blw n (gD e p q) q:Nat) by unfold pQ;rw[qC (by omega)],xS,xS];omega}}
  {
  have hv:pQ n e p=-1:=by unfold pQ;rw[qD (Classical.not_not.1 hc)]
  have hdone:=aNF HS.out.2 (Classical.not_not.1 hc);have HD:=qA hdone;clear hdone;rw[hv];clear hv;go_wp2
  go_end0
  exact⟨rfl,e,pl,bs,p,HS.out.1,HD.out⟩}
theorem aTA(h:Hp n e)(hp:p<n):DnI n e p:=
  ⟨fun k h0 hk _=>h k h0 hk,fun h0 c hc0 hc hcp=>by
 have h1:=h c hc0 hc;rw[hcp]at h1;exact nO h1 (h p h0 hp)⟩
theorem aJM(h:Sft W w ph slots n e0 e pl v gp cp bs0 bs b1 b2 p)(hp0:p=0):
    Calls Tryz.prog 230 #[.func (.func 231) #[aS ph] #[],aS b2,aS b1] w fun r w' =>r=.returned (.tuple #[])/\Fr [] w w' :=by
 have x1:=h.c1.cell 0;have x2:=h.c2.cell 0;simp only[zI]at x1 x2;have hA:=xR h.hm h.lt;have e1:oO e p=-1:=by unfold oO;rw[qC (by omega)]
 rw[e1]at hA;have HA:=qA hA;clear h hA e1 hp0;go_enter Tryz.func230,Tryz.ntmps230
 go_wp2_with fail
 refine HA.out.mono ?_;rintro _ w1 ⟨rfl,hf1⟩;have HF:=qA hf1;clear HA hf1 x1 x2;go_wp2
 go_loopw [4] (fun sq wr=>sq=.int .i64 (-1)/\wr=w1) (fun _ _=>0)
 case atStart=>exact⟨rfl,rfl⟩
 case round=>
  obtain⟨rfl,rfl⟩:=hrel;go_wp2
  go_end0
  exact⟨rfl,HF.out⟩
theorem aAD(h:HM w ph slots n e pl v gp cp bs)(hk:kC slots n e pl){p:Nat}(hp:p<n)(hi:UpI n e p∨(p=0/\DnI n e 0)):
    Calls Tryz.prog 210 #[aS ph,.int .i64 p] w fun r w' =>r=.returned (.tuple #[])/\∃e' pl' bs', HM w' ph slots n e' pl' v gp cp bs' /\ kC slots n e' pl' /\ Hp n e' /\ (∀y,(∃x,x<n/\e' x=y)↔∃x,x<n/\e x=y) /\
      Fr (hB slots ph v gp bs) w w' /\ ∀b∈hB slots ph v gp bs', b∈hB slots ph v gp bs∨w.heap.size<=b:=by
 have hlt:=h.lt;have k1:=Blk.new w [aS ph] 149;have k2:=Blk.new (w.alloc (.cells [aS ph].toArray 149)) [.int .i64 p] 3;have k1' :=k1.alloc (.cells [.int .i64 p].toArray 3);simp only[World.size_alloc]at k2;have hF0:Fr [] w ((w.alloc (.cells [aS ph].toArray 149)).alloc (.cells [.int .i64 p].toArray 3)):=((Fr.refl _ _).alloc _).alloc _;have hS:Sft w ((w.alloc (.cells [aS ph].toArray 149)).alloc (.cells [.int .i64 p].toArray 3)) ph slots n e e pl v gp cp bs bs w.heap.size (w.heap.size+1) p:=
   ⟨h.fr0 hF0,hk,fun y=>Iff.rfl,k1', k2,fun hm=>by have:=hlt _ hm;omega,fun hm=>by have:=hlt _ hm;omega,by omega,hF0.mono (by simp),fun b hb=>.inl hb,hp⟩
 have x1:=k1'.cell 0;simp only[zI]at x1;have HS:=qA hS;have HI:=qA hi;clear hS hi h hk k1 k2 k1' hF0 hlt;have hsz:((w.alloc (.cells [aS ph].toArray 149)).alloc (.cells [.int .i64 p].toArray 3)).heap.size=w.heap.size+2:=by simp
 have Hsz:=qA hsz;clear hsz;go_enter Tryz.func210,Tryz.ntmps210
 generalize hw0:((w.alloc (.cells #[aS ph] 149)).alloc (.cells #[.int .i64 (p:Int)] 3))=w0 at *;have HW0:=qA hw0;clear hw0;rcases HI.out with hu|⟨hp0,hd⟩
 {
 have HU:=qA (aNM HS.out hu);clear hu HI;go_wp2_with fail
 rw[HW0.out];refine HU.out.mono ?_;rintro _ w1 ⟨rfl,e1,pl1,bs1,p1,h1,g1⟩;have x1:=h1.c1.cell 0;simp only[zI]at x1;have HD:=qA (aEK h1 (aTA g1 h1.lt));clear h1 g1 HU HS;go_wp2_with fail
 refine HD.out.mono ?_;rintro _ w2 ⟨rfl,e2,pl2,bs2,p2,h2,g2⟩;have H2:=qA (zH h2 g2);clear h2 g2 HD;go_wp2
 go_end0
 exact⟨rfl,e2,pl2,bs2,H2.out.1.hm,H2.out.1.ok,H2.out.2,H2.out.1.mem,H2.out.1.fr.mono (fun b hb=>by
   rcases qB.1 hb with rfl|hb
   · exact .inr (by omega)
   · exact .inl hb),H2.out.1.new⟩}
 {
 have HU:=qA (aJM HS.out hp0);rw[<-hp0]at hd;have Hd:=qA hd;clear HI hp0 hd;go_wp2_with fail
 rw[HW0.out];refine HU.out.mono ?_;rintro _ w1 ⟨rfl,f1⟩;have h1:=HS.out.keep f1;have x1:=h1.c1.cell 0;simp only[zI]at x1;have HD:=qA (aEK h1 Hd.out);clear h1 HU HS f1;go_wp2_with fail
 refine HD.out.mono ?_;rintro _ w2 ⟨rfl,e2,pl2,bs2,p2,h2,g2⟩;have H2:=qA (zH h2 g2);clear h2 g2 HD;go_wp2
 go_end0
 exact⟨rfl,e2,pl2,bs2,H2.out.1.hm,H2.out.1.ok,H2.out.2,H2.out.1.mem,H2.out.1.fr.mono (fun b hb=>by
   rcases qB.1 hb with rfl|hb
   · exact .inr (by omega)
   · exact .inl hb),H2.out.1.new⟩}
end
def dH(w:World)(ph slots:Nat)(Q:Nat->Option Int)(n:Nat)(l:List Nat):Prop:=
  ∃e pl v gp cp bs,HM w ph slots n e pl v gp cp bs/\kC slots n e pl/\Hp n e/\(∀i k,Q i=some k↔∃p,p<n/\e p=(i,k))/\l=hB slots ph v gp bs
def mQ(Q:Nat->Option Int)(i:Nat)(k:Option Int):Nat->Option Int:=fun x=>if x=i then k else Q x
theorem jH(Q:Nat->Option Int)(i:Nat)(k:Option Int):mQ Q i k i=k:=by simp[mQ]
theorem fT{Q:Nat->Option Int}{i x:Nat}{k:Option Int}(h:x≠i):mQ Q i k x=Q x:=by simp[mQ,h]
section
variable {w w' :World} {ph slots n:Nat} {Q:Nat->Option Int} {l S:List Nat}
theorem dH.lt(h:dH w ph slots Q n l):∀b∈l,b<w.heap.size:=by
 obtain⟨e,pl,v,gp,cp,bs,h1,_,_,_,rfl⟩:=h;exact h1.lt
theorem dH.fr(h:dH w ph slots Q n l)(hf:Fr S w w')(hs:∀b∈l,b∉S):dH w' ph slots Q n l:=by
 obtain⟨e,pl,v,gp,cp,bs,h1,h2,h3,h4,rfl⟩:=h;exact⟨e,pl,v,gp,cp,bs,h1.fr hf hs,h2,h3,h4,rfl⟩
theorem dH.le(h:dH w ph slots Q n l):n<=slots/\slots<=65536:=by
 obtain⟨e,pl,v,gp,cp,bs,h1,h2,_⟩:=h;exact⟨h2.le,h1.le⟩
end
section
variable {w w' :World} {ph slots n:Nat} {e:Nat->Nat×Int} {pl:Nat->Nat} {v:Value} {gp cp:Nat} {bs:Nat->Option Nat}
theorem HM.push(h:HM w ph slots n e pl v gp cp bs){w4:World}{g' cap' :Nat}(box:Obj)(x:Nat×Int)(hn:n+1<=65536)
    (hown:w4.ownsRow 0 223 2 (.slice (some ⟨g', 0,none⟩) (n+1) cap') (n+1) (gW n e++[.int .i64 x.1,.int .i64 x.2]))
    (hgrow:(w.alloc box).grownBy w4 v.ownBlock) (hg:v.ownBlock=some g' ∨ (w.alloc box).heap.size<=g'):
    HM (w4.setCell ⟨ph,2,none⟩ (.slice (some ⟨g', 0,none⟩) (n+1) cap')) ph slots (n+1) (lG e n x) pl (.slice (some ⟨g', 0,none⟩) (n+1) cap') gp cp bs /\
      Fr (hB slots ph v gp bs) w (w4.setCell ⟨ph,2,none⟩ (.slice (some ⟨g', 0,none⟩) (n+1) cap'))/\∀q∈hB slots ph (.slice (some ⟨g', 0,none⟩) (n+1) cap') gp bs,q∈hB slots ph v gp bs∨w.heap.size<=q:=by
 have hlt:=h.lt;simp only[World.size_alloc]at hg;have hF4:Fr v.ownBlock.toList w w4:=((Fr.refl _ _).alloc _).grown hgrow (fun q e=>.inl (by simp[e]));have e1:(Value.slice (some ⟨g', 0,none⟩) (n+1) cap').ownBlock=some g' :=rfl;have hne:∀b∈hB slots ph v gp bs,v.ownBlock≠some b->g' ≠ b:=by {
 rintro b hb hv rfl;rcases hg with e|e
 · exact hv e
 · have:=hlt _ hb;omega};have hg1:=hne ph (dM.2 (.inl rfl)) h.ap2;have hg2:=hne gp (dM.2 (.inr (.inl rfl))) h.ap3;rw[aGH]at hown;refine⟨⟨(hF4.blk h.hd (fun hm=>h.ap2 (by simpa using hm))).set 2 _,bN hown _ _ (by rw[e1];simpa using hg1),(hF4.blk h.dir (fun hm=>h.ap3 (by simpa using hm))).other _ _ (fun e=>h.ap1 e.symm),fun k b hk hb=>?_,h.none_,h.le,hn,h.pb,h.ap1,by rw[e1];simpa using hg1,by rw[e1];simpa using hg2,fun k b hk hb=>?_,h.ap5⟩,?_,?_⟩
 {
 have a4:=h.ap4 k b hk hb;exact(hF4.blk (h.some_ k b hk hb) (fun hm=>a4.2.2 (by simpa using hm))).other _ _ a4.1}
 {
 have a4:=h.ap4 k b hk hb;refine⟨a4.1,a4.2.1,?_⟩;rw[e1];simpa using hne b (dM.2 (.inr (.inr (.inr ⟨k,hk,hb⟩)))) a4.2.2}
 {
 refine(hF4.mono (fun q hq=>.inl ?_)).setCell _ _ (.inl (by simp[hB]));simp only[Option.mem_toList]at hq;exact dM.2 (.inr (.inr (.inl hq)))}
 {
 intro q hq;rcases dM.1 hq with hq|hq|hq|hq
 · exact .inl (dM.2 (.inl hq))
 · exact .inl (dM.2 (.inr (.inl hq)))
 {
 rw[e1]at hq;cases hq;rcases hg with e|e
 · exact .inl (dM.2 (.inr (.inr (.inl e))))
 · exact .inr (by omega)}
 · exact .inl (dM.2 (.inr (.inr (.inr hq))))}
def entZ:Value:=.agg #[.int .i64 0,.int .i64 0]
theorem Tryz.infoEnt:(Tryz.prog.info? 223).map (fun i=>(i.zero,i.size,i.bytes))=some (some entZ,2,16):=by kernel_rfl
end
theorem aEL{w:World}{ph slots n:Nat}{Q:Nat->Option Int}{l:List Nat}(h:dH w ph slots Q n l){i:Nat}(hi:i<slots)(hQ:Q i=none)(k:Int):
    Calls Tryz.prog 177 #[aS ph,.int .i64 i,.int .i64 k] w fun r w' =>r=.returned (.int .i64 0)/\∃l', dH w' ph slots (mQ Q i (some k)) (n+1) l' /\ Fr l w w' /\ ∀b∈l', b∈l∨w.heap.size<=b:=by
 obtain⟨e,pl,v,gp,cp,bs,hm,hk,hp,hq,rfl⟩:=h;have hpl:pl i=0:=by {
 apply qP;intro h0;obtain⟨p,hpn,hpe⟩:=hk.inv i h0;have:=(hq i (e p).2).2 ⟨p,hpn,by rw[<-hpe]⟩;rw[hQ]at this;cases this};have hk1:=hk.push (k:=k) hi hpl;have hn1:=hk1.le;have hle:=hm.le;have HV:=qA (lH hm);have HH:=qA (aJL hm hi);have hP:=aEG hm hi;rw[hpl]at hP;have HP:=qA hP;have c2:=hm.hd.cell 2;simp only[zI,zJ]at c2;obtain⟨a,cap,rfl⟩:=aT hm.items;have HM0:=qA hm;have HK:=qA (zH hk1 (aNE hp (i,k)));have HQ:=qA (zH hq hQ);have t1:(((0:Nat):Int)-1 != -1)=false:=by decide
 have t2:((0:Int)-1 != -1)=false:=by decide
 clear hm hk hp hq hQ hpl hP hk1;go_enter Tryz.func177,Tryz.ntmps177
 go_wp2_with fail
 refine HV.out.mono ?_;rintro _ w ⟨rfl,rfl⟩;go_wp2_with fail
 refine HH.out.mono ?_;rintro _ w ⟨rfl,rfl⟩;go_wp2_with fail
 refine HP.out.mono ?_;rintro _ w ⟨rfl,rfl⟩;go_wp2_with (at_builtin;refine kW rfl _ _ 239 rfl 223 entZ 2 16 Tryz.underlying239 Tryz.infoEnt rfl (by decide) (.slice a n cap) n _ rfl (HM0.out.items.alloc _) w.heap.size 223 [.int .i64 i,.int .i64 k] rfl (Blk.new w _ _) rfl (by simp[Value.oneCell']) (by omega) (by decide) ?_;intro g' cap' w4 hown4 hgrow4 hg4;obtain⟨hR4,hF4,hq4⟩:=HM.push HM0.out _ (i,k) (by omega) hown4 hgrow4 hg4;have hk4:=(((Fr.refl _ _).alloc _).grown (S:=(Value.slice a n cap).ownBlock.toList) hgrow4 (fun q e=>.inl (by simp[e]))).blk HM0.out.hd (fun hm=>HM0.out.ap2 (by simpa using hm));have z4:=hk4.frozen 2;have y4:=hk4.cell 2;simp only[zI,zJ]at y4)
 have H4:=qA (zH hR4 (zH hF4 hq4));clear hR4 hF4 hq4 hown4 hgrow4 hg4 hk4 c2;generalize hw5:w4.setCell ⟨ph,2,none⟩ (.slice (some ⟨g', 0,none⟩) (n+1) cap')=w5 at *;have HW5:=qA hw5;clear hw5;have HPu:=qA (aEH H4.out.1 hi (x:=n+1) (by omega) (n:Int) (by omega));refine HPu.out.mono ?_;rintro _ w6 ⟨rfl,bs6,h6,f6,s6⟩;have hs0:=H4.out.2.1.size;have HF6:=qA (H4.out.2.1.trans f6 H4.out.2.2);have HN6:Hid (∀b∈hB slots ph (.slice (some ⟨g', 0,none⟩) (n+1) cap') gp bs6,b∈hB slots ph (.slice a n cap) gp bs∨w.heap.size<=b):=qA (fun b hb=>(s6 b hb).elim (H4.out.2.2 b) (fun e=>.inr (by omega)));have HSe:=qA (aAD h6 HK.out.1 (p:=n) (by omega) (.inl HK.out.2));clear h6 f6 s6 HPu;go_wp2_with fail
 refine HSe.out.mono ?_;rintro _ w7 ⟨rfl,e7,pl7,bs7,h7,k7,p7,m7,f7,s7⟩;have hs6:=HF6.out.size;have H7:=qA (zH h7 (zH k7 (zH p7 m7)));have HF7:=qA (zH (HF6.out.trans f7 HN6.out) (show ∀b∈hB slots ph (.slice (some ⟨g', 0,none⟩) (n+1) cap') gp bs7,b∈hB slots ph (.slice a n cap) gp bs∨w.heap.size<=b from fun b hb=>(s7 b hb).elim (HN6.out b) (fun e=>.inr (by omega))));clear h7 k7 p7 m7 f7 s7 HSe;go_wp2
 go_ret;refine⟨rfl,_,⟨e7,pl7,_,gp,cp,bs7,H7.out.1,H7.out.2.1,H7.out.2.2.1,fun j x=>?_,rfl⟩,HF7.out.1,HF7.out.2⟩;rw[H7.out.2.2.2];constructor
 {
 intro hx;by_cases e1:j=i
 {
 subst e1;rw[jH]at hx;cases hx;exact⟨n,by omega,fA _ _ _⟩}
 {
 rw[fT e1]at hx;obtain⟨p,hp,hpe⟩:=(HQ.out.1 j x).1 hx;exact⟨p,by omega,by rw[dG (by omega)];exact hpe⟩}}
 {
 rintro⟨p,hp,hpe⟩;by_cases e1:p=n
 {
 subst e1;rw[fA]at hpe;simp only[zD]at hpe;obtain⟨rfl,rfl⟩:=hpe;exact jH _ _ _}
 {
 rw[dG e1]at hpe;have h1:=(HQ.out.1 j x).2 ⟨p,by omega,hpe⟩;rw[fT (fun e2=>by rw[e2,HQ.out.2]at h1;cases h1)];exact h1}}
theorem aAE{w:World}{base:Nat}{e:TypeId}{size:Nat}{g n m cap:Nat}{xs ys:List Value}(h:w.ownsRow base e size (.slice (some ⟨g,0,none⟩) (n+m) cap) (n+m) (xs++ys))(hx:xs.length=n*size):
    w.ownsRow base e size (.slice (some ⟨g,0,none⟩) n cap) n xs:=by
 obtain⟨h1,h2⟩:=h;rcases h2 with⟨h2,_⟩|⟨g', cap', cur,e1,hb,hh,hn,hm,hsz,hxs⟩
 · cases h2
 {
 simp only[qO,qI,Addr.mk.injEq,and_true,true_and]at e1;obtain⟨rfl,rfl⟩:=e1;refine⟨hx,.inr ⟨g,cap,cur,rfl,hb,hh,by omega,hm,hsz,?_⟩⟩;have:=congrArg (List.take (n*size)) hxs;have e2:(xs++ys).take (n*size)=xs:=by rw[<-hx,List.take_left'];rfl
 rw[List.take_take,Nat.min_eq_left (Nat.mul_le_mul_right _ (by omega)),e2]at this;exact this}
section
variable {w w' :World} {ph slots n:Nat} {e:Nat->Nat×Int} {pl:Nat->Nat} {v:Value} {gp cp:Nat} {bs:Nat->Option Nat}
theorem aJN(h:HM w ph slots 0 e pl v gp cp bs):Calls Tryz.prog 196 #[aS ph] w fun r w' =>r=.returned (.tuple #[.agg #[.int .i64 0,.int .i64 0],.bool false])/\Fr [] w w' :=by
 have hf0:Fr [] w (w.alloc (.cells #[.int .i64 0,.int .i64 0] 223)):=(Fr.refl _ _).alloc _;have HV:=qA (lH (h.fr0 hf0));obtain⟨a,cap,rfl⟩:=aT h.items;have c2:=(h.fr0 hf0).hd.cell 2;simp only[zI,zJ]at c2;have HF:=qA hf0;clear h hf0;go_enter Tryz.func196,Tryz.ntmps196
 go_wp2_with fail
 refine HV.out.mono ?_;rintro _ w1 ⟨rfl,rfl⟩;go_wp2
 refine bodyPost_ret (v:=.tuple #[.agg #[.int .i64 0,.int .i64 0],.bool false]) (by simp[results,Tryz.results196,go_sem]) rfl ⟨rfl,(Fr.refl _ _).alloc _⟩
theorem aEM(h:HM w ph slots n e pl v gp cp bs)(hn:0<n):Calls Tryz.prog 196 #[aS ph] w fun r w' =>r=.returned (.tuple #[.agg #[.int .i64 ((e 0).1:Nat),.int .i64 (e 0).2],.bool true])/\Fr [] w w' :=by
 have hf0:Fr [] w (w.alloc (.cells #[.int .i64 0,.int .i64 0] 223)):=(Fr.refl _ _).alloc _;have HV:=qA (lH (h.fr0 hf0));obtain⟨g,cap,rfl,_,_,q0,q1,_⟩:=gF (h.fr0 hf0).items hn;have c2:=(h.fr0 hf0).hd.cell 2;simp only[zI,zJ]at c2;simp only[Nat.zero_mul,Nat.zero_add]at q0 q1;have t1:((n:Int) == 0)=false:=by simp;omega
 have t2:(0:Int)<n:=by omega
 have HF:=qA hf0;clear h hf0;generalize (e 0).1=x at *;generalize (e 0).2=y at *;clear hn;go_enter Tryz.func196,Tryz.ntmps196
 go_wp2_with fail
 refine HV.out.mono ?_;rintro _ w1 ⟨rfl,rfl⟩;go_wp2
 exact bodyPost_ret (v:=.tuple #[.agg #[.int .i64 x,.int .i64 y],.bool true]) (by simp[results,Tryz.results196,go_sem]) rfl ⟨rfl,(Fr.refl _ _).alloc _⟩
theorem HM.cut{g cap:Nat}(h:HM w ph slots (n+1) e pl (.slice (some ⟨g,0,none⟩) (n+1) cap) gp cp bs):
    HM (w.setCell ⟨ph,2,none⟩ (.slice (some ⟨g,0,none⟩) n cap)) ph slots n e pl (.slice (some ⟨g,0,none⟩) n cap) gp cp bs:=by
 have a2:=h.ap2;have a3:=h.ap3;simp only[Value.ownBlock]at a2 a3;have h1:=h.items;rw[entC_succ']at h1;refine⟨h.hd.set 2 _,bN (aAE h1 (jG n e)) _ _ a2,h.dir.other _ _ (fun e=>h.ap1 e.symm),fun k b hk hb=>(h.some_ k b hk hb).other _ _ (h.ap4 k b hk hb).1,h.none_,h.le,by have:=h.nb;omega,h.pb,h.ap1,a2,a3,h.ap4,h.ap5⟩
theorem aQJ(h:HM w ph slots (n+1) e pl v gp cp bs)(hk:kC slots (n+1) e pl)(hp:Hp (n+1) e):
    Calls Tryz.prog 197 #[aS ph,.int .i64 0] w fun r w' =>r=.returned (.tuple #[])/\∃e' pl' v' bs', HM w' ph slots n e' pl' v' gp cp bs' /\ kC slots n e' pl' /\ Hp n e' /\ (∀y,(∃x,x<n/\e' x=y)↔∃x,x<n+1/\x≠0/\e x=y) /\
      Fr (hB slots ph v gp bs) w w' /\ ∀b∈hB slots ph v' gp bs', b∈hB slots ph v gp bs∨w.heap.size<=b:=by
 have hnb:=h.nb;have hlt:=hk.lt;have c2:=h.hd.cell 2;simp only[zI,zJ]at c2;obtain⟨g,cap,rfl,hcap,_,_,_,_⟩:=gF h.items (show 0<n+1 by omega);have hks:=hk.swap (p:=0) (q:=n) (by omega) (by omega);have hkp:=hks.pop;have hmem:∀y,(∃x,x<n/\gD e 0 n x=y)↔∃x,x<n+1/\x≠0/\e x=y:=by {
 intro y;constructor
 {
 rintro⟨x,hx,rfl⟩;by_cases h0:x=0
 · subst h0;exact⟨n,by omega,by omega,(eY e 0 n).symm⟩
 · exact⟨x,by omega,h0,(eD h0 (by omega)).symm⟩}
 {
 rintro⟨x,hx,h0,rfl⟩;by_cases h1:x=n
 · subst h1;exact⟨0,by omega,eY e 0 x⟩
 · exact⟨x,by omega,eD h0 h1⟩}};have hdn:=aQI hp;have hidx:(gD e 0 n n).1<slots:=hks.lt n (by omega);have HS:=qA (aCN h (p:=0) (q:=n) (by omega) (by omega) hlt);have HK:=qA (zH hkp (zH hmem (zH hdn hidx)));clear h hk hp hlt hks hkp hmem hdn hidx;go_enter Tryz.func197,Tryz.ntmps197
 go_wp2_with fail
 refine HS.out.mono ?_;rintro _ w1 ⟨rfl,bs1,h1,f1,s1⟩;obtain⟨g', cap', e1,_,_,q0,_,_⟩:=gF h1.items (show n<n+1 by omega);simp only[qO,qI,Addr.mk.injEq,and_true,true_and]at e1;obtain⟨rfl,rfl⟩:=e1;have d2:=h1.hd.cell 2;simp only[zI,zJ]at d2;have HP:=qA (aEH h1 HK.out.2.2.2 (x:=0) (by omega) (-1) (by decide));have HF1:=qA (zH f1 s1);clear f1 s1 h1 HS c2;generalize hix:(gD e 0 n n).1=ix at *;have Hix:=qA hix;clear hix;have hn1:(n:Int)<((n+1:Nat):Int):=by omega
 go_wp2_with fail
 refine HP.out.mono ?_;rintro _ w2 ⟨rfl,bs2,h2,f2,s2⟩;have hs1:=HF1.out.1.size;have HF2:=qA (HF1.out.1.trans f2 HF1.out.2);have HN2:Hid (∀b∈hB slots ph (.slice (some ⟨g,0,none⟩) (n+1) cap) gp bs2,b∈hB slots ph (.slice (some ⟨g,0,none⟩) (n+1) cap) gp bs∨w.heap.size<=b):=qA (fun b hb=>(s2 b hb).elim (HF1.out.2 b) (fun e=>.inr (by omega)));have e2:=h2.hd.cell 2;have z2:=h2.hd.frozen 2;simp only[zI,zJ]at e2;have h3:=h2.cut;have hF3:Fr (hB slots ph (.slice (some ⟨g,0,none⟩) (n+1) cap) gp bs) w (w2.setCell ⟨ph,2,none⟩ (.slice (some ⟨g,0,none⟩) n cap)):=HF2.out.setCell _ _ (.inl (by simp[hB]));have H3:=qA (zH h3 hF3);clear h3 hF3 h2 f2 s2 HP d2 q0;have hcap2:(n:Int)<=cap:=by omega
 by_cases h0:0<n
 {
 have t1:decide (0<n)=true:=qG h0;have HSe:=qA (aAD H3.out.1 HK.out.1 (p:=0) h0 (.inr ⟨rfl,HK.out.2.2.1⟩));go_wp2_with fail
 refine HSe.out.mono ?_;rintro _ w4 ⟨rfl,e4,pl4,bs4,h4,k4,p4,m4,f4,s4⟩;have hs3:=H3.out.2.size;have H4:=qA (zH h4 (zH k4 (zH p4 m4)));have HF4:=qA (zH f4 s4);clear h4 k4 p4 m4 f4 s4 HSe;go_wp2
 go_end0
 refine⟨rfl,e4,pl4,_,bs4,H4.out.1,H4.out.2.1,H4.out.2.2.1,fun y=>(H4.out.2.2.2 y).trans (HK.out.2.1 y),H3.out.2.trans HF4.out.1 (fun b hb=>HN2.out b hb),fun b hb=>?_⟩;rcases HF4.out.2 b hb with e|e
 · exact HN2.out b e
 · exact .inr (by omega)}
 {
 have t1:decide (0<n)=false:=qF h0;have hn0:n=0:=by omega
 have Hn0:=qA hn0;clear hn0 h0;go_wp2
 go_end0
 exact⟨rfl,gD e 0 n,_,_,bs2,H3.out.1,HK.out.1,fun k hk0 hk=>by have:=Hn0.out;omega,HK.out.2.1,H3.out.2,HN2.out⟩}
end
theorem aAF{w:World}{ph slots n:Nat}{Q:Nat->Option Int}{l:List Nat}(h:dH w ph slots Q n l):
    Calls Tryz.prog 196 #[aS ph] w fun r w' =>Fr [] w w' /\ ((n=0/\r=.returned (.tuple #[.agg #[.int .i64 0,.int .i64 0],.bool false])) ∨
      (0<n/\∃i k,Q i=some k/\(∀j x,Q j=some x->¬elt (j,x) (i,k))/\r=.returned (.tuple #[.agg #[.int .i64 (i:Nat),.int .i64 k],.bool true]))):=by
 obtain⟨e,pl,v,gp,cp,bs,hm,hk,hp,hq,rfl⟩:=h;cases n with
 | zero=>{
 refine(aJN hm).mono ?_;rintro r w' ⟨rfl,hf⟩;exact⟨hf,.inl ⟨rfl,rfl⟩⟩}
 | succ n=>{
 refine(aEM hm (by omega)).mono ?_;rintro r w' ⟨rfl,hf⟩;refine⟨hf,.inr ⟨by omega,(e 0).1,(e 0).2,(hq _ _).2 ⟨0,by omega,rfl⟩,fun j x hx=>?_,rfl⟩⟩;obtain⟨p,hpn,hpe⟩:=(hq j x).1 hx;rw[<-hpe];exact aJH hp p hpn}
theorem aPF{w:World}{ph slots n:Nat}{Q:Nat->Option Int}{l:List Nat}(h:dH w ph slots Q n l):
    Calls Tryz.prog 150 #[aS ph] w fun r w' =>(n=0/\r=.returned (.tuple #[.agg #[.int .i64 0,.int .i64 0],.bool false])/\Fr [] w w') ∨
      (0<n/\∃i k,Q i=some k/\(∀j x,Q j=some x->¬elt (j,x) (i,k))/\r=.returned (.tuple #[.agg #[.int .i64 (i:Nat),.int .i64 k],.bool true])/\∃l', dH w' ph slots (mQ Q i none) (n-1) l' /\ Fr l w w' /\ ∀b∈l', b∈l∨w.heap.size<=b):=by
 obtain⟨e,pl,v,gp,cp,bs,hm,hk,hp,hq,rfl⟩:=h;have hf0:Fr [] w (w.alloc (.cells #[.int .i64 0,.int .i64 0] 223)):=(Fr.refl _ _).alloc _;have hbx:=Blk.new w [.int .i64 0,.int .i64 0] 223;have HBX:=qA hbx;clear hbx;cases n with
 | zero=>{
 have HMn:=qA (aJN (hm.fr0 hf0));clear hm hk hp hq hf0;go_enter Tryz.func150,Tryz.ntmps150
 go_wp2_with fail
 refine HMn.out.mono ?_;rintro _ w1 ⟨rfl,f1⟩;have k1:=f1.blk HBX.out (by simp);have k2:=k1.alloc (.cells #[.int .i64 0,.int .i64 0] 223);have x0:=k2.cell 0;have x1:=k2.cell 1;have z0:=k2.frozen 0;have z1:=k2.frozen 1;have x0' :=k1.cell 0;have x1' :=k1.cell 1;have z0' :=k1.frozen 0;have z1' :=k1.frozen 1;simp only[zI,zJ]at x0 x1 x0' x1';have hsz:w.heap.size<w1.heap.size:=k1.lt;have HF1:=qA f1;have HK1:=qA k1;clear f1 k1 k2;go_wp2
 have hK:=((HK1.out.set 0 (.int .i64 0)).set 1 (.int .i64 0)).alloc (.cells #[.int .i64 0,.int .i64 0] 223);have r0:=hK.cell 0;have r1:=hK.cell 1;simp only[qX,qT,zI,zJ]at r0 r1;refine bodyPost_ret (v:=.tuple #[.agg #[.int .i64 0,.int .i64 0],.bool false]) (by simp[results,Tryz.results150,go_sem,r0,r1]) rfl ?_;exact .inl ⟨trivial,rfl,(((((Fr.refl [] w).alloc _).trans' HF1.out).setCell _ _ (.inr (qJ _))).setCell _ _ (.inr (qJ _))).alloc _⟩}
 | succ n=>{
 have HMn:=qA (aEM (hm.fr0 hf0) (by omega));have HD:=qA (fun(W:World) (hf:Fr [] w W)=>aQJ (hm.fr0 hf) hk hp);have HQ:=qA (zH hk (zH hp hq));have hlt:=hm.lt;have HLt:=qA hlt;clear hlt;clear hm hk hp hq hf0;generalize hi:(e 0).1=i at *;generalize hkk:(e 0).2=kk at *;have HI:=qA (zH hi hkk);clear hi hkk;go_enter Tryz.func150,Tryz.ntmps150
 go_wp2_with fail
 refine HMn.out.mono ?_;rintro _ w1 ⟨rfl,f1⟩;have k1:=f1.blk HBX.out (by simp);have k2:=k1.alloc (.cells #[.int .i64 i,.int .i64 kk] 223);have hsz:w.heap.size<w1.heap.size:=k1.lt;have hF1:Fr [] w (w1.alloc (.cells #[.int .i64 i,.int .i64 kk] 223)):=(((Fr.refl [] w).alloc _).trans' f1).alloc _;have HD2:=qA (HD.out _ hF1);have b2:=Blk.new w1 [.int .i64 i,.int .i64 kk] 223;have HB:=qA (zH k2 (zH b2 hF1));clear f1 k1 k2 b2 hF1 HD HMn;go_wp2_with fail
 refine HD2.out.mono ?_;rintro _ w3 ⟨rfl,e3,pl3,v3,bs3,h3,k3,p3,m3,f3,s3⟩;have j1:=f3.blk HB.out.1 (fun hm=>by have:=HLt.out _ hm;omega);have j2:=f3.blk HB.out.2.1 (fun hm=>by have:=HLt.out _ hm;omega);have x0:=j1.cell 0;have x1:=j1.cell 1;have y0:=j2.cell 0;have y1:=j2.cell 1;have z0:=j1.frozen 0;have z1:=j1.frozen 1;simp only[zI,zJ]at x0 x1 y0 y1;have hs1:=HB.out.2.2.size;have H3:=qA (zH h3 (zH k3 (zH p3 m3)));have HF3:=qA (zH ((HB.out.2.2.mono (S' :=hB slots ph v gp bs) (by simp)).trans' f3) (show ∀b∈hB slots ph v3 gp bs3,b∈hB slots ph v gp bs∨w.heap.size+1<b from fun b hb=>(s3 b hb).imp (fun h=>h) (fun h=>by simp at h;omega)));have HJ1:=qA j1;clear h3 k3 p3 m3 f3 s3 j1 j2 HD2;go_wp2
 have hK:=((HJ1.out.set 0 (.int .i64 (i:Int))).set 1 (.int .i64 kk));have r0:=hK.cell 0;have r1:=hK.cell 1;simp only[qX,qT,zI,zJ]at r0 r1;refine bodyPost_ret (v:=.tuple #[.agg #[.int .i64 i,.int .i64 kk],.bool true]) (by simp[results,Tryz.results150,go_sem,r0,r1]) rfl ?_;have hset:Fr [w.heap.size] w3 ((w3.setCell ⟨w.heap.size,0,none⟩ (.int .i64 (i:Int))).setCell ⟨w.heap.size,1,none⟩ (.int .i64 kk)):=((Fr.refl _ _).setCell _ _ (.inl (by simp))).setCell _ _ (.inl (by simp));have hni:e 0=(i,kk):=by rw[<-HI.out.1,<-HI.out.2]
 refine .inr ⟨by omega,i,kk,(HQ.out.2.2 i kk).2 ⟨0,by omega,hni⟩,fun j x hx=>?_,rfl,_,⟨e3,pl3,v3,gp,cp,bs3,H3.out.1.fr hset (fun b hb hm=>?_),H3.out.2.1,H3.out.2.2.1,fun j x=>?_,rfl⟩,HF3.out.1.trans hset (fun b hb=>.inr (by simp at hb;omega)),fun b hb=>(HF3.out.2 b hb).imp (fun h=>h) (fun h=>by omega)⟩
 {
 obtain⟨p,hpn,hpe⟩:=(HQ.out.2.2 j x).1 hx;rw[<-hpe,<-hni];exact aJH HQ.out.2.1 p hpn}
 {
 simp at hm;subst hm;rcases HF3.out.2 _ hb with e|e
 · have:=HLt.out _ e;omega
 · omega}
 {
 show mQ Q i none j=some x↔∃p,p<n+1-1/\e3 p=(j,x)
 rw[Nat.add_sub_cancel,H3.out.2.2.2];constructor
 {
 intro hx;have hji:j≠i:=by rintro rfl;rw[jH]at hx;cases hx
 rw[fT hji]at hx;obtain⟨p,hpn,hpe⟩:=(HQ.out.2.2 j x).1 hx;exact⟨p,hpn,by rintro rfl;rw[hni]at hpe;exact hji (by simpa using (congrArg Prod.fst hpe).symm),hpe⟩}
 {
 rintro⟨p,hpn,hp0,hpe⟩;have hji:j≠i:=by {
 rintro rfl;exact hp0 (HQ.out.1.inj hpn (by omega:0<n+1) (by rw[hpe,hni]))};rw[fT hji];exact(HQ.out.2.2 j x).2 ⟨p,hpn,hpe⟩}}}
theorem aGI(m:Nat):madeCells (Value.pointer none).cells m=((List.range m).map fun k=>fI ((fun _=>none:Nat->Option Nat) k)).toArray:=by
 apply Array.ext
 · simp[madeCells]
 {
 intro i h1 h2;simp[madeCells,Value.cells,Nat.mod_one,fI]}
theorem nA(m:Nat)(w:World)(hn:m<=1048576):(Instr.makeSlice 240 (.int .i64 m) (.int .i64 m)).run Tryz.prog w=.ok (.slice (some ⟨w.heap.size,0,none⟩) m m) (w.alloc (.cells ((List.range m).map fun k=>fI ((fun _=>none:Nat->Option Nat) k)).toArray 244)):=by
 obtain⟨i0,hi,hz0,hz1,hz2⟩:=info_parts (show(Tryz.prog.info? 244).map (fun i=>(i.zero,i.size,i.bytes))=some (some (.pointer none),1,8) by kernel_rfl);have h:=run_make (P:=Tryz.prog) w 240 244 i0 (.pointer none) Tryz.underlying240 hi hz0 .i64 .i64 m m (by omega) (by omega) (by rw[hz2];omega) (by omega);rw[hz1]at h;simp only[zC,Nat.mul_one]at h;rw[aGI]at h;exact h
theorem aJO(slots:Nat)(w:World)(hs:slots<=65536):
    Calls Tryz.prog 129 #[.int .i64 slots] w fun r w' =>∃ph,r=.returned (.tuple #[aS ph,.int .i64 0])/\∃l,dH w' ph slots (fun _=>none) 0 l/\Fr [] w w' /\ ∀b∈l,w.heap.size<=b:=by
 have hd0:decide ((slots:Int)<0)=false:=qF (by omega);have hd1:decide ((slots:Int)>65536)=false:=qF (by omega);obtain⟨m,hm⟩:∃m,m=(slots+63)/64:=⟨_,rfl⟩;have hmi:((slots:Int)+64-1)/64=(m:Int):=by omega
 have hmk:=nA m w (by omega);have HM0:=qA hm;clear hm;go_enter Tryz.func129,Tryz.ntmps129
 go_wp2
 go_ret2;have hb:=Blk.new (w.alloc (.cells ((List.range m).map fun k=>fI ((fun _=>none:Nat->Option Nat) k)).toArray 244)) [aS (w.heap.size+1),.int .i64 slots,.slice none 0 0,.slice (some ⟨w.heap.size,0,none⟩) m m] 242;have hd:=(Blk.new w ((List.range m).map fun k=>fI ((fun _=>none:Nat->Option Nat) k)) 244).alloc (.cells [aS (w.heap.size+1),.int .i64 slots,.slice none 0 0,.slice (some ⟨w.heap.size,0,none⟩) m m].toArray 242);rw[World.size_alloc]at hb;rw[HM0.out]at hb hd ⊢;refine⟨w.heap.size+1,rfl,_,⟨fun _=>(0,0),fun _=>0,.slice none 0 0,w.heap.size,_,fun _=>none,⟨hb,World.ownsRow_nil _ _ _ _,hd,fun k b _ h=>(by cases h),fun _ _ _ _ _=>rfl,hs,by omega,fun _=>by omega,by omega,by simp[Value.ownBlock],by simp[Value.ownBlock],fun k b _ h=>(by cases h),fun k k' b _ _ h=>(by cases h)⟩,⟨fun p hp=>by omega,fun p hp=>by omega,fun i hi=>absurd rfl hi⟩,fun k h0 hk=>by omega,fun i k=>⟨fun h=>by(cases h),fun⟨p,hp,_⟩=>by omega⟩,rfl⟩,((Fr.refl _ _).alloc _).alloc _,fun b hb=>?_⟩;rcases dM.1 hb with rfl|rfl|hb|⟨k,_,hb⟩
 · omega
 · omega
 · cases hb
 · cases hb
end Go.Proofs.YtjdgpcjbgjnahaaGreatDoor
namespace Go.Proofs.YtjdgpcjbgjnahaaGreatDoor
open Go.RowKit Classical
abbrev eO(b:Nat):Value:=.pointer (some ⟨b,0,none⟩)
def edV(e:Nat×Nat×Int)(t:Bool):Value:=.agg #[.int .i64 e.1,.int .i64 e.2.1,.int .i64 e.2.2,.bool t]
def edZ:Value:=.agg #[.int .i64 0,.int .i64 0,.int .i64 0,.bool false]
noncomputable def fZ(G:cW)(T:Nat->Prop):Int->Option Value:=fun k=>if 0<=k then(G k.toNat).map (fun e=>edV e (decide (T k.toNat))) else none
theorem cU(G:cW)(T:Nat->Prop)(s:Nat):fZ G T s=(G s).map (fun e=>edV e (decide (T s))):=by simp[fZ]
def qOf(G:cW):Nat->Option Int:=fun i=>(G i).map fun e=>e.2.2
def okA:Value->Bool:=fun _=>true
structure FB (w:World) (pf pl g ph mb S V:Nat) (G:cW) (T:Nat->Prop) (key:Nat->Int) (n:Nat):Prop where
  hd:Blk w pf 152 [.int .i64 V,.int .i64 S,eO pl,eO ph,.map (some mb),.int .i64 (gP S T)]
  lct:LM w pl g (S+V) (TE S G T) key
  edges:cV Tryz.prog 3 .i64 okA w mb (fZ G T) n
  gw:GW S V G
  keys:aPE S V G T key
  cn:n=gP S (fun s=>(G s).isSome=true)
  leS:S<=16384
  leV:V<=4096
  ne1:pf≠pl
  ne2:pf≠g
  ne3:pf≠mb
  ne4:pl≠mb
  ne5:g≠mb
section
variable {w w' :World} {pf pl g ph mb S V n:Nat} {G:cW} {T:Nat->Prop} {key:Nat->Int} {l:List Nat}
theorem FB.fr{X:List Nat}(h:FB w pf pl g ph mb S V G T key n)(hf:Fr X w w')(h1:pf∉X)(h2:pl∉X)(h3:g∉X)(h4:mb∉X):FB w' pf pl g ph mb S V G T key n:=
  ⟨hf.blk h.hd h1,h.lct.fr hf h2 h3,h.edges.same (hf.keep mb h.edges.lt h4),h.gw,h.keys,h.cn,h.leS,h.leV,h.ne1,h.ne2,h.ne3,h.ne4,h.ne5⟩
theorem FB.fr0(h:FB w pf pl g ph mb S V G T key n)(hf:Fr [] w w'):FB w' pf pl g ph mb S V G T key n:=h.fr hf (by simp) (by simp) (by simp) (by simp)
theorem FB.lt(h:FB w pf pl g ph mb S V G T key n):pf<w.heap.size/\pl<w.heap.size/\g<w.heap.size/\mb<w.heap.size:=⟨h.hd.lt,(LG.lts h.lct).1,(LG.lts h.lct).2.1,h.edges.lt⟩
theorem FB.frs(h:FB w pf pl g ph mb S V G T key n):Frs (TE S G T):=LG.frs h.lct
@[go_sem] theorem aTG(w:World)(r:Option Nat):(binOp .neq 150 (.map r) (.map none)).run Tryz.prog w=.ok (.bool (!r.isNone)) w:=run_neq_map_nil w _ _ _ r Tryz.underlying150
theorem lI(h:FB w pf pl g ph mb S V G T key n):Calls Tryz.prog 99 #[eO pf] w fun e w' =>e=.returned (.bool true)/\w' =w:=by
 have c4:=h.hd.cell 4;simp only[zI,zJ]at c4;clear h;go_enter Tryz.func99,Tryz.ntmps99
 go_wp2
 go_ret;exact⟨rfl,rfl⟩
theorem nP(h:FB w pf pl g ph mb S V G T key n)(v:Int):Calls Tryz.prog 165 #[eO pf,.int .i64 v] w fun e w' =>e=.returned (.bool (inV V v))/\w' =w:=by
 have c0:=h.hd.cell 0;simp only[zI]at c0;have hV:=qA (lI h);clear h;by_cases h1:0<=v
 {
 by_cases h2:v<V
 {
 have e:inV V v=true:=by simp[inV,h1,h2]
 rw[e];clear e;go_enter Tryz.func165,Tryz.ntmps165
 go_wp2_with fail
 refine hV.out.mono ?_;rintro _ w1 ⟨rfl,rfl⟩;go_wp2
 go_ret;exact⟨rfl,rfl⟩}
 {
 have e:inV V v=false:=by simp[inV,h2]
 rw[e];clear e;have t2:decide (v<V)=false:=qF h2;go_enter Tryz.func165,Tryz.ntmps165
 go_wp2_with fail
 refine hV.out.mono ?_;rintro _ w1 ⟨rfl,rfl⟩;go_wp2
 go_ret;exact⟨rfl,rfl⟩}}
 {
 have e:inV V v=false:=by simp[inV,h1]
 rw[e];clear e;go_enter Tryz.func165,Tryz.ntmps165
 go_wp2_with fail
 refine hV.out.mono ?_;rintro _ w1 ⟨rfl,rfl⟩;go_wp2
 go_ret;exact⟨rfl,rfl⟩}
end
def eK(n:Nat)(key:Nat->Int)(a:Int)(k:Int):Nat->Int:=fun v=>if inV n a=true/\v=a.toNat then k else key v
def mF(n:Nat)(a:Int):Int:=if inV n a then 0 else 3
theorem aPG{w:World}{pf g n:Nat}{E:Nat->Nat->Prop}{key:Nat->Int}{ed:Int}(h:LG w pf g n E key ed)(a:Int)(k:Int):
    Calls Tryz.prog 131 #[.pointer (some ⟨pf,0,none⟩),.int .i64 a,.int .i64 k] w fun e w' =>e=.returned (.int .i64 (mF n a))/\LG w' pf g n E (eK n key a k) ed/\Fr [g] w w' :=by
 have H:=qA h;obtain⟨hp1,hg1,hn1⟩:=LG.lts h;obtain⟨cap,σ,F,par,d,rt,hL,hF,hE,hk⟩:=h;have HF:=qA hF;clear hF;have HE:=qA hE;clear hE;have HK:=qA hk;clear hk;have hLa:aF (w.alloc (.cells #[.int .i64 a] 3)) pf g (n+1) cap σ ed:=hL.below ((Below.refl _ w).alloc (qJ _) _) hp1 hg1;have hblk:=Blk.new w [.int .i64 a] 3;have hFa:Fr [] w (w.alloc (.cells #[.int .i64 a] 3)):=(Fr.refl _ _).alloc _;have HMa:=qA (LG.fr H.out hFa (by simp) (by simp));have hCk:=xI hLa w.heap.size 1 (fun _=>a) (by decide) (fun k hk=>by
   rw[hblk.cell];obtain rfl:k=0:=by omega
   rfl)
 have HCk:=qA hCk;clear hCk hblk hL;go_enter Tryz.func131,Tryz.ntmps131
 go_wp2_with fail
 refine HCk.out.mono ?_;rintro _ w1 ⟨hcode,rfl⟩;clear HCk;generalize w.alloc (.cells #[.int .i64 a] 3)=w1 at *;rcases hcode with⟨rfl,hall⟩|⟨rfl,j,hj,hbad⟩
 {
 have va:inV n a=true:=hall 0 (by decide);clear hall;obtain⟨v,rfl,hv⟩:=dX va;have Hva:=qA va;clear va;go_wp2_with fail
 refine(oJ hLa HF.out v hv).mono ?_;rintro _ w2 ⟨m1,τ1,l1,R1,rfl,hL1,hE1,hF1⟩;have HS:=qA (hE1.lf.set k);have HE1:=qA hE1;clear hE1;have d1:=hL1.hd.cell 1;simp only[zI,zJ]at d1;have hfz:=hL1.nodes.frozen;have a4:=hL1.nodes.c4 (v+1) (by omega);obtain⟨hL2,hF2⟩:=hL1.st4 (Fr.refl [g] w2) (i:=v+1) (by omega) k;have HL2:=qA (show aF _ pf g (n+1) cap (set1 τ1 (v+1) k) ed from hL2);clear hL2;have hv2:((v+1:Nat):Int)<((n+1:Nat):Int):=by omega
 go_wp2_with fail
 refine(mC HL2.out v hv HS.out.2.2.2.2 HS.out.2.2.1 HS.out.2.2.2.1).mono ?_;rintro _ w3 ⟨rfl,hL3,hF3⟩;have HL3:=qA hL3;clear hL3;go_wp2
 go_ret;rw[show mF n (v:Int)=0 by unfold mF;rw[Hva.out];rfl];refine⟨rfl,⟨cap,_,_,par,d,rt,HL3.out,HS.out.1,HE.out,fun x hx=>?_⟩,(hFa.mono (S' :=[g]) (by simp)).then (hF1.then (hF2.then hF3))⟩;rw[HS.out.2.1];unfold eK;by_cases e:x=v
 · subst e;rw[qD rfl,qD ⟨Hva.out,by simp⟩]
 · rw[qC (by omega),qC (by simp;omega),HE1.out.key];exact HK.out x hx}
 {
 have hva:inV n a=false:=hbad;have Hva:=qA hva;clear hva hbad;go_wp2
 go_ret;rw[show mF n a=3 by unfold mF;rw[Hva.out];rfl];refine⟨rfl,?_,hFa.mono (by simp)⟩;have:eK n key a k=key:=by funext x;unfold eK;rw[qC (by simp[Hva.out])]
 rw[this];exact HMa.out}
theorem lJ{N a:Nat}(h:a<N):inV N (a:Int)=true:=by simp[inV];omega
section
variable {w w' :World} {pl g N:Nat} {E:Nat->Nat->Prop} {key:Nat->Int}
theorem aJP(h:LM w pl g N E key){a b:Nat}(ha:a<N)(hb:b<N)(he:E a b)(b' :Int)(hb' :b' =b):
    Calls Tryz.prog 198 #[.pointer (some ⟨pl,0,none⟩),.int .i64 a,.int .i64 b'] w fun e w' =>e=.returned (.int .i64 0)/\LM w' pl g N (iP E a b) key/\Fr [pl,g] w w' :=by
 subst hb';have h1:=aSW h a b;have e1:fX N E a b=0:=by unfold fX;rw[qD ⟨lJ ha,lJ hb⟩];simp[he]
 have e2:xK N E a b=iP E a b:=by unfold xK;rw[qD e1];rfl
 rw[e1,e2]at h1;exact h1
theorem link_ok' (h:LM w pl g N E key){a b:Nat}(ha:a<N)(hb:b<N)(hne:a≠b)(hc:¬bW E a b)(b' :Int)(hb' :b' =b):
    Calls Tryz.prog 214 #[.pointer (some ⟨pl,0,none⟩),.int .i64 a,.int .i64 b'] w fun e w' =>e=.returned (.int .i64 0)/\LM w' pl g N (dZ E a b) key/\Fr [pl,g] w w' :=by
 subst hb';exact aMW h a b ha hb hne hc
end
section
variable {w w' :World} {pf pl g ph mb S V n:Nat} {G:cW} {T:Nat->Prop} {key:Nat->Int} {l:List Nat}
theorem aAG{s:Nat}{e:Nat×Nat×Int}{T' :Nat->Prop}{v:Value}(hg:G s=some e)(hv:v=edV e (decide (T' s)))(hT:∀t,t≠s->(T t↔T' t)):jR (fZ G T) s (some v)=fZ G T' :=by
 funext k
 by_cases hk:k=(s:Int)
 · subst hk;rw[cG,cU,hg,hv];rfl
 {
 rw[bM hk];unfold fZ;by_cases h0:0<=k
 {
 have:k.toNat≠s:=by omega
 simp only[hT _ this]}
 · simp only[h0,if_false]}
theorem gG{s:Nat}(h:s<=100000):(Lit.int .i64 (s:Int)).wf=true:=by
 show(decide ((-9223372036854775808:Int)<=s)&&decide ((s:Int)<=9223372036854775807))=true
 simp;omega
theorem aAH(h:FB w pf pl g ph mb S V G T key n){m ma mz:Nat}{y:Int}(hg:G m=some (ma,mz,y))(ht:T m):
    Calls Tryz.prog 151 #[eO pf,.int .i64 m] w fun e w' =>e=.returned (.tuple #[])/\FB w' pf pl g ph mb S V G (fun t=>T t/\t≠m) key n/\Fr [pf,pl,g,mb] w w' :=by
 have hms:=h.gw.slot _ _ hg;have hen:=h.gw.ends _ _ _ _ hg;have hS:=h.leS;have hV:=h.leV;have hlt:=h.lt;have hcT:=vQ hms ht;have hcle:=oL S T;have hne:=zH h.ne1 (zH h.ne2 (zH h.ne3 (zH h.ne4 h.ne5)));have hl0:=h.edges.run_get (t:=150) (e:=184) (z:=edZ) Tryz.underlying3 Tryz.underlying150 (by kernel_rfl) rfl (gG (s:=m) (by omega));rw[cU,hg]at hl0;simp only[Option.map_some,Option.getD_some,ht,decide_true,edV]at hl0;have e1:TE S G T m (S+ma):=⟨m,ma,mz,y,hg,ht,.inl ⟨rfl,.inl rfl⟩⟩;have e2:iP (TE S G T) m (S+ma) m (S+mz):=⟨⟨m,ma,mz,y,hg,ht,.inl ⟨rfl,.inr rfl⟩⟩,by omega,by omega⟩;have c1:=(h.hd.alloc (.cells #[.int .i64 ma,.int .i64 mz,.int .i64 y,.bool true] 184)).cell 1;have c2:=(h.hd.alloc (.cells #[.int .i64 ma,.int .i64 mz,.int .i64 y,.bool true] 184)).cell 2;have c4:=h.hd.cell 4;simp only[zI,zJ]at c1 c2 c4;have hw1:IntKind.i64.wrap ((S:Int)+ma)=(S:Int)+ma:=zF _ (by omega);have hw2:IntKind.i64.wrap ((S:Int)+mz)=(S:Int)+mz:=zF _ (by omega);have hf0:Fr [] w (w.alloc (.cells #[.int .i64 ma,.int .i64 mz,.int .i64 y,.bool true] 184)):=(Fr.refl _ _).alloc _;have hb:=Blk.new w [.int .i64 ma,.int .i64 mz,.int .i64 y,.bool true] 184;have HC1:=qA (aJP (h.fr0 hf0.drew).lct (a:=m) (b:=S+ma) (by omega) (by omega) e1 ((S:Int)+ma) (by omega));have H:=qA h;have E2:=qA e2;have HB:=qA (zH hf0 hb);have HN:=qA (zH hne hlt);clear h e1 e2 hf0 hb hne hlt;have x0:=HB.out.2.cell 0;have x1:=HB.out.2.cell 1;simp only[zI,zJ]at x0 x1;go_enter Tryz.func151,Tryz.ntmps151
 go_wp2
 go_region_held3 (fun w' => w'.cell? ⟨pf, 1, none⟩ = some (.int .i64 S) /\ w'.cell? ⟨pf, 2, none⟩ = some (eO pl) /\ w'.cell? ⟨w.heap.size, 0, none⟩ = some (.int .i64 ma))
   (first
     | go_keep
     | (have N:=HN.out;exact⟨hF3.cell (by simp_all) (by simp;omega),hF3.cell (by simp_all) (by simp;omega),hF3.cell (by simp_all) (by simp;omega)⟩))
   (first
     | (go_at_call 198;refine HC1.out.mono ?_;rintro e w3 ⟨rfl,hL3,hF3⟩))
 have hlt3:=HN.out.2;have hpf3:Blk w3 pf _ _:=hF3.blk ((Fr.refl [] _).drew.blk (HB.out.1.blk H.out.hd (by simp)) (by simp)) (by have N:=HN.out;simp;omega);have hbx3:Blk w3 w.heap.size _ _:=hF3.blk ((Fr.refl [] _).drew.blk HB.out.2 (by simp)) (by simp;omega);have hF3' :Fr [pl,g] w w3:=(HB.out.1.drew.mono (S' :=[pl,g]) (by simp)).trans' hF3;have HC2:=qA (aJP (show LM w3.drew pl g (S+V) (iP (TE S G T) m (S+ma)) key from LG.fr hL3 (Fr.refl [] _).drew (by simp) (by simp)) (a:=m) (b:=S+mz) (by omega) (by omega) E2.out ((S:Int)+mz) (by omega));have d1:=hpf3.cell 1;have d2:=hpf3.cell 2;have y1:=hbx3.cell 1;simp only[zI,zJ]at d1 d2 y1;have HF3:=qA (zH hF3' (zH hpf3 hbx3));clear hF3' hpf3 hbx3 hF3 hL3 HC1 c1 c2 x0 x1;go_wp2
 go_region_held3 (fun w' => w'.cell? ⟨pf, 1, none⟩ = some (.int .i64 S) /\ w'.cell? ⟨pf, 2, none⟩ = some (eO pl) /\ w'.cell? ⟨w.heap.size, 1, none⟩ = some (.int .i64 mz))
   (first
     | go_keep
     | (have N:=HN.out;exact⟨hF4.cell (by simp_all) (by simp;omega),hF4.cell (by simp_all) (by simp;omega),hF4.cell (by simp_all) (by simp;omega)⟩))
   (first
     | (go_at_call 198;refine HC2.out.mono ?_;rintro e w4 ⟨rfl,hL4,hF4⟩))
 have hpf4:Blk w4 pf _ _:=hF4.blk ((Fr.refl [] _).drew.blk HF3.out.2.1 (by simp)) (by have N:=HN.out;simp;omega);have hbx4:Blk w4 w.heap.size _ _:=hF4.blk ((Fr.refl [] _).drew.blk HF3.out.2.2 (by simp)) (by simp;omega);have hF4' :Fr [pl,g] w w4:=(HF3.out.1.drew).trans' hF4;rw[aQF H.out.gw.slot hg]at hL4;have y3:=hbx4.cell 3;have z3:=hbx4.frozen 3;simp only[zI,zJ]at y3;have hbx5:=hbx4.set 3 (.bool false);have hpf5:=hpf4.other ⟨w.heap.size,3,none⟩ (.bool false) (by show pf≠w.heap.size;omega);have HL4:=qA (zH hL4 hF4');have HX5:=qA (zH hpf5 hbx5);clear hL4 hF4' hpf4 hbx4 hpf5 hbx5 hF4 HC2 d1 d2 y1;go_wp2
 have HS5:=qA (show Fr [w.heap.size] w4 (w4.setCell ⟨w.heap.size,3,none⟩ (.bool false)) from(Fr.refl _ _).setCell _ _ (.inl (by simp)));generalize w4.setCell ⟨w.heap.size,3,none⟩ (.bool false)=w5 at *;clear y3 z3;have hI5:cV Tryz.prog 3 .i64 okA w5 mb (fZ G T) n:=H.out.edges.same (by
   rw[HS5.out.keep mb (by have:=HL4.out.2.size;omega) (by simp;omega),HL4.out.2.keep mb (by omega) (by have N:=HN.out;simp;omega)])
 have f4:=HX5.out.1.cell 4;have y0:=HX5.out.2.cell 0;have y1:=HX5.out.2.cell 1;have y2:=HX5.out.2.cell 2;have y3:=HX5.out.2.cell 3;simp only[qT,qX,zI,zJ]at f4 y0 y1 y2 y3;have HI5:=qA hI5;clear hI5;refine bF 6 (fun w' =>cV Tryz.prog 3 .i64 okA w' mb (fZ G (fun t=>T t/\t≠m)) n/\Fr [mb] w5 w') (by kernel_rfl) (by kernel_rfl) (by kernel_rfl) ?_;iterate 6 (refine bO (by decide) (fun K hK=>?_);go_simp;refine hK _ ?_;clear hK K)
 refine aW rfl undef (fun w' hw' =>?_) ?_
 {
 obtain⟨nq,rfl⟩:=hw';obtain⟨w6,hrun,hI6,hF6⟩:=(HI5.out.same (w' :=w5.drewN nq) rfl).put (t:=150) (e:=184) Tryz.underlying3 Tryz.underlying150 (by rw[H.out.cn];unfold maxLen;have:=oL S (fun s=>(G s).isSome=true);omega) (gG (s:=m) (by omega)) (v:=.agg #[.int .i64 ma,.int .i64 mz,.int .i64 y,.bool false]) rfl;rw[cU,hg,aAG (T' :=fun t=>T t/\t≠m) hg (by simp[edV]) (fun t ht=>by simp[ht])]at hI6;go_simp;exact⟨hI6,(((Fr.refl [mb] w5).drewN nq)).trans' hF6⟩};refine bP ?_;rintro w6 ⟨hI6,hF6⟩;have hpf6:=hF6.blk HX5.out.1 (by have N:=HN.out;simp;omega);rw[<-hcT]at hpf6;generalize hz:gP S (fun t=>T t/\t≠m)=z at *;have f5:w6.cell? ⟨pf,5,none⟩=some (.int .i64 ((z:Int)+1)):=hpf6.cell 5;have q5:=hpf6.frozen 5;have hw5:IntKind.i64.wrap ((z:Int)+1-1)=(z:Int):=by rw[show(z:Int)+1-1=z by omega];exact zF _ (by omega)
 have hpf7:=hpf6.set 5 (.int .i64 (z:Int));have HP7:=qA hpf7;have HI6:=qA (zH hI6 hF6);have HZ:=qA hz;clear hpf6 hpf7 hI6 hF6 hz f4 y0 y1 y2 y3;go_wp2
 go_end0
 have e7:(z:Int)+1-1=z:=by omega
 have hF7:Fr [pf] w6 (w6.setCell ⟨pf,5,none⟩ (.int .i64 (z:Int))):=(Fr.refl _ _).setCell _ _ (.inl (by simp));have N:=HN.out;have s4:=HL4.out.2.size;have hF47:Fr [w.heap.size,mb,pf] w4 (w6.setCell ⟨pf,5,none⟩ (.int .i64 (z:Int))):=
   ((HS5.out.mono (fun q hq=>.inl (by simp at hq ⊢;exact .inl hq))).trans' (HI6.out.2.mono (fun q hq=>.inl (by simp at hq ⊢;exact .inr (.inl hq))))).trans' (hF7.mono (fun q hq=>.inl (by simp at hq ⊢;exact .inr (.inr hq))))
 try rw[e7]
 refine⟨rfl,⟨?_,LG.fr HL4.out.1 hF47 (by simp;omega) (by simp;omega),HI6.out.1.same (hF7.keep mb HI6.out.1.lt (by simp;omega)),H.out.gw,⟨fun t a b x h1 h2=>H.out.keys.slot t a b x h1 h2.1,H.out.keys.vert⟩,H.out.cn,H.out.leS,H.out.leV,H.out.ne1,H.out.ne2,H.out.ne3,H.out.ne4,H.out.ne5⟩,
   (HL4.out.2.mono (fun q hq=>.inl (by simp at hq ⊢;omega))).trans hF47 (fun q hq=>by simp at hq ⊢;omega)⟩
 rw[HZ.out];exact HP7.out
theorem aQK{w:World}{pl g N:Nat}{E:Nat->Nat->Prop}{key:Nat->Int}(h:LM w pl g N E key){a:Nat}(ha:a<N)(k:Int):
    Calls Tryz.prog 131 #[.pointer (some ⟨pl,0,none⟩),.int .i64 a,.int .i64 k] w fun e w' =>e=.returned (.int .i64 0)/\LM w' pl g N E (eK N key a k)/\Fr [pl,g] w w' :=by
 refine(aPG h a k).mono ?_;rintro e w' ⟨rfl,h1,h2⟩;exact⟨by unfold mF;rw[lJ ha];rfl,h1,h2.mono (fun q hq=>.inl (by simp at hq ⊢;exact .inr hq))⟩
theorem aAI{N a:Nat}(ha:a<N)(key:Nat->Int)(k:Int):eK N key a k a=k:=by
 unfold eK;rw[qD ⟨lJ ha,by simp⟩]
theorem oP{N a v:Nat}(key:Nat->Int)(k:Int)(hv:v≠a):eK N key a k v=key v:=by
 unfold eK;rw[qC (by simp;omega)]
theorem aAJ(h:FB w pf pl g ph mb S V G T key n){m ma mz:Nat}{y:Int}(hg:G m=some (ma,mz,y))(ht:¬T m)(hc:¬Cx G T ma mz):
    Calls Tryz.prog 178 #[eO pf,.int .i64 m] w fun e w' =>e=.returned (.tuple #[])/\FB w' pf pl g ph mb S V G (fun t=>T t∨t=m) (eK (S+V) key m y) n/\Fr [pf,pl,g,mb] w w' :=by
 have hms:=h.gw.slot _ _ hg;have hen:=h.gw.ends _ _ _ _ hg;have hS:=h.leS;have hV:=h.leV;have hlt:=h.lt;have hcT:=aJE hms ht;have hcle:=oL S T;have hne:=zH h.ne1 (zH h.ne2 (zH h.ne3 (zH h.ne4 h.ne5)));have hl0:=h.edges.run_get (t:=150) (e:=184) (z:=edZ) Tryz.underlying3 Tryz.underlying150 (by kernel_rfl) rfl (gG (s:=m) (by omega));rw[cU,hg]at hl0;simp only[Option.map_some,Option.getD_some,ht,decide_false,edV]at hl0;have hfr:=h.frs;have n1:¬bW (TE S G T) m (S+ma):=aAA ht hms (by omega) hfr;have n2:¬bW (TE S G T) m (S+mz):=aAA ht hms (by omega) hfr;have n3:¬bW (TE S G T) (S+ma) (S+mz):=fun e=>hc ((aQC h.gw.slot hfr).1 e);have e2:Frs (dZ (TE S G T) m (S+ma))->¬bW (dZ (TE S G T) m (S+ma)) m (S+mz):=by {
 intro h' e;rcases(zT hfr h' _ _).1 e with e|⟨_,e⟩|⟨_,e⟩
 · exact n2 e
 · exact n3 e
 · exact n2 e};have c1:=(h.hd.alloc (.cells #[.int .i64 ma,.int .i64 mz,.int .i64 y,.bool false] 184)).cell 1;have c2:=(h.hd.alloc (.cells #[.int .i64 ma,.int .i64 mz,.int .i64 y,.bool false] 184)).cell 2;have c4:=h.hd.cell 4;simp only[zI,zJ]at c1 c2 c4;have hw1:IntKind.i64.wrap ((S:Int)+ma)=(S:Int)+ma:=zF _ (by omega);have hw2:IntKind.i64.wrap ((S:Int)+mz)=(S:Int)+mz:=zF _ (by omega);have hf0:Fr [] w (w.alloc (.cells #[.int .i64 ma,.int .i64 mz,.int .i64 y,.bool false] 184)):=(Fr.refl _ _).alloc _;have hb:=Blk.new w [.int .i64 ma,.int .i64 mz,.int .i64 y,.bool false] 184;have HC0:=qA (aQK (h.fr0 hf0.drew).lct (a:=m) (by omega) y);have H:=qA h;have E1:=qA n1;have E2:=qA e2;have HB:=qA (zH hf0 hb);have HN:=qA (zH hne hlt);clear h e2 n1 n2 n3 hf0 hb hne hlt hfr hc;have x2:=HB.out.2.cell 2;simp only[zI,zJ]at x2;go_enter Tryz.func178,Tryz.ntmps178
 go_wp2
 go_region_held3 (fun w' => w'.cell? ⟨pf, 2, none⟩ = some (eO pl) /\ w'.cell? ⟨w.heap.size, 2, none⟩ = some (.int .i64 y))
   (first
     | go_keep
     | (have N:=HN.out;exact⟨hF2.cell (by simp_all) (by simp;omega),hF2.cell (by simp_all) (by simp;omega)⟩))
   (first
     | (go_at_call 131;refine HC0.out.mono ?_;rintro e w2 ⟨rfl,hL2,hF2⟩))
 have hlt3:=HN.out.2;have hpf2:Blk w2 pf _ _:=hF2.blk ((Fr.refl [] _).drew.blk (HB.out.1.blk H.out.hd (by simp)) (by simp)) (by have N:=HN.out;simp;omega);have hbx2:Blk w2 w.heap.size _ _:=hF2.blk ((Fr.refl [] _).drew.blk HB.out.2 (by simp)) (by simp;omega);have hF2' :Fr [pl,g] w w2:=(HB.out.1.drew.mono (S' :=[pl,g]) (by simp)).trans' hF2;have HC1:=qA (link_ok' (show LM w2.drew pl g (S+V) (TE S G T) (eK (S+V) key m y) from LG.fr hL2 (Fr.refl [] _).drew (by simp) (by simp)) (a:=m) (b:=S+ma) (by omega) (by omega) (by omega) E1.out ((S:Int)+ma) (by omega));have d1:=hpf2.cell 1;have d2:=hpf2.cell 2;have y1:=hbx2.cell 0;simp only[zI,zJ]at d1 d2 y1;have HF2:=qA (zH hF2' (zH hpf2 hbx2));clear hF2' hpf2 hbx2 hF2 hL2 HC0 c1 c2 x2;go_wp2
 go_region_held3 (fun w' => w'.cell? ⟨pf, 1, none⟩ = some (.int .i64 S) /\ w'.cell? ⟨pf, 2, none⟩ = some (eO pl) /\ w'.cell? ⟨w.heap.size, 0, none⟩ = some (.int .i64 ma))
   (first
     | go_keep
     | (have N:=HN.out;exact⟨hF3.cell (by simp_all) (by simp;omega),hF3.cell (by simp_all) (by simp;omega),hF3.cell (by simp_all) (by simp;omega)⟩))
   (first
     | (go_at_call 214;refine HC1.out.mono ?_;rintro e w3 ⟨rfl,hL3,hF3⟩))
 have hpf3:Blk w3 pf _ _:=hF3.blk ((Fr.refl [] _).drew.blk HF2.out.2.1 (by simp)) (by have N:=HN.out;simp;omega);have hbx3:Blk w3 w.heap.size _ _:=hF3.blk ((Fr.refl [] _).drew.blk HF2.out.2.2 (by simp)) (by simp;omega);have hF3' :Fr [pl,g] w w3:=(HF2.out.1.drew).trans' hF3;have hL3' :LM w3.drew pl g (S+V) (dZ (TE S G T) m (S+ma)) (eK (S+V) key m y):=LG.fr hL3 (Fr.refl [] _).drew (by simp) (by simp);have HC2:=qA (link_ok' hL3' (a:=m) (b:=S+mz) (by omega) (by omega) (by omega) (E2.out hL3'.frs) ((S:Int)+mz) (by omega));have d1:=hpf3.cell 1;have d2:=hpf3.cell 2;have y1:=hbx3.cell 1;simp only[zI,zJ]at d1 d2 y1;have HF3:=qA (zH hF3' (zH hpf3 hbx3));clear hF3' hpf3 hbx3 hF3 hL3 hL3' HC1;go_wp2
 go_region_held3 (fun w' => w'.cell? ⟨pf, 1, none⟩ = some (.int .i64 S) /\ w'.cell? ⟨pf, 2, none⟩ = some (eO pl) /\ w'.cell? ⟨w.heap.size, 1, none⟩ = some (.int .i64 mz))
   (first
     | go_keep
     | (have N:=HN.out;exact⟨hF4.cell (by simp_all) (by simp;omega),hF4.cell (by simp_all) (by simp;omega),hF4.cell (by simp_all) (by simp;omega)⟩))
   (first
     | (go_at_call 214;refine HC2.out.mono ?_;rintro e w4 ⟨rfl,hL4,hF4⟩))
 have hpf4:Blk w4 pf _ _:=hF4.blk ((Fr.refl [] _).drew.blk HF3.out.2.1 (by simp)) (by have N:=HN.out;simp;omega);have hbx4:Blk w4 w.heap.size _ _:=hF4.blk ((Fr.refl [] _).drew.blk HF3.out.2.2 (by simp)) (by simp;omega);have hF4' :Fr [pl,g] w w4:=(HF3.out.1.drew).trans' hF4;rw[aQE hg]at hL4;have y3:=hbx4.cell 3;have z3:=hbx4.frozen 3;simp only[zI,zJ]at y3;have hbx5:=hbx4.set 3 (.bool true);have hpf5:=hpf4.other ⟨w.heap.size,3,none⟩ (.bool true) (by show pf≠w.heap.size;omega);have HL4:=qA (zH hL4 hF4');have HX5:=qA (zH hpf5 hbx5);clear hL4 hF4' hpf4 hbx4 hpf5 hbx5 hF4 HC2 d1 d2 y1;go_wp2
 have HS5:=qA (show Fr [w.heap.size] w4 (w4.setCell ⟨w.heap.size,3,none⟩ (.bool true)) from(Fr.refl _ _).setCell _ _ (.inl (by simp)));generalize w4.setCell ⟨w.heap.size,3,none⟩ (.bool true)=w5 at *;clear y3 z3;have hI5:cV Tryz.prog 3 .i64 okA w5 mb (fZ G T) n:=H.out.edges.same (by
   rw[HS5.out.keep mb (by have:=HL4.out.2.size;omega) (by simp;omega),HL4.out.2.keep mb (by omega) (by have N:=HN.out;simp;omega)])
 have f4:=HX5.out.1.cell 4;have y0:=HX5.out.2.cell 0;have y1:=HX5.out.2.cell 1;have y2:=HX5.out.2.cell 2;have y3:=HX5.out.2.cell 3;simp only[qT,qX,zI,zJ]at f4 y0 y1 y2 y3;have HI5:=qA hI5;clear hI5;refine bF 6 (fun w' =>cV Tryz.prog 3 .i64 okA w' mb (fZ G (fun t=>T t∨t=m)) n/\Fr [mb] w5 w') (by kernel_rfl) (by kernel_rfl) (by kernel_rfl) ?_;iterate 6 (refine bO (by decide) (fun K hK=>?_);go_simp;refine hK _ ?_;clear hK K)
 refine aW rfl undef (fun w' hw' =>?_) ?_
 {
 obtain⟨nq,rfl⟩:=hw';obtain⟨w6,hrun,hI6,hF6⟩:=(HI5.out.same (w' :=w5.drewN nq) rfl).put (t:=150) (e:=184) Tryz.underlying3 Tryz.underlying150 (by rw[H.out.cn];unfold maxLen;have:=oL S (fun s=>(G s).isSome=true);omega) (gG (s:=m) (by omega)) (v:=.agg #[.int .i64 ma,.int .i64 mz,.int .i64 y,.bool true]) rfl;rw[cU,hg,aAG (T' :=fun t=>T t∨t=m) hg (by simp[edV]) (fun t ht=>by simp[ht])]at hI6;go_simp;exact⟨hI6,(((Fr.refl [mb] w5).drewN nq)).trans' hF6⟩};refine bP ?_;rintro w6 ⟨hI6,hF6⟩;have hpf6:=hF6.blk HX5.out.1 (by have N:=HN.out;simp;omega);generalize hz:gP S T=z at *;have f5:w6.cell? ⟨pf,5,none⟩=some (.int .i64 (z:Int)):=hpf6.cell 5;have q5:=hpf6.frozen 5;have hw5:IntKind.i64.wrap ((z:Int)+1)=(z:Int)+1:=zF _ (by omega);have hpf7:=hpf6.set 5 (.int .i64 ((z:Int)+1));have HP7:=qA hpf7;have HI6:=qA (zH hI6 hF6);have HZ:=qA (zH hz hcT);clear hpf6 hpf7 hI6 hF6 hz hcT f4 y0 y1 y2 y3;go_wp2
 go_end0
 have hF7:Fr [pf] w6 (w6.setCell ⟨pf,5,none⟩ (.int .i64 ((z:Int)+1))):=(Fr.refl _ _).setCell _ _ (.inl (by simp));have N:=HN.out;have s4:=HL4.out.2.size;have hF47:Fr [w.heap.size,mb,pf] w4 (w6.setCell ⟨pf,5,none⟩ (.int .i64 ((z:Int)+1))):=
   ((HS5.out.mono (fun q hq=>.inl (by simp at hq ⊢;exact .inl hq))).trans' (HI6.out.2.mono (fun q hq=>.inl (by simp at hq ⊢;exact .inr (.inl hq))))).trans' (hF7.mono (fun q hq=>.inl (by simp at hq ⊢;exact .inr (.inr hq))))
 refine⟨rfl,⟨?_,LG.fr HL4.out.1 hF47 (by simp;omega) (by simp;omega),HI6.out.1.same (hF7.keep mb HI6.out.1.lt (by simp;omega)),H.out.gw,⟨fun t a b x h1 h2=>?_,fun v hv=>?_⟩,H.out.cn,H.out.leS,H.out.leV,H.out.ne1,H.out.ne2,H.out.ne3,H.out.ne4,H.out.ne5⟩,
   (HL4.out.2.mono (fun q hq=>.inl (by simp at hq ⊢;omega))).trans hF47 (fun q hq=>by simp at hq ⊢;omega)⟩
 {
 have e8:=HZ.out.2;rw[e8];exact HP7.out}
 {
 rcases h2 with h2|rfl
 {
 rw[oP _ _ (by rintro rfl;exact ht h2)];exact H.out.keys.slot t a b x h1 h2}
 {
 rw[aAI (by omega)];rw[hg]at h1;simp only[qI,zD]at h1;exact h1.2.2}}
 {
 rw[oP _ _ (by omega)];exact H.out.keys.vert v hv}
end
def FAt(w:World)(pf S V:Nat)(G:cW)(L:List Nat):Prop:=
  ∃pl g ph mb l key n,FB w pf pl g ph mb S V G (aP G) key n/\dH w ph S (qOf G) n l/\(∀b∈l,b≠pf/\b≠pl/\b≠g/\b≠mb)/\L=pf::pl::g::mb::l
noncomputable def eE(S V:Nat)(G:cW)(slot a b:Int):Int:=
  if inV S slot=true/\inV V a=true/\inV V b=true then(if a=b then 9 else if (G slot.toNat).isSome=true then 6 else 0) else 3
noncomputable def rQ(S V:Nat)(G:cW)(slot a b x:Int):cW:=if eE S V G slot a b=0 then bT G slot.toNat (some (a.toNat,b.toNat,x)) else G
section
variable {w w' :World} {pf pl g ph mb S V n:Nat} {G:cW} {T T' :Nat->Prop} {key:Nat->Int} {l L:List Nat}
theorem FAt.lt(h:FAt w pf S V G L):∀b∈L,b<w.heap.size:=by
 obtain⟨pl,g,ph,mb,l,key,n,h1,h2,h3,rfl⟩:=h;have:=h1.lt;intro b hb;simp only[qB]at hb;rcases hb with rfl|rfl|rfl|rfl|hb
 · exact this.1
 · exact this.2.1
 · exact this.2.2.1
 · exact this.2.2.2
 · exact h2.lt b hb
theorem FAt.fr{X:List Nat}(h:FAt w pf S V G L)(hf:Fr X w w')(hx:∀b∈L,b∉X):FAt w' pf S V G L:=by
 obtain⟨pl,g,ph,mb,l,key,n,h1,h2,h3,rfl⟩:=h;exact⟨pl,g,ph,mb,l,key,n,h1.fr hf (hx _ (by simp)) (hx _ (by simp)) (hx _ (by simp)) (hx _ (by simp)),h2.fr hf (fun b hb=>hx b (by simp[hb])),h3,rfl⟩
theorem FB.congrT(h:FB w pf pl g ph mb S V G T key n)(hT:∀t,T t↔T' t):FB w pf pl g ph mb S V G T' key n:=by
 have:T=T' :=funext fun t=>propext (hT t);rw[<-this];exact h
theorem aJQ{s:Nat}{e:Nat×Nat×Int}(ht:¬T s):jR (fZ G T) s (some (edV e false))=fZ (bT G s (some e)) T:=by
 funext k
 by_cases hk:k=(s:Int)
 · subst hk;rw[cG,cU,bE];simp[ht]
 {
 rw[bM hk];unfold fZ;by_cases h0:0<=k
 · rw[aK (by omega)]
 · simp only[h0,if_false]}
theorem aNN{s:Nat}{e:Nat×Nat×Int}:mQ (qOf G) s (some e.2.2)=qOf (bT G s (some e)):=by
 funext k
 by_cases hk:k=s
 · subst hk;rw[jH];simp[qOf,bE]
 · rw[fT hk];simp[qOf,aK hk]
theorem aNO{s:Nat}{e:Nat×Nat×Int}(hs:s<S)(h0:G s=none):gP S (fun t=>(G t).isSome=true)+1=gP S (fun t=>(bT G s (some e) t).isSome=true):=
  tQ hs (by simp[bE]) (by simp[h0]) (fun x hx=>by rw[aK hx])
theorem FB.new(h:FB w pf pl g ph mb S V G T key n){s a b:Nat}{x:Int}(h0:G s=none)(ht:¬T s)(hs:s<S)(ha:a<V)(hb:b<V)(hab:a≠b)(hx:-9223372036854775808<=x/\x<=9223372036854775807)
    {X:List Nat} (hf:Fr X w w') (h1:pf∉X) (h2:pl∉X) (h3:g∉X) (hI:cV Tryz.prog 3 .i64 okA w' mb (fZ (bT G s (some (a,b,x))) T) (n+1)):
    FB w' pf pl g ph mb S V (bT G s (some (a,b,x))) T key (n+1):=by
 have e:TE S (bT G s (some (a,b,x))) T=TE S G T:=tP (fun _=>Iff.rfl) (fun t ht' =>by rw[aK];rintro rfl;exact ht ht');refine⟨hf.blk h.hd h1,?_,hI,h.gw.put hs ha hb hab hx,⟨fun t c d y h4 h5=>?_,h.keys.vert⟩,?_,h.leS,h.leV,h.ne1,h.ne2,h.ne3,h.ne4,h.ne5⟩
 · rw[e];exact h.lct.fr hf h2 h3
 {
 rw[aK (by rintro rfl;exact ht h5)]at h4;exact h.keys.slot t c d y h4 h5}
 · rw[h.cn,aNO hs h0]
end
section
variable {w w' :World} {pf pl g ph mb S V n:Nat} {G:cW} {T T' :Nat->Prop} {key:Nat->Int} {l L:List Nat}
theorem aJR(h:FB w pf pl g ph mb S V G T key n)(slot a b x:Int)(hn:¬(inV S slot=true/\inV V a=true/\inV V b=true)):
    Calls Tryz.prog 138 #[eO pf,.int .i64 slot,.int .i64 a,.int .i64 b,.int .i64 x] w fun e w' =>e=.returned (.int .i64 3)/\w' =w:=by
 have c1:=h.hd.cell 1;simp only[zI,zJ]at c1;have HV:=qA (lI h);by_cases s1:0<=slot
 {
 by_cases s2:slot<S
 {
 have s3:decide (slot≥(S:Int))=false:=qF (by omega);cases ha:inV V a with
 | false=>{
 have HA:=nP h a;rw[ha]at HA;have HA:=qA HA;clear h hn;go_enter Tryz.func138,Tryz.ntmps138
 go_wp2_with fail
 refine HV.out.mono ?_;rintro _ w1 ⟨rfl,rfl⟩;go_wp2_with fail
 refine HA.out.mono ?_;rintro _ w1 ⟨rfl,rfl⟩;go_wp2
 go_ret;exact⟨rfl,rfl⟩}
 | true=>{
 have hb:inV V b=false:=by {
 cases hb:inV V b with
 | false=>rfl
 | true=>exact absurd ⟨by simp[inV,s1,s2],ha,hb⟩ hn};have HA:=nP h a;rw[ha]at HA;have HA:=qA HA;have HB:=nP h b;rw[hb]at HB;have HB:=qA HB;clear h hn;go_enter Tryz.func138,Tryz.ntmps138
 go_wp2_with fail
 refine HV.out.mono ?_;rintro _ w1 ⟨rfl,rfl⟩;go_wp2_with fail
 refine HA.out.mono ?_;rintro _ w1 ⟨rfl,rfl⟩;go_wp2_with fail
 refine HB.out.mono ?_;rintro _ w1 ⟨rfl,rfl⟩;go_wp2
 go_ret;exact⟨rfl,rfl⟩}}
 {
 have s3:decide (slot≥(S:Int))=true:=qG (by omega);have s4:(S:Int)<=slot:=by omega
 clear h hn;go_enter Tryz.func138,Tryz.ntmps138
 go_wp2_with fail
 refine HV.out.mono ?_;rintro _ w1 ⟨rfl,rfl⟩;go_wp2
 go_ret;exact⟨rfl,rfl⟩}}
 {
 have s3:slot<0:=by omega
 clear h hn;go_enter Tryz.func138,Tryz.ntmps138
 go_wp2_with fail
 refine HV.out.mono ?_;rintro _ w1 ⟨rfl,rfl⟩;go_wp2
 go_ret;exact⟨rfl,rfl⟩}
theorem aEN(h:FB w pf pl g ph mb S V G T key n){s a b:Nat}(hs:s<S)(ha:a<V)(hb:b<V)(x:Int)(hn:a=b∨(a≠b/\(G s).isSome=true)):
    Calls Tryz.prog 138 #[eO pf,.int .i64 s,.int .i64 a,.int .i64 b,.int .i64 x] w fun e w' =>e=.returned (.int .i64 (if a=b then 9 else 6))/\Fr [] w w' :=by
 have c1:=h.hd.cell 1;have c4:=h.hd.cell 4;simp only[zI,zJ]at c1 c4;have HV:=qA (lI h);have HA:=nP h a;rw[lJ ha]at HA;have HA:=qA HA;have HB:=nP h b;rw[lJ hb]at HB;have HB:=qA HB;have s1:(0:Int)<=s:=by omega
 have s2:(s:Int)<S:=by omega
 have s3:decide (S<=s)=false:=qF (by omega);by_cases hab:a=b
 {
 rw[qD hab];subst hab;clear h hn;go_enter Tryz.func138,Tryz.ntmps138
 go_wp2_with fail
 refine HV.out.mono ?_;rintro _ w1 ⟨rfl,rfl⟩;go_wp2_with fail
 refine HA.out.mono ?_;rintro _ w1 ⟨rfl,rfl⟩;go_wp2_with fail
 refine HB.out.mono ?_;rintro _ w1 ⟨rfl,rfl⟩;go_wp2
 go_ret;exact⟨rfl,Fr.refl _ _⟩}
 {
 rw[qC hab];obtain⟨_,hsome⟩:=hn.resolve_left hab;have t1:((a:Int) == (b:Int))=false:=by simp;omega
 have hl:=h.edges.run_ok (t:=150) (e:=184) (z:=edZ) Tryz.underlying3 Tryz.underlying150 (by kernel_rfl) rfl (gG (s:=s) (by have:=h.leS;omega));obtain⟨⟨e1,e2,e3⟩,he⟩:=qU.1 hsome;rw[cU,he]at hl;simp only[Option.map_some,Option.getD_some,edV,Option.isSome_some]at hl;generalize decide (T s)=tb at *;clear h hn;go_enter Tryz.func138,Tryz.ntmps138
 go_wp2_with fail
 refine HV.out.mono ?_;rintro _ w1 ⟨rfl,rfl⟩;go_wp2_with fail
 refine HA.out.mono ?_;rintro _ w1 ⟨rfl,rfl⟩;go_wp2_with fail
 refine HB.out.mono ?_;rintro _ w1 ⟨rfl,rfl⟩;go_wp2
 go_ret;exact⟨rfl,(Fr.refl _ _).alloc _⟩}
end
section
variable {w w' :World} {pf pl g ph mb S V n:Nat} {G:cW} {T:Nat->Prop} {key:Nat->Int}
theorem FB.asked(h:FB w pf pl g ph mb S V G T key n)(hL:LM w' pl g (S+V) (TE S G T) key)(hF:Fr [g] w w'):FB w' pf pl g ph mb S V G T key n:=
  ⟨hF.blk h.hd (by have:=h.ne2;simp;exact this),hL,h.edges.same (hF.keep mb h.edges.lt (by have:=h.ne5;simp;exact fun e=>this e.symm)),h.gw,h.keys,h.cn,h.leS,h.leV,h.ne1,h.ne2,h.ne3,h.ne4,h.ne5⟩
theorem aQL{s:Nat}(ht:¬T s)(e:Option (Nat×Nat×Int)):TE S (bT G s e) T=TE S G T:=
  tP (fun _=>Iff.rfl) (fun t ht' =>by rw[aK];rintro rfl;exact ht ht')
theorem aJS{s a b:Nat}(ht:¬T s)(e:Option (Nat×Nat×Int)):Cx (bT G s e) T a b↔Cx G T a b:=by
 constructor
 {
 intro h;exact h.mono' fun u f h1 h2=>⟨h1,by rw[aK (by rintro rfl;exact ht h1)]at h2;exact h2⟩}
 {
 intro h;exact h.mono' fun u f h1 h2=>⟨h1,by rw[aK (by rintro rfl;exact ht h1)];exact h2⟩}
end
def aNP(n:Nat)(E:Nat->Nat->Prop)(key:Nat->Int)(a b r:Int)(ok:Bool):Prop:=
  (ok=false/\r=0/\¬mZ n E a b)∨(ok=true/\∃(v u:Nat) (p:List Nat) (m:Nat),a=v/\b=u/\v<n/\u<n/\bR E v u p/\(∀x∈p,x<n)/\rV key p m/\r=m)
theorem aTB{w:World}{pf g n:Nat}{E:Nat->Nat->Prop}{key:Nat->Int}{ed:Int}(h:LG w pf g n E key ed)(a b:Int):Calls Tryz.prog 166 #[.pointer (some ⟨pf,0,none⟩),.int .i64 a,.int .i64 b] w fun e w' =>∃r ok,e=.returned (.tuple #[.int .i64 r,.bool ok])/\aNP n E key a b r ok/\LG w' pf g n E key ed/\Fr [g] w w' :=by
 refine(aSU h a b).mono ?_;rintro e w' ⟨⟨hn,rfl⟩|⟨v,u,p,m,h1,h2,h3,h4,h5,h6,h7,rfl⟩,hL,hF⟩
 · exact⟨0,false,rfl,.inl ⟨rfl,rfl,hn⟩,hL,hF⟩
 · exact⟨m,true,rfl,.inr ⟨rfl,v,u,p,m,h1,h2,h3,h4,h5,h6,h7,rfl⟩,hL,hF⟩
section
variable {w w' :World} {pf S V:Nat} {G:cW} {L:List Nat}
theorem aJT(h:FAt w pf S V G L){s a b:Nat}(hs:s<S)(ha:a<V)(hb:b<V)(hab:a≠b)(h0:G s=none)(x:Int)(hx:-9223372036854775808<=x/\x<=9223372036854775807):
    Calls Tryz.prog 138 #[eO pf,.int .i64 s,.int .i64 a,.int .i64 b,.int .i64 x] w fun e w' =>e=.returned (.int .i64 0)/\∃L', FAt w' pf S V (bT G s (some (a,b,x))) L' /\ Fr L w w' /\ ∀q∈L', q∈L∨w.heap.size<=q:=by
  obtain⟨pl,g,ph,mb,l,key,n,h1,hH,hD,rfl⟩:=h;have ht:¬aP G s:=by rintro⟨_,_,_,e,_⟩;rw[h0]at e;cases e
  have hlt:=h1.lt;have hllt:=hH.lt;have hS:=h1.leS;have hV:=h1.leV;have c1:=h1.hd.cell 1;have c4:=h1.hd.cell 4;have c3:=(h1.hd.alloc (.cells #[.int .i64 0,.int .i64 0,.int .i64 0,.bool false] 184)).cell 3;simp only[zI,zJ]at c1 c3 c4;have HV:=qA (lI h1);have HA:=nP h1 a;rw[lJ ha]at HA;have HA:=qA HA;have HB:=nP h1 b;rw[lJ hb]at HB;have HB:=qA HB;have s1:(0:Int)<=s:=by omega
  have s2:(s:Int)<S:=by omega
  have s3:decide (S<=s)=false:=qF (by omega);have t1:((a:Int) == (b:Int))=false:=by simp;omega
  have hl:=h1.edges.run_ok (t:=150) (e:=184) (z:=edZ) Tryz.underlying3 Tryz.underlying150 (by kernel_rfl) rfl (gG (s:=s) (by omega));rw[cU,h0]at hl;simp only[Option.map_none,Option.getD_none,edZ,Option.isSome_none]at hl;have hf0:Fr [] w (w.alloc (.cells #[.int .i64 0,.int .i64 0,.int .i64 0,.bool false] 184)):=(Fr.refl _ _).alloc _;have HP:=qA (aEL (hH.fr hf0 (by simp)) hs (by simp[qOf,h0]) x);have H:=qA h1;have HH:=qA (zH hD (zH hllt hlt));have HF0:=qA hf0;clear h1 hH hD hllt hf0;go_enter Tryz.func138,Tryz.ntmps138
  go_wp2_with fail
  refine HV.out.mono ?_;rintro _ w ⟨rfl,rfl⟩;go_wp2_with fail
  refine HA.out.mono ?_;rintro _ w ⟨rfl,rfl⟩;go_wp2_with fail
  refine HB.out.mono ?_;rintro _ w ⟨rfl,rfl⟩;go_wp2_with fail
  refine HP.out.mono ?_;rintro _ w2 ⟨rfl,l', hH2,hF2,hN2⟩;have hpf2:Blk w2 pf _ _:=hF2.blk (HF0.out.blk H.out.hd (by simp)) (fun hm=>(HH.out.1 _ hm).1 rfl);have hI2:cV Tryz.prog 3 .i64 okA w2 mb (fZ G (aP G)) n:=H.out.edges.same (by
    rw[hF2.keep mb (by have:=HF0.out.size;omega) (fun hm=>(HH.out.1 _ hm).2.2.2 rfl),HF0.out.keep mb (by omega) (by simp)])
  have d4:=hpf2.cell 4;simp only[zI,zJ]at d4;have HF2:=qA (zH hH2 (zH hF2 (zH hN2 hpf2)));have HI2:=qA hI2;clear hH2 hF2 hN2 hpf2 hI2 c1 c3 c4 hl HP;go_wp2_with (refine rO rfl _ _ _ _ rfl HI2.out Tryz.underlying3 Tryz.underlying150 (by rw[H.out.cn];unfold maxLen;have:=oL S (fun s=>(G s).isSome=true);omega) rfl (s:Int) rfl (gG (s:=s) (by omega)) (.agg #[.int .i64 a,.int .i64 b,.int .i64 x,.bool false]) rfl rfl ?_;intro w3 hI3 hF3)
  rw[cU,h0]at hI3;simp only[Option.map_none,Option.isSome_none,Bool.false_eq_true,if_false]at hI3;have hI3' :cV Tryz.prog 3 .i64 okA w3 mb (fZ (bT G s (some (a,b,x))) (aP G)) (n+1):=by rw[<-aJQ ht];exact hI3
  have hF13:Fr (mb::l) w w3:=((HF0.out.mono (S' :=mb::l) (by simp)).trans' (HF2.out.2.1.mono (fun q hq=>.inl (by simp[hq])))).trans' (hF3.mono (fun q hq=>.inl (by simp at hq;simp[hq])));have hx1:pf∉mb::l:=by simp only[qB,not_or];exact⟨H.out.ne3,fun hm=>(HH.out.1 _ hm).1 rfl⟩
  have hx2:pl∉mb::l:=by simp only[qB,not_or];exact⟨H.out.ne4,fun hm=>(HH.out.1 _ hm).2.1 rfl⟩
  have hx3:g∉mb::l:=by simp only[qB,not_or];exact⟨H.out.ne5,fun hm=>(HH.out.1 _ hm).2.2.1 rfl⟩
  have hB3:=H.out.new h0 ht hs ha hb hab hx hF13 hx1 hx2 hx3 hI3';have hL3:LM w3 pl g (S+V) (TE S G (aP G)) key:=H.out.lct.fr hF13 hx2 hx3;have hH3:dH w3 ph S (qOf (bT G s (some (a,b,x)))) (n+1) l' :=by
    rw[<-aNN (e:=(a,b,x))];exact HF2.out.1.fr hF3 (fun q hq hm=>by
      simp at hm;subst hm;rcases HF2.out.2.2.1 _ hq with e|e
      · exact(HH.out.1 _ e).2.2.2 rfl
      · simp at e;omega)
  have e1:=hB3.hd.cell 1;have e2:=hB3.hd.cell 2;simp only[zI,zJ]at e1 e2;have hw1:IntKind.i64.wrap ((S:Int)+a)=(S:Int)+a:=zF _ (by omega);have hw2:IntKind.i64.wrap ((S:Int)+b)=(S:Int)+b:=zF _ (by omega);have HM:=qA (aTB (show LG w3.drew pl g (S+V) (TE S G (aP G)) key _ from LG.fr hL3 (Fr.refl [] _).drew (by simp) (by simp)) ((S:Int)+a) ((S:Int)+b));have H3:=qA (zH hB3 (zH hH3 hF13));clear hI3 hI3' hF3 hF13 hB3 hL3 hH3 d4;have HN:=qA (zH H.out.ne1 (zH H.out.ne2 hlt))
  go_region_held3 (fun w' => w'.cell? ⟨pf, 1, none⟩ = some (.int .i64 S) /\ w'.cell? ⟨pf, 2, none⟩ = some (eO pl))
    (first
      | go_keep
      | (have N:=HN.out;exact⟨hF4.cell (by simp_all) (by simp;omega),hF4.cell (by simp_all) (by simp;omega)⟩))
    (first
      | (go_at_call 166;refine HM.out.mono ?_;rintro e w4 ⟨r,ok,rfl,hsay,hL4,hF4⟩))
  have hB4:=H3.out.1.asked (show LM w4 pl g (S+V) (TE S (bT G s (some (a,b,x))) (aP G)) key by rw[aQL ht];exact hL4) (((Fr.refl [g] w3).drew).trans' hF4);have hlen4:=hF4.size;have hH4:=H3.out.2.1.fr (((Fr.refl [g] w3).drew).trans' hF4) (fun q hq hm=>by
    simp at hm;subst hm;rcases HF2.out.2.2.1 _ hq with e|e
    · exact(HH.out.1 _ e).2.2.1 rfl
    · simp at e;omega)
  have hF04:Fr (pf::pl::g::mb::l) w w4:=(H3.out.2.2.mono (S' :=pf::pl::g::mb::l) (fun q hq=>.inl (by simp at hq ⊢;grind))).trans' ((((Fr.refl [g] w3).drew).trans' hF4).mono (fun q hq=>.inl (by simp at hq ⊢;grind)));have hdis:∀q∈l', q≠pf/\q≠pl/\q≠g/\q≠mb:=by
    intro q hq;rcases HF2.out.2.2.1 _ hq with e|e
    · exact HH.out.1 _ e
    · simp at e;omega
  have hnew:∀q∈pf::pl::g::mb::l', q∈pf::pl::g::mb::l∨w.heap.size<=q:=by
    intro q hq;simp only[qB]at hq ⊢;rcases hq with e|e|e|e|e
    · exact .inl (.inl e)
    · exact .inl (.inr (.inl e))
    · exact .inl (.inr (.inr (.inl e)))
    · exact .inl (.inr (.inr (.inr (.inl e))))
    · rcases HF2.out.2.2.1 _ e with e | e
      · exact .inl (.inr (.inr (.inr (.inr e))))
      · simp at e;exact .inr (by omega)
  have H4:=qA (zH hB4 (zH hH4 (zH hF04 (zH hdis hnew))));have HS:=qA (zH hsay hL4);clear hB4 hH4 hF04 hdis hnew hsay hL4 hF4 HM e1 e2;cases ok with
  | false=>
    have hc:¬Cx G (aP G) a b:=by
      rcases HS.out.1 with⟨_,_,hn⟩|⟨e,_⟩
      · intro hc
        exact hn ⟨by simp[inV];omega,by simp[inV];omega,by
          rw[show((S:Int)+a).toNat=S+a by omega,show((S:Int)+b).toNat=S+b by omega];exact xM (LG.frs HS.out.2) hc⟩
      · cases e
    have HFa:=qA (aAJ H4.out.1 (bE _ _ _) ht (fun e=>hc ((aJS ht _).1 e)));have HC:=qA hc;clear hc;go_wp2_with fail
    refine HFa.out.mono ?_;rintro _ w5 ⟨rfl,hB5,hF5⟩;have H5:=qA (zH hB5 hF5);clear hB5 hF5;go_wp2
    go_ret;exact⟨rfl,_,⟨pl,g,ph,mb,l', _,n+1,H5.out.1.congrT (fun t=>(aMR H.out.gw.slot h0 HC.out t).symm),H4.out.2.1.fr H5.out.2 (fun q hq hm=>by have:=H4.out.2.2.2.1 q hq;simp at hm;grind),H4.out.2.2.2.1,rfl⟩,H4.out.2.2.1.trans' (H5.out.2.mono (fun q hq=>.inl (by simp at hq ⊢;grind))),H4.out.2.2.2.2⟩
  | true=>
    obtain⟨m,ma,mz,y,hr,hms,hgm,htm,hcx,hcut⟩:∃(m ma mz:Nat) (y:Int),r=m/\m<S/\G m=some (ma,mz,y)/\aP G m/\Cx G (fun t=>aP G t/\(t=m∨Aft G m y t)) a b/\¬Cx G (fun t=>aP G t/\t≠m) a b:=by
      rcases HS.out.1 with⟨e,_⟩|⟨_,v,u,p,m,e1,e2,h3,h4,hp,hin,hf,hr⟩
      · cases e
      · obtain rfl : v = S + a := by omega
        obtain rfl:u=S+b:=by omega
        obtain⟨ma,mz,y,h5,h6,h7,h8⟩:=aCK H.out.gw H.out.keys hp hab hf hin;exact⟨m,ma,mz,y,hr,h5,h6,h7,h8,aQD H.out.frs (aQH H.out.frs (fun _ h=>h.1)) hp hf.1 h5⟩
    subst hr;have hmne:m≠s:=by rintro rfl;rw[h0]at hgm;cases hgm
    have hgm' :bT G s (some (a,b,x)) m=some (ma,mz,y):=by rw[aK hmne];exact hgm
    have hl4:=H4.out.1.edges.run_get (t:=150) (e:=184) (z:=edZ) Tryz.underlying3 Tryz.underlying150 (by kernel_rfl) rfl (gG (s:=m) (by omega));rw[cU,hgm']at hl4;simp only[Option.map_some,Option.getD_some,htm,decide_true,edV]at hl4;have c4:=H4.out.1.hd.cell 4;simp only[zI,zJ]at c4;have HG:=qA (zH hgm (zH htm (zH hcx (zH hcut hgm'))));clear hgm htm hcx hcut hgm';have hf45:Fr [] w4 (w4.alloc (.cells #[.int .i64 ma,.int .i64 mz,.int .i64 y,.bool true] 184)):=(Fr.refl _ _).alloc _;have HF45:=qA hf45;clear hf45;have HLo:=qA (aAH (H4.out.1.fr0 HF45.out) HG.out.2.2.2.2 HG.out.2.1);by_cases hb:bef x s y m
    · have HB' := qA hb
      have late:∀t,aP G t↔aP (bT G s (some (a,b,x))) t:=fun t=>(aIX h0 (HG.out.2.2.1.mono fun t _ ht _=>by
        rcases ht.2 with rfl|⟨c,d,z,h1,h2⟩
        · exact⟨_,_,_,HG.out.1,HB'.out⟩
        · exact⟨c,d,z,h1,fR HB'.out h2⟩) t).symm
      have HE:=qA (show ∃L', FAt (w4.alloc (.cells #[.int .i64 ma,.int .i64 mz,.int .i64 y,.bool true] 184)) pf S V (bT G s (some (a,b,x))) L' /\ Fr (pf::pl::g::mb::l) w (w4.alloc (.cells #[.int .i64 ma,.int .i64 mz,.int .i64 y,.bool true] 184))/\∀q∈L', q∈pf::pl::g::mb::l∨w.heap.size<=q from
        ⟨_,⟨pl,g,ph,mb,l', _,n+1,(H4.out.1.fr0 HF45.out).congrT late,H4.out.2.1.fr HF45.out (by simp),H4.out.2.2.2.1,rfl⟩,H4.out.2.2.1.trans' (HF45.out.mono (by simp)),H4.out.2.2.2.2⟩)
      clear late HLo;unfold bef at hb;by_cases h1:x<y
      · clear hb
        go_wp2_with fail
        go_ret;exact⟨rfl,HE.out⟩
      · have h2 : x = y := by omega
        have h3:s<m:=by omega
        subst h2;clear hb h1;go_wp2_with fail
        go_ret;exact⟨rfl,HE.out⟩
    · have hb' := aDX (show s ≠ m from hmne.symm) hb
      have HB' :=qA hb';unfold bef at hb hb';have swp:∀t,(aP G t/\t≠m)∨t=s↔aP (bT G s (some (a,b,x))) t:=fun t=>(aIY H.out.gw.slot h0 HG.out.1 HG.out.2.2.1 HG.out.2.2.2.1 HB'.out t).symm;have HSw:=qA swp;have HNC:=qA (show ¬Cx (bT G s (some (a,b,x))) (fun t=>aP G t/\t≠m) a b from fun e=>HG.out.2.2.2.1 ((aJS (fun h=>ht h.1) _).1 e));have n1:decide (x<y)=false:=qF (by omega);have n2:¬(x<y):=by omega
      have hfa:Hid (∀w5:World,FB w5 pf pl g ph mb S V (bT G s (some (a,b,x))) (fun t=>aP G t/\t≠m) key (n+1)->Calls Tryz.prog 178 #[eO pf,.int .i64 s] w5 fun e w' =>e=.returned (.tuple #[])/\FB w' pf pl g ph mb S V (bT G s (some (a,b,x))) (fun t=>(aP G t/\t≠m)∨t=s) (eK (S+V) key s x) (n+1)/\Fr [pf,pl,g,mb] w5 w'):=
        qA (fun w5 hB5=>aAJ hB5 (bE _ _ _) (fun h=>ht h.1) HNC.out)
      have fin:Hid (∀w5 w6:World,Fr [pf,pl,g,mb] (w4.alloc (.cells #[.int .i64 ma,.int .i64 mz,.int .i64 y,.bool true] 184)) w5->Fr [pf,pl,g,mb] w5 w6->FB w6 pf pl g ph mb S V (bT G s (some (a,b,x))) (fun t=>(aP G t/\t≠m)∨t=s) (eK (S+V) key s x) (n+1) ->
          ∃L', FAt w6 pf S V (bT G s (some (a,b,x))) L' /\ Fr (pf::pl::g::mb::l) w w6/\∀q∈L', q∈pf::pl::g::mb::l∨w.heap.size<=q):=qA (fun w5 w6 f5 f6 hB6=>by
        have f46:Fr [pf,pl,g,mb] w4 w6:=((HF45.out.mono (by simp)).trans' f5).trans' f6;exact⟨_,⟨pl,g,ph,mb,l', _,n+1,hB6.congrT HSw.out,H4.out.2.1.fr f46 (fun q hq hm=>by have:=H4.out.2.2.2.1 q hq;simp at hm;grind),H4.out.2.2.2.1,rfl⟩,H4.out.2.2.1.trans' (f46.mono (fun q hq=>.inl (by simp at hq ⊢;grind))),H4.out.2.2.2.2⟩)
      clear swp hb';by_cases e:x=y
      · have n3 : decide (s < m) = false := qF (by omega)
        subst e;clear hb;go_wp2_with fail
        refine HLo.out.mono ?_;rintro _ w5 ⟨rfl,hB5,hF5⟩;have HF5:=qA hF5;have HFa:=qA (hfa.out _ hB5);clear hB5 hF5;go_wp2_with fail
        refine HFa.out.mono ?_;rintro _ w6 ⟨rfl,hB6,hF6⟩;have HF6:=qA (fin.out w5 w6 HF5.out hF6 hB6);clear hB6 hF6;go_wp2_with fail
        go_ret;exact⟨rfl,HF6.out⟩
      · have n3 : (x == y) = false := by simp [e]
        have n4:(y == x)=false:=by simp;omega
        clear hb;go_wp2_with fail
        refine HLo.out.mono ?_;rintro _ w5 ⟨rfl,hB5,hF5⟩;have HF5:=qA hF5;have HFa:=qA (hfa.out _ hB5);clear hB5 hF5;go_wp2_with fail
        refine HFa.out.mono ?_;rintro _ w6 ⟨rfl,hB6,hF6⟩;have HF6:=qA (fin.out w5 w6 HF5.out hF6 hB6);clear hB6 hF6;go_wp2_with fail
        go_ret;exact⟨rfl,HF6.out⟩
end
section
variable {w w' :World} {pf pl g ph mb S V n:Nat} {G:cW} {key:Nat->Int}
@[go_sem] theorem aTH(e1 e2 e3:Int)(tb:Bool)(w:World):(Instr.field 184 (.agg #[.int .i64 e1,.int .i64 e2,.int .i64 e3,.bool tb]) 2).run Tryz.prog w=.ok (.int .i64 e3) w:=by kernel_rfl
@[go_sem] theorem aTC(e1 e2 e3:Int)(tb:Bool)(w:World):(Instr.field 184 (.agg #[.int .i64 e1,.int .i64 e2,.int .i64 e3,.bool tb]) 3).run Tryz.prog w=.ok (.bool tb) w:=by kernel_rfl
end
end Go.Proofs.YtjdgpcjbgjnahaaGreatDoor
