/- forest: its contracts, for the laws. -/
import Derived.Test.YtjdgpcjbgjnahaaGreatDoorH7
import Derived.BigQuiet
import Derived.WalkSpells
import Derived.Test.YtjdgpcjbgjnahaaGreatDoorH2
import Derived.Test.YtjdgpcjbgjnahaaGreatDoorH6
import Derived.Deep.RegionHeld3
import Derived.Test.YtjdgpcjbgjnahaaGreatDoorH3
import Derived.Maps.RangeWalk
import Derived.Shelf.Sort.Plain
import Derived.Shelf.Lay
import Derived.Shelf.Small.Bits
import Derived.Ground.NamesProg
import Derived.Sort.OwnSortedInts
import Derived.Test.YtjdgpcjbgjnahaaGreatDoorH1
set_option maxRecDepth 10000
set_option maxHeartbeats 1600000
set_option linter.unusedSimpArgs false
set_option linter.unusedVariables false
/- The heap: settle. -/
namespace Go.Proofs.YtjdgpcjbgjnahaaGreatDoor
open Go.RowKit
structure Sft (W w:World) (ph slots n:Nat) (e0 e:Nat->Nat×Int) (pl:Nat->Nat) (v:Value) (gp cp:Nat) (bs0 bs:Nat->Option Nat) (b1 b2 p:Nat):Prop where
  hm:HM w ph slots n e pl v gp cp bs
  ok:oB slots n e pl
  mem:∀y,(∃x,x<n/\e x=y)↔∃x,x<n/\e0 x=y
  c1:Blk w b1 149 [bQ ph]
  c2:Blk w b2 3 [.int .i64 p]
  a1:b1∉hB slots ph v gp bs
  a2:b2∉hB slots ph v gp bs
  a12:b1≠b2
  fr:Fr (b2::hB slots ph v gp bs0) W w
  new:∀b∈hB slots ph v gp bs,b∈hB slots ph v gp bs0∨W.heap.size<=b
  lt:p<n
section
variable {W w w' :World} {ph slots n:Nat} {e0 e:Nat->Nat×Int} {pl:Nat->Nat} {v:Value} {gp cp:Nat} {bs0 bs:Nat->Option Nat} {b1 b2 p:Nat}
theorem Sft.keep(h:Sft W w ph slots n e0 e pl v gp cp bs0 bs b1 b2 p)(hf:Fr [] w w'):Sft W w' ph slots n e0 e pl v gp cp bs0 bs b1 b2 p:=
  ⟨h.hm.fr0 hf,h.ok,h.mem,hf.blk h.c1 (by simp),hf.blk h.c2 (by simp),h.a1,h.a2,h.a12,h.fr.trans' (hf.mono (by simp)),h.new,h.lt⟩
theorem Sft.step(h:Sft W w ph slots n e0 e pl v gp cp bs0 bs b1 b2 p){q:Nat}(hq:q<n){bs' :Nat->Option Nat}(hm:HM w' ph slots n (jB e p q) (kE (kE pl (e q).1 (p+1)) (e p).1 (q+1)) v gp cp bs')
    (hf:Fr (hB slots ph v gp bs) w w') (hn:∀b∈hB slots ph v gp bs', b∈hB slots ph v gp bs∨w.heap.size<=b):
    Sft W (w'.setCell ⟨b2,0,none⟩ (.int .i64 (q:Int))) ph slots n e0 (jB e p q) (kE (kE pl (e q).1 (p+1)) (e p).1 (q+1)) v gp cp bs0 bs' b1 b2 q:=by
 have k1:=h.c1.lt;have k2:=h.c2.lt;have hs:=hf.size;have hs0:=h.fr.size;have n1:b1∉hB slots ph v gp bs' :=fun hm=>(hn b1 hm).elim h.a1 (fun e=>by omega);have n2:b2∉hB slots ph v gp bs' :=fun hm=>(hn b2 hm).elim h.a2 (fun e=>by omega);have hset:Fr [b2] w' (w'.setCell ⟨b2,0,none⟩ (.int .i64 (q:Int))):=(Fr.refl _ _).setCell _ _ (.inl (by simp));refine⟨hm.fr hset (fun b hb hm=>?_),h.ok.swap h.lt hq,fun y=>(aJD h.lt hq y).trans (h.mem y),(hf.blk h.c1 h.a1).other _ _ h.a12,?_,n1,n2,h.a12,?_,fun b hb=>?_,hq⟩
 · simp at hm;subst hm;exact n2 hb
 · have:=(hf.blk h.c2 h.a2).set 0 (.int .i64 (q:Int));exact this
 {
 refine(h.fr.trans hf (fun b hb=>(h.new b hb).imp (fun e=>List.mem_cons_of_mem _ e) (fun e=>e))).trans' (hset.mono (fun b hb=>.inl ?_));simp at hb;subst hb;exact List.mem_cons_self}
 {
 rcases hn b hb with e|e
 · exact h.new b e
 · exact .inr (by omega)}
def msd(n:Nat):Value->Nat
  | .int _ x=>if x<0 then 0 else n-x.toNat
  | _=>0
theorem aNW(n:Nat):msd n (.int .i64 (-1))=0:=by simp[msd]
theorem xS(n z:Nat):msd n (.int .i64 (z:Int))=n-z:=by
 show(if (z:Int)<0 then 0 else n-(z:Int).toNat)=n-z
 rw[qC (by omega)];simp
theorem aTJ(e:Nat->Nat×Int){q:Nat}(_hq:q<n):blw n e q=q∨(q<blw n e q/\blw n e q<n):=by
 rcases vK n e q with h|⟨h1,h2,_⟩
 · exact .inl h
 · exact .inr ⟨by omega,h1⟩
theorem aNX(h:Sft W w ph slots n e0 e pl v gp cp bs0 bs b1 b2 p)(hu:UpI n e p):
    Calls Tryz.prog 230 #[.func (.func 231) #[bQ ph] #[],bQ b2,bQ b1] w fun r w' =>r=.returned (.tuple #[])/\∃e' pl' bs' p', Sft W w' ph slots n e0 e' pl' v gp cp bs0 bs' b1 b2 p' /\ Hp n e' :=by
 have hnb:=h.hm.nb;have x1:=h.c1.cell 0;have x2:=h.c2.cell 0;simp only[zJ]at x1 x2;have HA:=qA (xR h.hm h.lt);have HS:=qA (zI h hu);clear h hu;go_enter Tryz.func230,Tryz.ntmps230
 go_wp2_with fail
 refine HA.out.mono ?_;rintro _ w1 ⟨rfl,hf1⟩;have HS1:=qA (zI (HS.out.1.keep hf1) HS.out.2);clear HS HA hf1 x1 x2;go_wp2
 go_loopw [4] (fun sq wr=>∃(e:Nat->Nat×Int) (pl:Nat->Nat) (bs:Nat->Option Nat) (p:Nat),sq=.int .i64 (oE e p)/\Hid (Sft W wr ph slots n e0 e pl v gp cp bs0 bs b1 b2 p/\UpI n e p)) (fun s _=>(intOf s+1).toNat)
 case atStart=>exact⟨e,pl,bs,p,rfl,HS1⟩
 case round=>
  clear HS1;obtain⟨e,pl,bs,p,rfl,HS⟩:=hrel;have hplt:=HS.out.1.lt;by_cases hc:0<p/\elt (e p) (e ((p-1)/2))
  {
  obtain⟨q,hq⟩:∃q,q=(p-1)/2:=⟨_,rfl⟩;have hv:oE e p=(q:Int):=by unfold oE;rw[qD hc,<-hq]
  have hqn:q<n:=by omega
  have hstep:=aNO HS.out.2 hc.1 hplt hc.2;rw[<-hq]at hstep;have HC:=qA hc;clear hc hq;have x1:=HS.out.1.c1.cell 0;have x2:=HS.out.1.c2.cell 0;simp only[zJ]at x1 x2;have HW:=qA (aJJ HS.out.1.hm HS.out.1.lt hqn HS.out.1.ok.lt);have t1:((q:Int) != -1)=true:=by simp
  have Hv:=qA hv;rw[hv];clear hv;go_wp2_with fail
  refine HW.out.mono ?_;rintro _ w2 ⟨rfl,bs2,hm2,hf2,hn2⟩;have hS2:=HS.out.1.step hqn hm2 hf2 hn2;have y1:=(hf2.blk HS.out.1.c1 HS.out.1.a1).cell 0;have y2:=(hf2.blk HS.out.1.c2 HS.out.1.a2).cell 0;have z2:=(hf2.blk HS.out.1.c2 HS.out.1.a2).frozen 0;have u2:=hS2.c2.cell 0;simp only[zJ]at y1 y2 u2;have HA2:=qA (xR hS2.hm hS2.lt);have HS2:=qA (zI hS2 hstep);clear hm2 hf2 hn2 hS2 hstep HW x1 x2;go_wp2_with fail
  refine HA2.out.mono ?_;rintro _ w3 ⟨rfl,hf3⟩;have HS3:=qA (zI (HS2.out.1.keep hf3) HS2.out.2);clear HS2 HA2 hf3 y1 y2 z2 u2;go_wp2
  go_roundw
  case rel=>exact⟨_,_,_,q,rfl,HS3⟩
  case measure=>(simp only[intOf];unfold oE;split<;>omega)}
  {
  have hv:oE e p=-1:=by unfold oE;rw[qC hc]
  have hdone:=aNN HS.out.2 hc;have HD:=qA hdone;clear hdone;rw[hv];clear hv;go_wp2
  go_end0
  exact⟨rfl,e,pl,bs,p,HS.out.1,HD.out⟩}
theorem aEK(h:Sft W w ph slots n e0 e pl v gp cp bs0 bs b1 b2 p)(hu:DnI n e p):
    Calls Tryz.prog 230 #[.func (.func 232) #[bQ ph] #[],bQ b2,bQ b1] w fun r w' =>r=.returned (.tuple #[])/\∃e' pl' bs' p', Sft W w' ph slots n e0 e' pl' v gp cp bs0 bs' b1 b2 p' /\ Hp n e' :=by
 have hnb:=h.hm.nb;have x1:=h.c1.cell 0;have x2:=h.c2.cell 0;simp only[zJ]at x1 x2;have HA:=qA (aEJ h.hm h.lt);have HS:=qA (zI h hu);clear h hu;go_enter Tryz.func230,Tryz.ntmps230
 go_wp2_with fail
 refine HA.out.mono ?_;rintro _ w1 ⟨rfl,hf1⟩;have HS1:=qA (zI (HS.out.1.keep hf1) HS.out.2);clear HS HA hf1 x1 x2;go_wp2
 go_loopw [4] (fun sq wr=>∃(e:Nat->Nat×Int) (pl:Nat->Nat) (bs:Nat->Option Nat) (p:Nat),sq=.int .i64 (pJ n e p)/\Hid (Sft W wr ph slots n e0 e pl v gp cp bs0 bs b1 b2 p/\DnI n e p)) (fun s _=>msd n s)
 case atStart=>exact⟨e,pl,bs,p,rfl,HS1⟩
 case round=>
  clear HS1;obtain⟨e,pl,bs,p,rfl,HS⟩:=hrel;have hplt:=HS.out.1.lt;by_cases hc:blw n e p≠p
  {
  obtain⟨q,hq⟩:∃q,q=blw n e p:=⟨_,rfl⟩;have hv:pJ n e p=(q:Int):=by unfold pJ;rw[qC hc,<-hq]
  obtain⟨hstep,hpq,hqn⟩:=aNR HS.out.2 hc;rw[<-hq]at hstep hpq hqn;have HC:=qA hc;clear hc hq;have x1:=HS.out.1.c1.cell 0;have x2:=HS.out.1.c2.cell 0;simp only[zJ]at x1 x2;have HW:=qA (aJJ HS.out.1.hm HS.out.1.lt hqn HS.out.1.ok.lt);have t1:((q:Int) != -1)=true:=by simp
  have Hv:=qA hv;rw[hv];clear hv;go_wp2_with fail
  refine HW.out.mono ?_;rintro _ w2 ⟨rfl,bs2,hm2,hf2,hn2⟩;have hS2:=HS.out.1.step hqn hm2 hf2 hn2;have y1:=(hf2.blk HS.out.1.c1 HS.out.1.a1).cell 0;have y2:=(hf2.blk HS.out.1.c2 HS.out.1.a2).cell 0;have z2:=(hf2.blk HS.out.1.c2 HS.out.1.a2).frozen 0;have u2:=hS2.c2.cell 0;simp only[zJ]at y1 y2 u2;have HA2:=qA (aEJ hS2.hm hS2.lt);have HS2:=qA (zI hS2 hstep);clear hm2 hf2 hn2 hS2 hstep HW x1 x2;go_wp2_with fail
  refine HA2.out.mono ?_;rintro _ w3 ⟨rfl,hf3⟩;have HS3:=qA (zI (HS2.out.1.keep hf3) HS2.out.2);clear HS2 HA2 hf3 y1 y2 z2 u2;go_wp2
  go_roundw
  case rel=>exact⟨_,_,_,q,rfl,HS3⟩
  case measure=>
   rcases aTJ (jB e p q) hqn with hb|⟨hb,hb2⟩
   {
   rw[show pJ n (jB e p q) q=-1 by unfold pJ;rw[qD hb],aNW,xS];omega}
   {
   rw[show pJ n (jB e p q) q=(blw n (jB e p q) q:Nat) by unfold pJ;rw[qC (by omega)],xS,xS];omega}}
  {
  have hv:pJ n e p=-1:=by unfold pJ;rw[qD (Classical.not_not.1 hc)]
  have hdone:=aNQ HS.out.2 (Classical.not_not.1 hc);have HD:=qA hdone;clear hdone;rw[hv];clear hv;go_wp2
  go_end0
  exact⟨rfl,e,pl,bs,p,HS.out.1,HD.out⟩}
theorem aTK(h:Hp n e)(hp:p<n):DnI n e p:=
  ⟨fun k h0 hk _=>h k h0 hk,fun h0 c hc0 hc hcp=>by
 have h1:=h c hc0 hc;rw[hcp]at h1;exact tF h1 (h p h0 hp)⟩
theorem aJK(h:Sft W w ph slots n e0 e pl v gp cp bs0 bs b1 b2 p)(hp0:p=0):
    Calls Tryz.prog 230 #[.func (.func 231) #[bQ ph] #[],bQ b2,bQ b1] w fun r w' =>r=.returned (.tuple #[])/\Fr [] w w' :=by
 have x1:=h.c1.cell 0;have x2:=h.c2.cell 0;simp only[zJ]at x1 x2;have hA:=xR h.hm h.lt;have e1:oE e p=-1:=by unfold oE;rw[qC (by omega)]
 rw[e1]at hA;have HA:=qA hA;clear h hA e1 hp0;go_enter Tryz.func230,Tryz.ntmps230
 go_wp2_with fail
 refine HA.out.mono ?_;rintro _ w1 ⟨rfl,hf1⟩;have HF:=qA hf1;clear HA hf1 x1 x2;go_wp2
 go_loopw [4] (fun sq wr=>sq=.int .i64 (-1)/\wr=w1) (fun _ _=>0)
 case atStart=>exact⟨rfl,rfl⟩
 case round=>
  obtain⟨rfl,rfl⟩:=hrel;go_wp2
  go_end0
  exact⟨rfl,HF.out⟩
theorem aJL(h:HM w ph slots n e pl v gp cp bs)(hk:oB slots n e pl){p:Nat}(hp:p<n)(hi:UpI n e p∨(p=0/\DnI n e 0)):
    Calls Tryz.prog 210 #[bQ ph,.int .i64 p] w fun r w' =>r=.returned (.tuple #[])/\∃e' pl' bs', HM w' ph slots n e' pl' v gp cp bs' /\ oB slots n e' pl' /\ Hp n e' /\ (∀y,(∃x,x<n/\e' x=y)↔∃x,x<n/\e x=y) /\
      Fr (hB slots ph v gp bs) w w' /\ ∀b∈hB slots ph v gp bs', b∈hB slots ph v gp bs∨w.heap.size<=b:=by
 have hlt:=h.lt;have k1:=Blk.new w [bQ ph] 149;have k2:=Blk.new (w.alloc (.cells [bQ ph].toArray 149)) [.int .i64 p] 3;have k1' :=k1.alloc (.cells [.int .i64 p].toArray 3);simp only[World.size_alloc]at k2;have hF0:Fr [] w ((w.alloc (.cells [bQ ph].toArray 149)).alloc (.cells [.int .i64 p].toArray 3)):=((Fr.refl _ _).alloc _).alloc _;have hS:Sft w ((w.alloc (.cells [bQ ph].toArray 149)).alloc (.cells [.int .i64 p].toArray 3)) ph slots n e e pl v gp cp bs bs w.heap.size (w.heap.size+1) p:=
   ⟨h.fr0 hF0,hk,fun y=>Iff.rfl,k1', k2,fun hm=>by have:=hlt _ hm;omega,fun hm=>by have:=hlt _ hm;omega,by omega,hF0.mono (by simp),fun b hb=>.inl hb,hp⟩
 have x1:=k1'.cell 0;simp only[zJ]at x1;have HS:=qA hS;have HI:=qA hi;clear hS hi h hk k1 k2 k1' hF0 hlt;have hsz:((w.alloc (.cells [bQ ph].toArray 149)).alloc (.cells [.int .i64 p].toArray 3)).heap.size=w.heap.size+2:=by simp
 have Hsz:=qA hsz;clear hsz;go_enter Tryz.func210,Tryz.ntmps210
 generalize hw0:((w.alloc (.cells #[bQ ph] 149)).alloc (.cells #[.int .i64 (p:Int)] 3))=w0 at *;have HW0:=qA hw0;clear hw0;rcases HI.out with hu|⟨hp0,hd⟩
 {
 have HU:=qA (aNX HS.out hu);clear hu HI;go_wp2_with fail
 rw[HW0.out];refine HU.out.mono ?_;rintro _ w1 ⟨rfl,e1,pl1,bs1,p1,h1,g1⟩;have x1:=h1.c1.cell 0;simp only[zJ]at x1;have HD:=qA (aEK h1 (aTK g1 h1.lt));clear h1 g1 HU HS;go_wp2_with fail
 refine HD.out.mono ?_;rintro _ w2 ⟨rfl,e2,pl2,bs2,p2,h2,g2⟩;have H2:=qA (zI h2 g2);clear h2 g2 HD;go_wp2
 go_end0
 exact⟨rfl,e2,pl2,bs2,H2.out.1.hm,H2.out.1.ok,H2.out.2,H2.out.1.mem,H2.out.1.fr.mono (fun b hb=>by
   rcases qB.1 hb with rfl|hb
   · exact .inr (by omega)
   · exact .inl hb),H2.out.1.new⟩}
 {
 have HU:=qA (aJK HS.out hp0);rw[<-hp0]at hd;have Hd:=qA hd;clear HI hp0 hd;go_wp2_with fail
 rw[HW0.out];refine HU.out.mono ?_;rintro _ w1 ⟨rfl,f1⟩;have h1:=HS.out.keep f1;have x1:=h1.c1.cell 0;simp only[zJ]at x1;have HD:=qA (aEK h1 Hd.out);clear h1 HU HS f1;go_wp2_with fail
 refine HD.out.mono ?_;rintro _ w2 ⟨rfl,e2,pl2,bs2,p2,h2,g2⟩;have H2:=qA (zI h2 g2);clear h2 g2 HD;go_wp2
 go_end0
 exact⟨rfl,e2,pl2,bs2,H2.out.1.hm,H2.out.1.ok,H2.out.2,H2.out.1.mem,H2.out.1.fr.mono (fun b hb=>by
   rcases qB.1 hb with rfl|hb
   · exact .inr (by omega)
   · exact .inl hb),H2.out.1.new⟩}
end
def fO(w:World)(ph slots:Nat)(Q:Nat->Option Int)(n:Nat)(l:List Nat):Prop:=
  ∃e pl v gp cp bs,HM w ph slots n e pl v gp cp bs/\oB slots n e pl/\Hp n e/\(∀i k,Q i=some k↔∃p,p<n/\e p=(i,k))/\l=hB slots ph v gp bs
def uJ(Q:Nat->Option Int)(i:Nat)(k:Option Int):Nat->Option Int:=fun x=>if x=i then k else Q x
theorem pK(Q:Nat->Option Int)(i:Nat)(k:Option Int):uJ Q i k i=k:=by simp[uJ]
theorem nH{Q:Nat->Option Int}{i x:Nat}{k:Option Int}(h:x≠i):uJ Q i k x=Q x:=by simp[uJ,h]
section
variable {w w' :World} {ph slots n:Nat} {Q:Nat->Option Int} {l S:List Nat}
theorem fO.lt(h:fO w ph slots Q n l):∀b∈l,b<w.heap.size:=by
 obtain⟨e,pl,v,gp,cp,bs,h1,_,_,_,rfl⟩:=h;exact h1.lt
theorem fO.fr(h:fO w ph slots Q n l)(hf:Fr S w w')(hs:∀b∈l,b∉S):fO w' ph slots Q n l:=by
 obtain⟨e,pl,v,gp,cp,bs,h1,h2,h3,h4,rfl⟩:=h;exact⟨e,pl,v,gp,cp,bs,h1.fr hf hs,h2,h3,h4,rfl⟩
end
section
variable {w w' :World} {ph slots n:Nat} {e:Nat->Nat×Int} {pl:Nat->Nat} {v:Value} {gp cp:Nat} {bs:Nat->Option Nat}
theorem HM.push(h:HM w ph slots n e pl v gp cp bs){w4:World}{g' cap' :Nat}(box:Obj)(x:Nat×Int)(hn:n+1<=65536)
    (hown:w4.ownsRow 0 223 2 (.slice (some ⟨g', 0,none⟩) (n+1) cap') (n+1) (lB n e++[.int .i64 x.1,.int .i64 x.2]))
    (hgrow:(w.alloc box).grownBy w4 v.ownBlock) (hg:v.ownBlock=some g' ∨ (w.alloc box).heap.size<=g'):
    HM (w4.setCell ⟨ph,2,none⟩ (.slice (some ⟨g', 0,none⟩) (n+1) cap')) ph slots (n+1) (lA e n x) pl (.slice (some ⟨g', 0,none⟩) (n+1) cap') gp cp bs /\
      Fr (hB slots ph v gp bs) w (w4.setCell ⟨ph,2,none⟩ (.slice (some ⟨g', 0,none⟩) (n+1) cap'))/\∀q∈hB slots ph (.slice (some ⟨g', 0,none⟩) (n+1) cap') gp bs,q∈hB slots ph v gp bs∨w.heap.size<=q:=by
 have hlt:=h.lt;simp only[World.size_alloc]at hg;have hF4:Fr v.ownBlock.toList w w4:=((Fr.refl _ _).alloc _).grown hgrow (fun q e=>.inl (by simp[e]));have e1:(Value.slice (some ⟨g', 0,none⟩) (n+1) cap').ownBlock=some g' :=rfl;have hne:∀b∈hB slots ph v gp bs,v.ownBlock≠some b->g' ≠ b:=by {
 rintro b hb hv rfl;rcases hg with e|e
 · exact hv e
 · have:=hlt _ hb;omega};have hg1:=hne ph (dN.2 (.inl rfl)) h.ap2;have hg2:=hne gp (dN.2 (.inr (.inl rfl))) h.ap3;rw[aGF]at hown;refine⟨⟨(hF4.blk h.hd (fun hm=>h.ap2 (by simpa using hm))).set 2 _,cY hown _ _ (by rw[e1];simpa using hg1),(hF4.blk h.dir (fun hm=>h.ap3 (by simpa using hm))).other _ _ (fun e=>h.ap1 e.symm),fun k b hk hb=>?_,h.none_,h.le,hn,h.pb,h.ap1,by rw[e1];simpa using hg1,by rw[e1];simpa using hg2,fun k b hk hb=>?_,h.ap5⟩,?_,?_⟩
 {
 have a4:=h.ap4 k b hk hb;exact(hF4.blk (h.some_ k b hk hb) (fun hm=>a4.2.2 (by simpa using hm))).other _ _ a4.1}
 {
 have a4:=h.ap4 k b hk hb;refine⟨a4.1,a4.2.1,?_⟩;rw[e1];simpa using hne b (dN.2 (.inr (.inr (.inr ⟨k,hk,hb⟩)))) a4.2.2}
 {
 refine(hF4.mono (fun q hq=>.inl ?_)).setCell _ _ (.inl (by simp[hB]));simp only[Option.mem_toList]at hq;exact dN.2 (.inr (.inr (.inl hq)))}
 {
 intro q hq;rcases dN.1 hq with hq|hq|hq|hq
 · exact .inl (dN.2 (.inl hq))
 · exact .inl (dN.2 (.inr (.inl hq)))
 {
 rw[e1]at hq;cases hq;rcases hg with e|e
 · exact .inl (dN.2 (.inr (.inr (.inl e))))
 · exact .inr (by omega)}
 · exact .inl (dN.2 (.inr (.inr (.inr hq))))}
def entZ:Value:=.agg #[.int .i64 0,.int .i64 0]
theorem Tryz.infoEnt:(Tryz.prog.info? 223).map (fun i=>(i.zero,i.size,i.bytes))=some (some entZ,2,16):=by kernel_rfl
end
theorem aEL{w:World}{ph slots n:Nat}{Q:Nat->Option Int}{l:List Nat}(h:fO w ph slots Q n l){i:Nat}(hi:i<slots)(hQ:Q i=none)(k:Int):
    Calls Tryz.prog 177 #[bQ ph,.int .i64 i,.int .i64 k] w fun r w' =>r=.returned (.int .i64 0)/\∃l', fO w' ph slots (uJ Q i (some k)) (n+1) l' /\ Fr l w w' /\ ∀b∈l', b∈l∨w.heap.size<=b:=by
 obtain⟨e,pl,v,gp,cp,bs,hm,hk,hp,hq,rfl⟩:=h;have hpl:pl i=0:=by {
 apply qQ;intro h0;obtain⟨p,hpn,hpe⟩:=hk.inv i h0;have:=(hq i (e p).2).2 ⟨p,hpn,by rw[<-hpe]⟩;rw[hQ]at this;cases this};have hk1:=hk.push (k:=k) hi hpl;have hn1:=hk1.le;have hle:=hm.le;have HV:=qA (zX hm);have HH:=qA (aJH hm hi);have hP:=aEH hm hi;rw[hpl]at hP;have HP:=qA hP;have c2:=hm.hd.cell 2;simp only[zJ,zK]at c2;obtain⟨a,cap,rfl⟩:=bH hm.items;have HM0:=qA hm;have HK:=qA (zI hk1 (aNP hp (i,k)));have HQ:=qA (zI hq hQ);have t1:(((0:Nat):Int)-1 != -1)=false:=by decide
 have t2:((0:Int)-1 != -1)=false:=by decide
 clear hm hk hp hq hQ hpl hP hk1;go_enter Tryz.func177,Tryz.ntmps177
 go_wp2_with fail
 refine HV.out.mono ?_;rintro _ w ⟨rfl,rfl⟩;go_wp2_with fail
 refine HH.out.mono ?_;rintro _ w ⟨rfl,rfl⟩;go_wp2_with fail
 refine HP.out.mono ?_;rintro _ w ⟨rfl,rfl⟩;go_wp2_with (at_builtin;refine iH rfl _ _ 239 rfl 223 entZ 2 16 Tryz.underlying239 Tryz.infoEnt rfl (by decide) (.slice a n cap) n _ rfl (HM0.out.items.alloc _) w.heap.size 223 [.int .i64 i,.int .i64 k] rfl (Blk.new w _ _) rfl (by simp[Value.oneCell']) (by omega) (by decide) ?_;intro g' cap' w4 hown4 hgrow4 hg4;obtain⟨hR4,hF4,hq4⟩:=HM.push HM0.out _ (i,k) (by omega) hown4 hgrow4 hg4;have hk4:=(((Fr.refl _ _).alloc _).grown (S:=(Value.slice a n cap).ownBlock.toList) hgrow4 (fun q e=>.inl (by simp[e]))).blk HM0.out.hd (fun hm=>HM0.out.ap2 (by simpa using hm));have z4:=hk4.frozen 2;have y4:=hk4.cell 2;simp only[zJ,zK]at y4)
 have H4:=qA (zI hR4 (zI hF4 hq4));clear hR4 hF4 hq4 hown4 hgrow4 hg4 hk4 c2;generalize hw5:w4.setCell ⟨ph,2,none⟩ (.slice (some ⟨g', 0,none⟩) (n+1) cap')=w5 at *;have HW5:=qA hw5;clear hw5;have HPu:=qA (aJI H4.out.1 hi (x:=n+1) (by omega) (n:Int) (by omega));refine HPu.out.mono ?_;rintro _ w6 ⟨rfl,bs6,h6,f6,s6⟩;have hs0:=H4.out.2.1.size;have HF6:=qA (H4.out.2.1.trans f6 H4.out.2.2);have HN6:Hid (∀b∈hB slots ph (.slice (some ⟨g', 0,none⟩) (n+1) cap') gp bs6,b∈hB slots ph (.slice a n cap) gp bs∨w.heap.size<=b):=qA (fun b hb=>(s6 b hb).elim (H4.out.2.2 b) (fun e=>.inr (by omega)));have HSe:=qA (aJL h6 HK.out.1 (p:=n) (by omega) (.inl HK.out.2));clear h6 f6 s6 HPu;go_wp2_with fail
 refine HSe.out.mono ?_;rintro _ w7 ⟨rfl,e7,pl7,bs7,h7,k7,p7,m7,f7,s7⟩;have hs6:=HF6.out.size;have H7:=qA (zI h7 (zI k7 (zI p7 m7)));have HF7:=qA (zI (HF6.out.trans f7 HN6.out) (show ∀b∈hB slots ph (.slice (some ⟨g', 0,none⟩) (n+1) cap') gp bs7,b∈hB slots ph (.slice a n cap) gp bs∨w.heap.size<=b from fun b hb=>(s7 b hb).elim (HN6.out b) (fun e=>.inr (by omega))));clear h7 k7 p7 m7 f7 s7 HSe;go_wp2
 go_ret;refine⟨rfl,_,⟨e7,pl7,_,gp,cp,bs7,H7.out.1,H7.out.2.1,H7.out.2.2.1,fun j x=>?_,rfl⟩,HF7.out.1,HF7.out.2⟩;rw[H7.out.2.2.2];constructor
 {
 intro hx;by_cases e1:j=i
 {
 subst e1;rw[pK]at hx;cases hx;exact⟨n,by omega,fF _ _ _⟩}
 {
 rw[nH e1]at hx;obtain⟨p,hp,hpe⟩:=(HQ.out.1 j x).1 hx;exact⟨p,by omega,by rw[dB (by omega)];exact hpe⟩}}
 {
 rintro⟨p,hp,hpe⟩;by_cases e1:p=n
 {
 subst e1;rw[fF]at hpe;simp only[zE]at hpe;obtain⟨rfl,rfl⟩:=hpe;exact pK _ _ _}
 {
 rw[dB e1]at hpe;have h1:=(HQ.out.1 j x).2 ⟨p,by omega,hpe⟩;rw[nH (fun e2=>by rw[e2,HQ.out.2]at h1;cases h1)];exact h1}}
section
variable {w w' :World} {ph slots n:Nat} {e:Nat->Nat×Int} {pl:Nat->Nat} {v:Value} {gp cp:Nat} {bs:Nat->Option Nat}
end
theorem aGG(m:Nat):madeCells (Value.pointer none).cells m=((List.range m).map fun k=>mH ((fun _=>none:Nat->Option Nat) k)).toArray:=by
 apply Array.ext
 · simp[madeCells]
 {
 intro i h1 h2;simp[madeCells,Value.cells,Nat.mod_one,mH]}
theorem uK(m:Nat)(w:World)(hn:m<=1048576):(Instr.makeSlice 240 (.int .i64 m) (.int .i64 m)).run Tryz.prog w=.ok (.slice (some ⟨w.heap.size,0,none⟩) m m) (w.alloc (.cells ((List.range m).map fun k=>mH ((fun _=>none:Nat->Option Nat) k)).toArray 244)):=by
 obtain⟨i0,hi,hz0,hz1,hz2⟩:=info_parts (show(Tryz.prog.info? 244).map (fun i=>(i.zero,i.size,i.bytes))=some (some (.pointer none),1,8) by kernel_rfl);have h:=run_make (P:=Tryz.prog) w 240 244 i0 (.pointer none) Tryz.underlying240 hi hz0 .i64 .i64 m m (by omega) (by omega) (by rw[hz2];omega) (by omega);rw[hz1]at h;simp only[zD,Nat.mul_one]at h;rw[aGG]at h;exact h
theorem aJM(slots:Nat)(w:World)(hs:slots<=65536):
    Calls Tryz.prog 129 #[.int .i64 slots] w fun r w' =>∃ph,r=.returned (.tuple #[bQ ph,.int .i64 0])/\∃l,fO w' ph slots (fun _=>none) 0 l/\Fr [] w w' /\ ∀b∈l,w.heap.size<=b:=by
 have hd0:decide ((slots:Int)<0)=false:=qF (by omega);have hd1:decide ((slots:Int)>65536)=false:=qF (by omega);obtain⟨m,hm⟩:∃m,m=(slots+63)/64:=⟨_,rfl⟩;have hmi:((slots:Int)+64-1)/64=(m:Int):=by omega
 have hmk:=uK m w (by omega);have HM0:=qA hm;clear hm;go_enter Tryz.func129,Tryz.ntmps129
 go_wp2
 go_ret2;have hb:=Blk.new (w.alloc (.cells ((List.range m).map fun k=>mH ((fun _=>none:Nat->Option Nat) k)).toArray 244)) [bQ (w.heap.size+1),.int .i64 slots,.slice none 0 0,.slice (some ⟨w.heap.size,0,none⟩) m m] 242;have hd:=(Blk.new w ((List.range m).map fun k=>mH ((fun _=>none:Nat->Option Nat) k)) 244).alloc (.cells [bQ (w.heap.size+1),.int .i64 slots,.slice none 0 0,.slice (some ⟨w.heap.size,0,none⟩) m m].toArray 242);rw[World.size_alloc]at hb;rw[HM0.out]at hb hd ⊢;refine⟨w.heap.size+1,rfl,_,⟨fun _=>(0,0),fun _=>0,.slice none 0 0,w.heap.size,_,fun _=>none,⟨hb,World.ownsRow_nil _ _ _ _,hd,fun k b _ h=>(by cases h),fun _ _ _ _ _=>rfl,hs,by omega,fun _=>by omega,by omega,by simp[Value.ownBlock],by simp[Value.ownBlock],fun k b _ h=>(by cases h),fun k k' b _ _ h=>(by cases h)⟩,⟨fun p hp=>by omega,fun p hp=>by omega,fun i hi=>absurd rfl hi⟩,fun k h0 hk=>by omega,fun i k=>⟨fun h=>by(cases h),fun⟨p,hp,_⟩=>by omega⟩,rfl⟩,((Fr.refl _ _).alloc _).alloc _,fun b hb=>?_⟩;rcases dN.1 hb with rfl|rfl|hb|⟨k,_,hb⟩
 · omega
 · omega
 · cases hb
 · cases hb
end Go.Proofs.YtjdgpcjbgjnahaaGreatDoor
namespace Go.Proofs.YtjdgpcjbgjnahaaGreatDoor
open Go.RowKit Classical
abbrev eN(b:Nat):Value:=.pointer (some ⟨b,0,none⟩)
def edV(e:Nat×Nat×Int)(t:Bool):Value:=.agg #[.int .i64 e.1,.int .i64 e.2.1,.int .i64 e.2.2,.bool t]
def edZ:Value:=.agg #[.int .i64 0,.int .i64 0,.int .i64 0,.bool false]
noncomputable def kG(G:cF)(T:Nat->Prop):Int->Option Value:=fun k=>if 0<=k then(G k.toNat).map (fun e=>edV e (decide (T k.toNat))) else none
theorem eS(G:cF)(T:Nat->Prop)(s:Nat):kG G T s=(G s).map (fun e=>edV e (decide (T s))):=by simp[kG]
def qOf(G:cF):Nat->Option Int:=fun i=>(G i).map fun e=>e.2.2
def okA:Value->Bool:=fun _=>true
structure FB (w:World) (pf pl g ph mb S V:Nat) (G:cF) (T:Nat->Prop) (key:Nat->Int) (n:Nat):Prop where
  hd:Blk w pf 152 [.int .i64 V,.int .i64 S,eN pl,eN ph,.map (some mb),.int .i64 (bZ S T)]
  lct:LM w pl g (S+V) (TE S G T) key
  edges:fH Tryz.prog 3 .i64 okA w mb (kG G T) n
  gw:GW S V G
  keys:aPS S V G T key
  cn:n=bZ S (fun s=>(G s).isSome=true)
  leS:S<=16384
  leV:V<=4096
  ne1:pf≠pl
  ne2:pf≠g
  ne3:pf≠mb
  ne4:pl≠mb
  ne5:g≠mb
section
variable {w w' :World} {pf pl g ph mb S V n:Nat} {G:cF} {T:Nat->Prop} {key:Nat->Int} {l:List Nat}
theorem FB.fr{X:List Nat}(h:FB w pf pl g ph mb S V G T key n)(hf:Fr X w w')(h1:pf∉X)(h2:pl∉X)(h3:g∉X)(h4:mb∉X):FB w' pf pl g ph mb S V G T key n:=
  ⟨hf.blk h.hd h1,h.lct.fr hf h2 h3,h.edges.same (hf.keep mb h.edges.lt h4),h.gw,h.keys,h.cn,h.leS,h.leV,h.ne1,h.ne2,h.ne3,h.ne4,h.ne5⟩
theorem FB.fr0(h:FB w pf pl g ph mb S V G T key n)(hf:Fr [] w w'):FB w' pf pl g ph mb S V G T key n:=h.fr hf (by simp) (by simp) (by simp) (by simp)
theorem FB.lt(h:FB w pf pl g ph mb S V G T key n):pf<w.heap.size/\pl<w.heap.size/\g<w.heap.size/\mb<w.heap.size:=⟨h.hd.lt,(LG.lts h.lct).1,(LG.lts h.lct).2.1,h.edges.lt⟩
theorem FB.frs(h:FB w pf pl g ph mb S V G T key n):Frs (TE S G T):=LG.frs h.lct
@[go_sem] theorem aTZ(w:World)(r:Option Nat):(binOp .neq 150 (.map r) (.map none)).run Tryz.prog w=.ok (.bool (!r.isNone)) w:=run_neq_map_nil w _ _ _ r Tryz.underlying150
theorem lC(h:FB w pf pl g ph mb S V G T key n):Calls Tryz.prog 99 #[eN pf] w fun e w' =>e=.returned (.bool true)/\w' =w:=by
 have c4:=h.hd.cell 4;simp only[zJ,zK]at c4;clear h;go_enter Tryz.func99,Tryz.ntmps99
 go_wp2
 go_ret;exact⟨rfl,rfl⟩
theorem nI(h:FB w pf pl g ph mb S V G T key n)(v:Int):Calls Tryz.prog 165 #[eN pf,.int .i64 v] w fun e w' =>e=.returned (.bool (inV V v))/\w' =w:=by
 have c0:=h.hd.cell 0;simp only[zJ]at c0;have hV:=qA (lC h);clear h;by_cases h1:0<=v
 {
 by_cases h2:v<V
 {
 have e:inV V v=true:=by simp[inV,h1,h2]
 rw[e];clear e;go_enter Tryz.func165,Tryz.ntmps165
 go_wp2_with fail
 refine hV.out.mono ?_;rintro _ w1 ⟨rfl,rfl⟩;go_wp2
 go_ret;exact⟨rfl,rfl⟩}
 {
 have e:inV V v=false:=by simp[inV,h2]
 rw[e];clear e;have t2:decide (v<V)=false:=qF h2;go_enter Tryz.func165,Tryz.ntmps165
 go_wp2_with fail
 refine hV.out.mono ?_;rintro _ w1 ⟨rfl,rfl⟩;go_wp2
 go_ret;exact⟨rfl,rfl⟩}}
 {
 have e:inV V v=false:=by simp[inV,h1]
 rw[e];clear e;go_enter Tryz.func165,Tryz.ntmps165
 go_wp2_with fail
 refine hV.out.mono ?_;rintro _ w1 ⟨rfl,rfl⟩;go_wp2
 go_ret;exact⟨rfl,rfl⟩}
theorem aJN(h:FB w pf pl g ph mb S V G T key n):Calls Tryz.prog 61 #[eN pf] w fun e w' =>e=.returned (.int .i64 ((V:Int)-bZ S T))/\Fr [] w w' :=by
 have c0:=h.hd.cell 0;have c5:=h.hd.cell 5;simp only[zJ,zK]at c0 c5;have hV:=qA (lC h);have h1:=h.leV;have h2:=h.leS;have h3:=lV S T;clear h;generalize bZ S T=q at *;go_enter Tryz.func61,Tryz.ntmps61
 go_wp2_with fail
 refine hV.out.mono ?_;rintro _ w1 ⟨rfl,rfl⟩;go_wp2_with fail
 go_quiet (fail)
 go_wp2
 go_ret;exact⟨rfl,(Fr.refl _ _).drewN _⟩
end
def eO(n:Nat)(key:Nat->Int)(a:Int)(k:Int):Nat->Int:=fun v=>if inV n a=true/\v=a.toNat then k else key v
def lY(n:Nat)(a:Int):Int:=if inV n a then 0 else 3
theorem aPT{w:World}{pf g n:Nat}{E:Nat->Nat->Prop}{key:Nat->Int}{ed:Int}(h:LG w pf g n E key ed)(a:Int)(k:Int):
    Calls Tryz.prog 131 #[.pointer (some ⟨pf,0,none⟩),.int .i64 a,.int .i64 k] w fun e w' =>e=.returned (.int .i64 (lY n a))/\LG w' pf g n E (eO n key a k) ed/\Fr [g] w w' :=by
 have H:=qA h;obtain⟨hp1,hg1,hn1⟩:=LG.lts h;obtain⟨cap,σ,F,par,d,rt,hL,hF,hE,hk⟩:=h;have HF:=qA hF;clear hF;have HE:=qA hE;clear hE;have HK:=qA hk;clear hk;have hLa:aE (w.alloc (.cells #[.int .i64 a] 3)) pf g (n+1) cap σ ed:=hL.below ((Below.refl _ w).alloc (qK _) _) hp1 hg1;have hblk:=Blk.new w [.int .i64 a] 3;have hFa:Fr [] w (w.alloc (.cells #[.int .i64 a] 3)):=(Fr.refl _ _).alloc _;have HMa:=qA (LG.fr H.out hFa (by simp) (by simp));have hCk:=xJ hLa w.heap.size 1 (fun _=>a) (by decide) (fun k hk=>by
   rw[hblk.cell];obtain rfl:k=0:=by omega
   rfl)
 have HCk:=qA hCk;clear hCk hblk hL;go_enter Tryz.func131,Tryz.ntmps131
 go_wp2_with fail
 refine HCk.out.mono ?_;rintro _ w1 ⟨hcode,rfl⟩;clear HCk;generalize w.alloc (.cells #[.int .i64 a] 3)=w1 at *;rcases hcode with⟨rfl,hall⟩|⟨rfl,j,hj,hbad⟩
 {
 have va:inV n a=true:=hall 0 (by decide);clear hall;obtain⟨v,rfl,hv⟩:=dW va;have Hva:=qA va;clear va;go_wp2_with fail
 refine(nY hLa HF.out v hv).mono ?_;rintro _ w2 ⟨m1,τ1,l1,R1,rfl,hL1,hE1,hF1⟩;have HS:=qA (hE1.lf.set k);have HE1:=qA hE1;clear hE1;have d1:=hL1.hd.cell 1;simp only[zJ,zK]at d1;have hfz:=hL1.nodes.frozen;have a4:=hL1.nodes.c4 (v+1) (by omega);obtain⟨hL2,hF2⟩:=hL1.st4 (Fr.refl [g] w2) (i:=v+1) (by omega) k;have HL2:=qA (show aE _ pf g (n+1) cap (set1 τ1 (v+1) k) ed from hL2);clear hL2;have hv2:((v+1:Nat):Int)<((n+1:Nat):Int):=by omega
 go_wp2_with fail
 refine(lU HL2.out v hv HS.out.2.2.2.2 HS.out.2.2.1 HS.out.2.2.2.1).mono ?_;rintro _ w3 ⟨rfl,hL3,hF3⟩;have HL3:=qA hL3;clear hL3;go_wp2
 go_ret;rw[show lY n (v:Int)=0 by unfold lY;rw[Hva.out];rfl];refine⟨rfl,⟨cap,_,_,par,d,rt,HL3.out,HS.out.1,HE.out,fun x hx=>?_⟩,(hFa.mono (S' :=[g]) (by simp)).then (hF1.then (hF2.then hF3))⟩;rw[HS.out.2.1];unfold eO;by_cases e:x=v
 · subst e;rw[qD rfl,qD ⟨Hva.out,by simp⟩]
 · rw[qC (by omega),qC (by simp;omega),HE1.out.key];exact HK.out x hx}
 {
 have hva:inV n a=false:=hbad;have Hva:=qA hva;clear hva hbad;go_wp2
 go_ret;rw[show lY n a=3 by unfold lY;rw[Hva.out];rfl];refine⟨rfl,?_,hFa.mono (by simp)⟩;have:eO n key a k=key:=by funext x;unfold eO;rw[qC (by simp[Hva.out])]
 rw[this];exact HMa.out}
theorem lD{N a:Nat}(h:a<N):inV N (a:Int)=true:=by simp[inV];omega
section
variable {w w' :World} {pl g N:Nat} {E:Nat->Nat->Prop} {key:Nat->Int}
theorem aJO(h:LM w pl g N E key){a b:Nat}(ha:a<N)(hb:b<N)(he:E a b)(b' :Int)(hb' :b' =b):
    Calls Tryz.prog 198 #[.pointer (some ⟨pl,0,none⟩),.int .i64 a,.int .i64 b'] w fun e w' =>e=.returned (.int .i64 0)/\LM w' pl g N (iN E a b) key/\Fr [pl,g] w w' :=by
 subst hb';have h1:=aTG h a b;have e1:gE N E a b=0:=by unfold gE;rw[qD ⟨lD ha,lD hb⟩];simp[he]
 have e2:xL N E a b=iN E a b:=by unfold xL;rw[qD e1];rfl
 rw[e1,e2]at h1;exact h1
theorem link_ok' (h:LM w pl g N E key){a b:Nat}(ha:a<N)(hb:b<N)(hne:a≠b)(hc:¬bJ E a b)(b' :Int)(hb' :b' =b):
    Calls Tryz.prog 214 #[.pointer (some ⟨pl,0,none⟩),.int .i64 a,.int .i64 b'] w fun e w' =>e=.returned (.int .i64 0)/\LM w' pl g N (dZ E a b) key/\Fr [pl,g] w w' :=by
 subst hb';exact aNJ h a b ha hb hne hc
end
section
variable {w w' :World} {pf pl g ph mb S V n:Nat} {G:cF} {T:Nat->Prop} {key:Nat->Int} {l:List Nat}
theorem zZ{s:Nat}{e:Nat×Nat×Int}{T' :Nat->Prop}{v:Value}(hg:G s=some e)(hv:v=edV e (decide (T' s)))(hT:∀t,t≠s->(T t↔T' t)):sG (kG G T) s (some v)=kG G T' :=by
 funext k
 by_cases hk:k=(s:Int)
 · subst hk;rw[gV,eS,hg,hv];rfl
 {
 rw[eX hk];unfold kG;by_cases h0:0<=k
 {
 have:k.toNat≠s:=by omega
 simp only[hT _ this]}
 · simp only[h0,if_false]}
theorem lE{s:Nat}(h:s<=100000):(Lit.int .i64 (s:Int)).wf=true:=by
 show(decide ((-9223372036854775808:Int)<=s)&&decide ((s:Int)<=9223372036854775807))=true
 simp;omega
theorem aJP(h:FB w pf pl g ph mb S V G T key n){m ma mz:Nat}{y:Int}(hg:G m=some (ma,mz,y))(ht:T m):
    Calls Tryz.prog 151 #[eN pf,.int .i64 m] w fun e w' =>e=.returned (.tuple #[])/\FB w' pf pl g ph mb S V G (fun t=>T t/\t≠m) key n/\Fr [pf,pl,g,mb] w w' :=by
 have hms:=h.gw.slot _ _ hg;have hen:=h.gw.ends _ _ _ _ hg;have hS:=h.leS;have hV:=h.leV;have hlt:=h.lt;have hcT:=jA hms ht;have hcle:=lV S T;have hne:=zI h.ne1 (zI h.ne2 (zI h.ne3 (zI h.ne4 h.ne5)));have hl0:=h.edges.run_get (t:=150) (e:=184) (z:=edZ) Tryz.underlying3 Tryz.underlying150 (by kernel_rfl) rfl (lE (s:=m) (by omega));rw[eS,hg]at hl0;simp only[Option.map_some,Option.getD_some,ht,decide_true,edV]at hl0;have e1:TE S G T m (S+ma):=⟨m,ma,mz,y,hg,ht,.inl ⟨rfl,.inl rfl⟩⟩;have e2:iN (TE S G T) m (S+ma) m (S+mz):=⟨⟨m,ma,mz,y,hg,ht,.inl ⟨rfl,.inr rfl⟩⟩,by omega,by omega⟩;have c1:=(h.hd.alloc (.cells #[.int .i64 ma,.int .i64 mz,.int .i64 y,.bool true] 184)).cell 1;have c2:=(h.hd.alloc (.cells #[.int .i64 ma,.int .i64 mz,.int .i64 y,.bool true] 184)).cell 2;have c4:=h.hd.cell 4;simp only[zJ,zK]at c1 c2 c4;have hw1:IntKind.i64.wrap ((S:Int)+ma)=(S:Int)+ma:=zG _ (by omega);have hw2:IntKind.i64.wrap ((S:Int)+mz)=(S:Int)+mz:=zG _ (by omega);have hf0:Fr [] w (w.alloc (.cells #[.int .i64 ma,.int .i64 mz,.int .i64 y,.bool true] 184)):=(Fr.refl _ _).alloc _;have hb:=Blk.new w [.int .i64 ma,.int .i64 mz,.int .i64 y,.bool true] 184;have HC1:=qA (aJO (h.fr0 hf0.drew).lct (a:=m) (b:=S+ma) (by omega) (by omega) e1 ((S:Int)+ma) (by omega));have H:=qA h;have E2:=qA e2;have HB:=qA (zI hf0 hb);have HN:=qA (zI hne hlt);clear h e1 e2 hf0 hb hne hlt;have x0:=HB.out.2.cell 0;have x1:=HB.out.2.cell 1;simp only[zJ,zK]at x0 x1;go_enter Tryz.func151,Tryz.ntmps151
 go_wp2
 go_region_held3 (fun w' => w'.cell? ⟨pf, 1, none⟩ = some (.int .i64 S) /\ w'.cell? ⟨pf, 2, none⟩ = some (eN pl) /\ w'.cell? ⟨w.heap.size, 0, none⟩ = some (.int .i64 ma))
   (first
     | go_keep
     | (have N:=HN.out;exact⟨hF3.cell (by simp_all) (by simp;omega),hF3.cell (by simp_all) (by simp;omega),hF3.cell (by simp_all) (by simp;omega)⟩))
   (first
     | (go_at_call 198;refine HC1.out.mono ?_;rintro e w3 ⟨rfl,hL3,hF3⟩))
 have hlt3:=HN.out.2;have hpf3:Blk w3 pf _ _:=hF3.blk ((Fr.refl [] _).drew.blk (HB.out.1.blk H.out.hd (by simp)) (by simp)) (by have N:=HN.out;simp;omega);have hbx3:Blk w3 w.heap.size _ _:=hF3.blk ((Fr.refl [] _).drew.blk HB.out.2 (by simp)) (by simp;omega);have hF3' :Fr [pl,g] w w3:=(HB.out.1.drew.mono (S' :=[pl,g]) (by simp)).trans' hF3;have HC2:=qA (aJO (show LM w3.drew pl g (S+V) (iN (TE S G T) m (S+ma)) key from LG.fr hL3 (Fr.refl [] _).drew (by simp) (by simp)) (a:=m) (b:=S+mz) (by omega) (by omega) E2.out ((S:Int)+mz) (by omega));have d1:=hpf3.cell 1;have d2:=hpf3.cell 2;have y1:=hbx3.cell 1;simp only[zJ,zK]at d1 d2 y1;have HF3:=qA (zI hF3' (zI hpf3 hbx3));clear hF3' hpf3 hbx3 hF3 hL3 HC1 c1 c2 x0 x1;go_wp2
 go_region_held3 (fun w' => w'.cell? ⟨pf, 1, none⟩ = some (.int .i64 S) /\ w'.cell? ⟨pf, 2, none⟩ = some (eN pl) /\ w'.cell? ⟨w.heap.size, 1, none⟩ = some (.int .i64 mz))
   (first
     | go_keep
     | (have N:=HN.out;exact⟨hF4.cell (by simp_all) (by simp;omega),hF4.cell (by simp_all) (by simp;omega),hF4.cell (by simp_all) (by simp;omega)⟩))
   (first
     | (go_at_call 198;refine HC2.out.mono ?_;rintro e w4 ⟨rfl,hL4,hF4⟩))
 have hpf4:Blk w4 pf _ _:=hF4.blk ((Fr.refl [] _).drew.blk HF3.out.2.1 (by simp)) (by have N:=HN.out;simp;omega);have hbx4:Blk w4 w.heap.size _ _:=hF4.blk ((Fr.refl [] _).drew.blk HF3.out.2.2 (by simp)) (by simp;omega);have hF4' :Fr [pl,g] w w4:=(HF3.out.1.drew).trans' hF4;rw[aQV H.out.gw.slot hg]at hL4;have y3:=hbx4.cell 3;have z3:=hbx4.frozen 3;simp only[zJ,zK]at y3;have hbx5:=hbx4.set 3 (.bool false);have hpf5:=hpf4.other ⟨w.heap.size,3,none⟩ (.bool false) (by show pf≠w.heap.size;omega);have HL4:=qA (zI hL4 hF4');have HX5:=qA (zI hpf5 hbx5);clear hL4 hF4' hpf4 hbx4 hpf5 hbx5 hF4 HC2 d1 d2 y1;go_wp2
 have HS5:=qA (show Fr [w.heap.size] w4 (w4.setCell ⟨w.heap.size,3,none⟩ (.bool false)) from(Fr.refl _ _).setCell _ _ (.inl (by simp)));generalize w4.setCell ⟨w.heap.size,3,none⟩ (.bool false)=w5 at *;clear y3 z3;have hI5:fH Tryz.prog 3 .i64 okA w5 mb (kG G T) n:=H.out.edges.same (by
   rw[HS5.out.keep mb (by have:=HL4.out.2.size;omega) (by simp;omega),HL4.out.2.keep mb (by omega) (by have N:=HN.out;simp;omega)])
 have f4:=HX5.out.1.cell 4;have y0:=HX5.out.2.cell 0;have y1:=HX5.out.2.cell 1;have y2:=HX5.out.2.cell 2;have y3:=HX5.out.2.cell 3;simp only[qU,qY,zJ,zK]at f4 y0 y1 y2 y3;have HI5:=qA hI5;clear hI5;refine bS 6 (fun w' =>fH Tryz.prog 3 .i64 okA w' mb (kG G (fun t=>T t/\t≠m)) n/\Fr [mb] w5 w') (by kernel_rfl) (by kernel_rfl) (by kernel_rfl) ?_;iterate 6 (refine cK (by decide) (fun K hK=>?_);go_simp;refine hK _ ?_;clear hK K)
 refine bL rfl undef (fun w' hw' =>?_) ?_
 {
 obtain⟨nq,rfl⟩:=hw';obtain⟨w6,hrun,hI6,hF6⟩:=(HI5.out.same (w' :=w5.drewN nq) rfl).put (t:=150) (e:=184) Tryz.underlying3 Tryz.underlying150 (by rw[H.out.cn];unfold maxLen;have:=lV S (fun s=>(G s).isSome=true);omega) (lE (s:=m) (by omega)) (v:=.agg #[.int .i64 ma,.int .i64 mz,.int .i64 y,.bool false]) rfl;rw[eS,hg,zZ (T' :=fun t=>T t/\t≠m) hg (by simp[edV]) (fun t ht=>by simp[ht])]at hI6;go_simp;exact⟨hI6,(((Fr.refl [mb] w5).drewN nq)).trans' hF6⟩};refine cL ?_;rintro w6 ⟨hI6,hF6⟩;have hpf6:=hF6.blk HX5.out.1 (by have N:=HN.out;simp;omega);rw[<-hcT]at hpf6;generalize hz:bZ S (fun t=>T t/\t≠m)=z at *;have f5:w6.cell? ⟨pf,5,none⟩=some (.int .i64 ((z:Int)+1)):=hpf6.cell 5;have q5:=hpf6.frozen 5;have hw5:IntKind.i64.wrap ((z:Int)+1-1)=(z:Int):=by rw[show(z:Int)+1-1=z by omega];exact zG _ (by omega)
 have hpf7:=hpf6.set 5 (.int .i64 (z:Int));have HP7:=qA hpf7;have HI6:=qA (zI hI6 hF6);have HZ:=qA hz;clear hpf6 hpf7 hI6 hF6 hz f4 y0 y1 y2 y3;go_wp2
 go_end0
 have e7:(z:Int)+1-1=z:=by omega
 have hF7:Fr [pf] w6 (w6.setCell ⟨pf,5,none⟩ (.int .i64 (z:Int))):=(Fr.refl _ _).setCell _ _ (.inl (by simp));have N:=HN.out;have s4:=HL4.out.2.size;have hF47:Fr [w.heap.size,mb,pf] w4 (w6.setCell ⟨pf,5,none⟩ (.int .i64 (z:Int))):=
   ((HS5.out.mono (fun q hq=>.inl (by simp at hq ⊢;exact .inl hq))).trans' (HI6.out.2.mono (fun q hq=>.inl (by simp at hq ⊢;exact .inr (.inl hq))))).trans' (hF7.mono (fun q hq=>.inl (by simp at hq ⊢;exact .inr (.inr hq))))
 try rw[e7]
 refine⟨rfl,⟨?_,LG.fr HL4.out.1 hF47 (by simp;omega) (by simp;omega),HI6.out.1.same (hF7.keep mb HI6.out.1.lt (by simp;omega)),H.out.gw,⟨fun t a b x h1 h2=>H.out.keys.slot t a b x h1 h2.1,H.out.keys.vert⟩,H.out.cn,H.out.leS,H.out.leV,H.out.ne1,H.out.ne2,H.out.ne3,H.out.ne4,H.out.ne5⟩,
   (HL4.out.2.mono (fun q hq=>.inl (by simp at hq ⊢;omega))).trans hF47 (fun q hq=>by simp at hq ⊢;omega)⟩
 rw[HZ.out];exact HP7.out
theorem aQY{w:World}{pl g N:Nat}{E:Nat->Nat->Prop}{key:Nat->Int}(h:LM w pl g N E key){a:Nat}(ha:a<N)(k:Int):
    Calls Tryz.prog 131 #[.pointer (some ⟨pl,0,none⟩),.int .i64 a,.int .i64 k] w fun e w' =>e=.returned (.int .i64 0)/\LM w' pl g N E (eO N key a k)/\Fr [pl,g] w w' :=by
 refine(aPT h a k).mono ?_;rintro e w' ⟨rfl,h1,h2⟩;exact⟨by unfold lY;rw[lD ha];rfl,h1,h2.mono (fun q hq=>.inl (by simp at hq ⊢;exact .inr hq))⟩
theorem aAA{N a:Nat}(ha:a<N)(key:Nat->Int)(k:Int):eO N key a k a=k:=by
 unfold eO;rw[qD ⟨lD ha,by simp⟩]
theorem oF{N a v:Nat}(key:Nat->Int)(k:Int)(hv:v≠a):eO N key a k v=key v:=by
 unfold eO;rw[qC (by simp;omega)]
theorem aAB(h:FB w pf pl g ph mb S V G T key n){m ma mz:Nat}{y:Int}(hg:G m=some (ma,mz,y))(ht:¬T m)(hc:¬Cx G T ma mz):
    Calls Tryz.prog 178 #[eN pf,.int .i64 m] w fun e w' =>e=.returned (.tuple #[])/\FB w' pf pl g ph mb S V G (fun t=>T t∨t=m) (eO (S+V) key m y) n/\Fr [pf,pl,g,mb] w w' :=by
 have hms:=h.gw.slot _ _ hg;have hen:=h.gw.ends _ _ _ _ hg;have hS:=h.leS;have hV:=h.leV;have hlt:=h.lt;have hcT:=aJA hms ht;have hcle:=lV S T;have hne:=zI h.ne1 (zI h.ne2 (zI h.ne3 (zI h.ne4 h.ne5)));have hl0:=h.edges.run_get (t:=150) (e:=184) (z:=edZ) Tryz.underlying3 Tryz.underlying150 (by kernel_rfl) rfl (lE (s:=m) (by omega));rw[eS,hg]at hl0;simp only[Option.map_some,Option.getD_some,ht,decide_false,edV]at hl0;have hfr:=h.frs;have n1:¬bJ (TE S G T) m (S+ma):=zV ht hms (by omega) hfr;have n2:¬bJ (TE S G T) m (S+mz):=zV ht hms (by omega) hfr;have n3:¬bJ (TE S G T) (S+ma) (S+mz):=fun e=>hc ((aQS h.gw.slot hfr).1 e);have e2:Frs (dZ (TE S G T) m (S+ma))->¬bJ (dZ (TE S G T) m (S+ma)) m (S+mz):=by {
 intro h' e;rcases(zO hfr h' _ _).1 e with e|⟨_,e⟩|⟨_,e⟩
 · exact n2 e
 · exact n3 e
 · exact n2 e};have c1:=(h.hd.alloc (.cells #[.int .i64 ma,.int .i64 mz,.int .i64 y,.bool false] 184)).cell 1;have c2:=(h.hd.alloc (.cells #[.int .i64 ma,.int .i64 mz,.int .i64 y,.bool false] 184)).cell 2;have c4:=h.hd.cell 4;simp only[zJ,zK]at c1 c2 c4;have hw1:IntKind.i64.wrap ((S:Int)+ma)=(S:Int)+ma:=zG _ (by omega);have hw2:IntKind.i64.wrap ((S:Int)+mz)=(S:Int)+mz:=zG _ (by omega);have hf0:Fr [] w (w.alloc (.cells #[.int .i64 ma,.int .i64 mz,.int .i64 y,.bool false] 184)):=(Fr.refl _ _).alloc _;have hb:=Blk.new w [.int .i64 ma,.int .i64 mz,.int .i64 y,.bool false] 184;have HC0:=qA (aQY (h.fr0 hf0.drew).lct (a:=m) (by omega) y);have H:=qA h;have E1:=qA n1;have E2:=qA e2;have HB:=qA (zI hf0 hb);have HN:=qA (zI hne hlt);clear h e2 n1 n2 n3 hf0 hb hne hlt hfr hc;have x2:=HB.out.2.cell 2;simp only[zJ,zK]at x2;go_enter Tryz.func178,Tryz.ntmps178
 go_wp2
 go_region_held3 (fun w' => w'.cell? ⟨pf, 2, none⟩ = some (eN pl) /\ w'.cell? ⟨w.heap.size, 2, none⟩ = some (.int .i64 y))
   (first
     | go_keep
     | (have N:=HN.out;exact⟨hF2.cell (by simp_all) (by simp;omega),hF2.cell (by simp_all) (by simp;omega)⟩))
   (first
     | (go_at_call 131;refine HC0.out.mono ?_;rintro e w2 ⟨rfl,hL2,hF2⟩))
 have hlt3:=HN.out.2;have hpf2:Blk w2 pf _ _:=hF2.blk ((Fr.refl [] _).drew.blk (HB.out.1.blk H.out.hd (by simp)) (by simp)) (by have N:=HN.out;simp;omega);have hbx2:Blk w2 w.heap.size _ _:=hF2.blk ((Fr.refl [] _).drew.blk HB.out.2 (by simp)) (by simp;omega);have hF2' :Fr [pl,g] w w2:=(HB.out.1.drew.mono (S' :=[pl,g]) (by simp)).trans' hF2;have HC1:=qA (link_ok' (show LM w2.drew pl g (S+V) (TE S G T) (eO (S+V) key m y) from LG.fr hL2 (Fr.refl [] _).drew (by simp) (by simp)) (a:=m) (b:=S+ma) (by omega) (by omega) (by omega) E1.out ((S:Int)+ma) (by omega));have d1:=hpf2.cell 1;have d2:=hpf2.cell 2;have y1:=hbx2.cell 0;simp only[zJ,zK]at d1 d2 y1;have HF2:=qA (zI hF2' (zI hpf2 hbx2));clear hF2' hpf2 hbx2 hF2 hL2 HC0 c1 c2 x2;go_wp2
 go_region_held3 (fun w' => w'.cell? ⟨pf, 1, none⟩ = some (.int .i64 S) /\ w'.cell? ⟨pf, 2, none⟩ = some (eN pl) /\ w'.cell? ⟨w.heap.size, 0, none⟩ = some (.int .i64 ma))
   (first
     | go_keep
     | (have N:=HN.out;exact⟨hF3.cell (by simp_all) (by simp;omega),hF3.cell (by simp_all) (by simp;omega),hF3.cell (by simp_all) (by simp;omega)⟩))
   (first
     | (go_at_call 214;refine HC1.out.mono ?_;rintro e w3 ⟨rfl,hL3,hF3⟩))
 have hpf3:Blk w3 pf _ _:=hF3.blk ((Fr.refl [] _).drew.blk HF2.out.2.1 (by simp)) (by have N:=HN.out;simp;omega);have hbx3:Blk w3 w.heap.size _ _:=hF3.blk ((Fr.refl [] _).drew.blk HF2.out.2.2 (by simp)) (by simp;omega);have hF3' :Fr [pl,g] w w3:=(HF2.out.1.drew).trans' hF3;have hL3' :LM w3.drew pl g (S+V) (dZ (TE S G T) m (S+ma)) (eO (S+V) key m y):=LG.fr hL3 (Fr.refl [] _).drew (by simp) (by simp);have HC2:=qA (link_ok' hL3' (a:=m) (b:=S+mz) (by omega) (by omega) (by omega) (E2.out hL3'.frs) ((S:Int)+mz) (by omega));have d1:=hpf3.cell 1;have d2:=hpf3.cell 2;have y1:=hbx3.cell 1;simp only[zJ,zK]at d1 d2 y1;have HF3:=qA (zI hF3' (zI hpf3 hbx3));clear hF3' hpf3 hbx3 hF3 hL3 hL3' HC1;go_wp2
 go_region_held3 (fun w' => w'.cell? ⟨pf, 1, none⟩ = some (.int .i64 S) /\ w'.cell? ⟨pf, 2, none⟩ = some (eN pl) /\ w'.cell? ⟨w.heap.size, 1, none⟩ = some (.int .i64 mz))
   (first
     | go_keep
     | (have N:=HN.out;exact⟨hF4.cell (by simp_all) (by simp;omega),hF4.cell (by simp_all) (by simp;omega),hF4.cell (by simp_all) (by simp;omega)⟩))
   (first
     | (go_at_call 214;refine HC2.out.mono ?_;rintro e w4 ⟨rfl,hL4,hF4⟩))
 have hpf4:Blk w4 pf _ _:=hF4.blk ((Fr.refl [] _).drew.blk HF3.out.2.1 (by simp)) (by have N:=HN.out;simp;omega);have hbx4:Blk w4 w.heap.size _ _:=hF4.blk ((Fr.refl [] _).drew.blk HF3.out.2.2 (by simp)) (by simp;omega);have hF4' :Fr [pl,g] w w4:=(HF3.out.1.drew).trans' hF4;rw[aQU hg]at hL4;have y3:=hbx4.cell 3;have z3:=hbx4.frozen 3;simp only[zJ,zK]at y3;have hbx5:=hbx4.set 3 (.bool true);have hpf5:=hpf4.other ⟨w.heap.size,3,none⟩ (.bool true) (by show pf≠w.heap.size;omega);have HL4:=qA (zI hL4 hF4');have HX5:=qA (zI hpf5 hbx5);clear hL4 hF4' hpf4 hbx4 hpf5 hbx5 hF4 HC2 d1 d2 y1;go_wp2
 have HS5:=qA (show Fr [w.heap.size] w4 (w4.setCell ⟨w.heap.size,3,none⟩ (.bool true)) from(Fr.refl _ _).setCell _ _ (.inl (by simp)));generalize w4.setCell ⟨w.heap.size,3,none⟩ (.bool true)=w5 at *;clear y3 z3;have hI5:fH Tryz.prog 3 .i64 okA w5 mb (kG G T) n:=H.out.edges.same (by
   rw[HS5.out.keep mb (by have:=HL4.out.2.size;omega) (by simp;omega),HL4.out.2.keep mb (by omega) (by have N:=HN.out;simp;omega)])
 have f4:=HX5.out.1.cell 4;have y0:=HX5.out.2.cell 0;have y1:=HX5.out.2.cell 1;have y2:=HX5.out.2.cell 2;have y3:=HX5.out.2.cell 3;simp only[qU,qY,zJ,zK]at f4 y0 y1 y2 y3;have HI5:=qA hI5;clear hI5;refine bS 6 (fun w' =>fH Tryz.prog 3 .i64 okA w' mb (kG G (fun t=>T t∨t=m)) n/\Fr [mb] w5 w') (by kernel_rfl) (by kernel_rfl) (by kernel_rfl) ?_;iterate 6 (refine cK (by decide) (fun K hK=>?_);go_simp;refine hK _ ?_;clear hK K)
 refine bL rfl undef (fun w' hw' =>?_) ?_
 {
 obtain⟨nq,rfl⟩:=hw';obtain⟨w6,hrun,hI6,hF6⟩:=(HI5.out.same (w' :=w5.drewN nq) rfl).put (t:=150) (e:=184) Tryz.underlying3 Tryz.underlying150 (by rw[H.out.cn];unfold maxLen;have:=lV S (fun s=>(G s).isSome=true);omega) (lE (s:=m) (by omega)) (v:=.agg #[.int .i64 ma,.int .i64 mz,.int .i64 y,.bool true]) rfl;rw[eS,hg,zZ (T' :=fun t=>T t∨t=m) hg (by simp[edV]) (fun t ht=>by simp[ht])]at hI6;go_simp;exact⟨hI6,(((Fr.refl [mb] w5).drewN nq)).trans' hF6⟩};refine cL ?_;rintro w6 ⟨hI6,hF6⟩;have hpf6:=hF6.blk HX5.out.1 (by have N:=HN.out;simp;omega);generalize hz:bZ S T=z at *;have f5:w6.cell? ⟨pf,5,none⟩=some (.int .i64 (z:Int)):=hpf6.cell 5;have q5:=hpf6.frozen 5;have hw5:IntKind.i64.wrap ((z:Int)+1)=(z:Int)+1:=zG _ (by omega);have hpf7:=hpf6.set 5 (.int .i64 ((z:Int)+1));have HP7:=qA hpf7;have HI6:=qA (zI hI6 hF6);have HZ:=qA (zI hz hcT);clear hpf6 hpf7 hI6 hF6 hz hcT f4 y0 y1 y2 y3;go_wp2
 go_end0
 have hF7:Fr [pf] w6 (w6.setCell ⟨pf,5,none⟩ (.int .i64 ((z:Int)+1))):=(Fr.refl _ _).setCell _ _ (.inl (by simp));have N:=HN.out;have s4:=HL4.out.2.size;have hF47:Fr [w.heap.size,mb,pf] w4 (w6.setCell ⟨pf,5,none⟩ (.int .i64 ((z:Int)+1))):=
   ((HS5.out.mono (fun q hq=>.inl (by simp at hq ⊢;exact .inl hq))).trans' (HI6.out.2.mono (fun q hq=>.inl (by simp at hq ⊢;exact .inr (.inl hq))))).trans' (hF7.mono (fun q hq=>.inl (by simp at hq ⊢;exact .inr (.inr hq))))
 refine⟨rfl,⟨?_,LG.fr HL4.out.1 hF47 (by simp;omega) (by simp;omega),HI6.out.1.same (hF7.keep mb HI6.out.1.lt (by simp;omega)),H.out.gw,⟨fun t a b x h1 h2=>?_,fun v hv=>?_⟩,H.out.cn,H.out.leS,H.out.leV,H.out.ne1,H.out.ne2,H.out.ne3,H.out.ne4,H.out.ne5⟩,
   (HL4.out.2.mono (fun q hq=>.inl (by simp at hq ⊢;omega))).trans hF47 (fun q hq=>by simp at hq ⊢;omega)⟩
 {
 have e8:=HZ.out.2;rw[e8];exact HP7.out}
 {
 rcases h2 with h2|rfl
 {
 rw[oF _ _ (by rintro rfl;exact ht h2)];exact H.out.keys.slot t a b x h1 h2}
 {
 rw[aAA (by omega)];rw[hg]at h1;simp only[qI,zE]at h1;exact h1.2.2}}
 {
 rw[oF _ _ (by omega)];exact H.out.keys.vert v hv}
end
def FAt(w:World)(pf S V:Nat)(G:cF)(L:List Nat):Prop:=
  ∃pl g ph mb l key n,FB w pf pl g ph mb S V G (aK G) key n/\fO w ph S (qOf G) n l/\(∀b∈l,b≠pf/\b≠pl/\b≠g/\b≠mb)/\L=pf::pl::g::mb::l
noncomputable def eJ(S V:Nat)(G:cF)(slot a b:Int):Int:=
  if inV S slot=true/\inV V a=true/\inV V b=true then(if a=b then 9 else if (G slot.toNat).isSome=true then 6 else 0) else 3
noncomputable def rK(S V:Nat)(G:cF)(slot a b x:Int):cF:=if eJ S V G slot a b=0 then cM G slot.toNat (some (a.toNat,b.toNat,x)) else G
section
variable {w w' :World} {pf pl g ph mb S V n:Nat} {G:cF} {T T' :Nat->Prop} {key:Nat->Int} {l L:List Nat}
theorem FAt.lt(h:FAt w pf S V G L):∀b∈L,b<w.heap.size:=by
 obtain⟨pl,g,ph,mb,l,key,n,h1,h2,h3,rfl⟩:=h;have:=h1.lt;intro b hb;simp only[qB]at hb;rcases hb with rfl|rfl|rfl|rfl|hb
 · exact this.1
 · exact this.2.1
 · exact this.2.2.1
 · exact this.2.2.2
 · exact h2.lt b hb
theorem FAt.fr{X:List Nat}(h:FAt w pf S V G L)(hf:Fr X w w')(hx:∀b∈L,b∉X):FAt w' pf S V G L:=by
 obtain⟨pl,g,ph,mb,l,key,n,h1,h2,h3,rfl⟩:=h;exact⟨pl,g,ph,mb,l,key,n,h1.fr hf (hx _ (by simp)) (hx _ (by simp)) (hx _ (by simp)) (hx _ (by simp)),h2.fr hf (fun b hb=>hx b (by simp[hb])),h3,rfl⟩
theorem FB.congrT(h:FB w pf pl g ph mb S V G T key n)(hT:∀t,T t↔T' t):FB w pf pl g ph mb S V G T' key n:=by
 have:T=T' :=funext fun t=>propext (hT t);rw[<-this];exact h
theorem aJQ{s:Nat}{e:Nat×Nat×Int}(ht:¬T s):sG (kG G T) s (some (edV e false))=kG (cM G s (some e)) T:=by
 funext k
 by_cases hk:k=(s:Int)
 · subst hk;rw[gV,eS,cN];simp[ht]
 {
 rw[eX hk];unfold kG;by_cases h0:0<=k
 · rw[aW (by omega)]
 · simp only[h0,if_false]}
theorem aNY{s:Nat}{e:Nat×Nat×Int}:uJ (qOf G) s (some e.2.2)=qOf (cM G s (some e)):=by
 funext k
 by_cases hk:k=s
 · subst hk;rw[pK];simp[qOf,cN]
 · rw[nH hk];simp[qOf,aW hk]
theorem aNZ{s:Nat}{e:Nat×Nat×Int}(hs:s<S)(h0:G s=none):bZ S (fun t=>(G t).isSome=true)+1=bZ S (fun t=>(cM G s (some e) t).isSome=true):=
  tD hs (by simp[cN]) (by simp[h0]) (fun x hx=>by rw[aW hx])
theorem FB.new(h:FB w pf pl g ph mb S V G T key n){s a b:Nat}{x:Int}(h0:G s=none)(ht:¬T s)(hs:s<S)(ha:a<V)(hb:b<V)(hab:a≠b)(hx:-9223372036854775808<=x/\x<=9223372036854775807)
    {X:List Nat} (hf:Fr X w w') (h1:pf∉X) (h2:pl∉X) (h3:g∉X) (hI:fH Tryz.prog 3 .i64 okA w' mb (kG (cM G s (some (a,b,x))) T) (n+1)):
    FB w' pf pl g ph mb S V (cM G s (some (a,b,x))) T key (n+1):=by
 have e:TE S (cM G s (some (a,b,x))) T=TE S G T:=zU (fun _=>Iff.rfl) (fun t ht' =>by rw[aW];rintro rfl;exact ht ht');refine⟨hf.blk h.hd h1,?_,hI,h.gw.put hs ha hb hab hx,⟨fun t c d y h4 h5=>?_,h.keys.vert⟩,?_,h.leS,h.leV,h.ne1,h.ne2,h.ne3,h.ne4,h.ne5⟩
 · rw[e];exact h.lct.fr hf h2 h3
 {
 rw[aW (by rintro rfl;exact ht h5)]at h4;exact h.keys.slot t c d y h4 h5}
 · rw[h.cn,aNZ hs h0]
end
section
variable {w w' :World} {pf pl g ph mb S V n:Nat} {G:cF} {T T' :Nat->Prop} {key:Nat->Int} {l L:List Nat}
theorem aJR(h:FB w pf pl g ph mb S V G T key n)(slot a b x:Int)(hn:¬(inV S slot=true/\inV V a=true/\inV V b=true)):
    Calls Tryz.prog 138 #[eN pf,.int .i64 slot,.int .i64 a,.int .i64 b,.int .i64 x] w fun e w' =>e=.returned (.int .i64 3)/\w' =w:=by
 have c1:=h.hd.cell 1;simp only[zJ,zK]at c1;have HV:=qA (lC h);by_cases s1:0<=slot
 {
 by_cases s2:slot<S
 {
 have s3:decide (slot≥(S:Int))=false:=qF (by omega);cases ha:inV V a with
 | false=>{
 have HA:=nI h a;rw[ha]at HA;have HA:=qA HA;clear h hn;go_enter Tryz.func138,Tryz.ntmps138
 go_wp2_with fail
 refine HV.out.mono ?_;rintro _ w1 ⟨rfl,rfl⟩;go_wp2_with fail
 refine HA.out.mono ?_;rintro _ w1 ⟨rfl,rfl⟩;go_wp2
 go_ret;exact⟨rfl,rfl⟩}
 | true=>{
 have hb:inV V b=false:=by {
 cases hb:inV V b with
 | false=>rfl
 | true=>exact absurd ⟨by simp[inV,s1,s2],ha,hb⟩ hn};have HA:=nI h a;rw[ha]at HA;have HA:=qA HA;have HB:=nI h b;rw[hb]at HB;have HB:=qA HB;clear h hn;go_enter Tryz.func138,Tryz.ntmps138
 go_wp2_with fail
 refine HV.out.mono ?_;rintro _ w1 ⟨rfl,rfl⟩;go_wp2_with fail
 refine HA.out.mono ?_;rintro _ w1 ⟨rfl,rfl⟩;go_wp2_with fail
 refine HB.out.mono ?_;rintro _ w1 ⟨rfl,rfl⟩;go_wp2
 go_ret;exact⟨rfl,rfl⟩}}
 {
 have s3:decide (slot≥(S:Int))=true:=qG (by omega);have s4:(S:Int)<=slot:=by omega
 clear h hn;go_enter Tryz.func138,Tryz.ntmps138
 go_wp2_with fail
 refine HV.out.mono ?_;rintro _ w1 ⟨rfl,rfl⟩;go_wp2
 go_ret;exact⟨rfl,rfl⟩}}
 {
 have s3:slot<0:=by omega
 clear h hn;go_enter Tryz.func138,Tryz.ntmps138
 go_wp2_with fail
 refine HV.out.mono ?_;rintro _ w1 ⟨rfl,rfl⟩;go_wp2
 go_ret;exact⟨rfl,rfl⟩}
theorem aEM(h:FB w pf pl g ph mb S V G T key n){s a b:Nat}(hs:s<S)(ha:a<V)(hb:b<V)(x:Int)(hn:a=b∨(a≠b/\(G s).isSome=true)):
    Calls Tryz.prog 138 #[eN pf,.int .i64 s,.int .i64 a,.int .i64 b,.int .i64 x] w fun e w' =>e=.returned (.int .i64 (if a=b then 9 else 6))/\Fr [] w w' :=by
 have c1:=h.hd.cell 1;have c4:=h.hd.cell 4;simp only[zJ,zK]at c1 c4;have HV:=qA (lC h);have HA:=nI h a;rw[lD ha]at HA;have HA:=qA HA;have HB:=nI h b;rw[lD hb]at HB;have HB:=qA HB;have s1:(0:Int)<=s:=by omega
 have s2:(s:Int)<S:=by omega
 have s3:decide (S<=s)=false:=qF (by omega);by_cases hab:a=b
 {
 rw[qD hab];subst hab;clear h hn;go_enter Tryz.func138,Tryz.ntmps138
 go_wp2_with fail
 refine HV.out.mono ?_;rintro _ w1 ⟨rfl,rfl⟩;go_wp2_with fail
 refine HA.out.mono ?_;rintro _ w1 ⟨rfl,rfl⟩;go_wp2_with fail
 refine HB.out.mono ?_;rintro _ w1 ⟨rfl,rfl⟩;go_wp2
 go_ret;exact⟨rfl,Fr.refl _ _⟩}
 {
 rw[qC hab];obtain⟨_,hsome⟩:=hn.resolve_left hab;have t1:((a:Int) == (b:Int))=false:=by simp;omega
 have hl:=h.edges.run_ok (t:=150) (e:=184) (z:=edZ) Tryz.underlying3 Tryz.underlying150 (by kernel_rfl) rfl (lE (s:=s) (by have:=h.leS;omega));obtain⟨⟨e1,e2,e3⟩,he⟩:=qV.1 hsome;rw[eS,he]at hl;simp only[Option.map_some,Option.getD_some,edV,Option.isSome_some]at hl;generalize decide (T s)=tb at *;clear h hn;go_enter Tryz.func138,Tryz.ntmps138
 go_wp2_with fail
 refine HV.out.mono ?_;rintro _ w1 ⟨rfl,rfl⟩;go_wp2_with fail
 refine HA.out.mono ?_;rintro _ w1 ⟨rfl,rfl⟩;go_wp2_with fail
 refine HB.out.mono ?_;rintro _ w1 ⟨rfl,rfl⟩;go_wp2
 go_ret;exact⟨rfl,(Fr.refl _ _).alloc _⟩}
end
section
variable {w w' :World} {pf pl g ph mb S V n:Nat} {G:cF} {T:Nat->Prop} {key:Nat->Int}
theorem FB.asked(h:FB w pf pl g ph mb S V G T key n)(hL:LM w' pl g (S+V) (TE S G T) key)(hF:Fr [g] w w'):FB w' pf pl g ph mb S V G T key n:=
  ⟨hF.blk h.hd (by have:=h.ne2;simp;exact this),hL,h.edges.same (hF.keep mb h.edges.lt (by have:=h.ne5;simp;exact fun e=>this e.symm)),h.gw,h.keys,h.cn,h.leS,h.leV,h.ne1,h.ne2,h.ne3,h.ne4,h.ne5⟩
theorem aQZ{s:Nat}(ht:¬T s)(e:Option (Nat×Nat×Int)):TE S (cM G s e) T=TE S G T:=
  zU (fun _=>Iff.rfl) (fun t ht' =>by rw[aW];rintro rfl;exact ht ht')
theorem aJS{s a b:Nat}(ht:¬T s)(e:Option (Nat×Nat×Int)):Cx (cM G s e) T a b↔Cx G T a b:=by
 constructor
 {
 intro h;exact h.mono' fun u f h1 h2=>⟨h1,by rw[aW (by rintro rfl;exact ht h1)]at h2;exact h2⟩}
 {
 intro h;exact h.mono' fun u f h1 h2=>⟨h1,by rw[aW (by rintro rfl;exact ht h1)];exact h2⟩}
end
def aOA(n:Nat)(E:Nat->Nat->Prop)(key:Nat->Int)(a b r:Int)(ok:Bool):Prop:=
  (ok=false/\r=0/\¬mP n E a b)∨(ok=true/\∃(v u:Nat) (p:List Nat) (m:Nat),a=v/\b=u/\v<n/\u<n/\bD E v u p/\(∀x∈p,x<n)/\rO key p m/\r=m)
theorem aTL{w:World}{pf g n:Nat}{E:Nat->Nat->Prop}{key:Nat->Int}{ed:Int}(h:LG w pf g n E key ed)(a b:Int):Calls Tryz.prog 166 #[.pointer (some ⟨pf,0,none⟩),.int .i64 a,.int .i64 b] w fun e w' =>∃r ok,e=.returned (.tuple #[.int .i64 r,.bool ok])/\aOA n E key a b r ok/\LG w' pf g n E key ed/\Fr [g] w w' :=by
 refine(aTE h a b).mono ?_;rintro e w' ⟨⟨hn,rfl⟩|⟨v,u,p,m,h1,h2,h3,h4,h5,h6,h7,rfl⟩,hL,hF⟩
 · exact⟨0,false,rfl,.inl ⟨rfl,rfl,hn⟩,hL,hF⟩
 · exact⟨m,true,rfl,.inr ⟨rfl,v,u,p,m,h1,h2,h3,h4,h5,h6,h7,rfl⟩,hL,hF⟩
section
variable {w w' :World} {pf S V:Nat} {G:cF} {L:List Nat}
theorem aJT(h:FAt w pf S V G L){s a b:Nat}(hs:s<S)(ha:a<V)(hb:b<V)(hab:a≠b)(h0:G s=none)(x:Int)(hx:-9223372036854775808<=x/\x<=9223372036854775807):
    Calls Tryz.prog 138 #[eN pf,.int .i64 s,.int .i64 a,.int .i64 b,.int .i64 x] w fun e w' =>e=.returned (.int .i64 0)/\∃L', FAt w' pf S V (cM G s (some (a,b,x))) L' /\ Fr L w w' /\ ∀q∈L', q∈L∨w.heap.size<=q:=by
  obtain⟨pl,g,ph,mb,l,key,n,h1,hH,hD,rfl⟩:=h;have ht:¬aK G s:=by rintro⟨_,_,_,e,_⟩;rw[h0]at e;cases e
  have hlt:=h1.lt;have hllt:=hH.lt;have hS:=h1.leS;have hV:=h1.leV;have c1:=h1.hd.cell 1;have c4:=h1.hd.cell 4;have c3:=(h1.hd.alloc (.cells #[.int .i64 0,.int .i64 0,.int .i64 0,.bool false] 184)).cell 3;simp only[zJ,zK]at c1 c3 c4;have HV:=qA (lC h1);have HA:=nI h1 a;rw[lD ha]at HA;have HA:=qA HA;have HB:=nI h1 b;rw[lD hb]at HB;have HB:=qA HB;have s1:(0:Int)<=s:=by omega
  have s2:(s:Int)<S:=by omega
  have s3:decide (S<=s)=false:=qF (by omega);have t1:((a:Int) == (b:Int))=false:=by simp;omega
  have hl:=h1.edges.run_ok (t:=150) (e:=184) (z:=edZ) Tryz.underlying3 Tryz.underlying150 (by kernel_rfl) rfl (lE (s:=s) (by omega));rw[eS,h0]at hl;simp only[Option.map_none,Option.getD_none,edZ,Option.isSome_none]at hl;have hf0:Fr [] w (w.alloc (.cells #[.int .i64 0,.int .i64 0,.int .i64 0,.bool false] 184)):=(Fr.refl _ _).alloc _;have HP:=qA (aEL (hH.fr hf0 (by simp)) hs (by simp[qOf,h0]) x);have H:=qA h1;have HH:=qA (zI hD (zI hllt hlt));have HF0:=qA hf0;clear h1 hH hD hllt hf0;go_enter Tryz.func138,Tryz.ntmps138
  go_wp2_with fail
  refine HV.out.mono ?_;rintro _ w ⟨rfl,rfl⟩;go_wp2_with fail
  refine HA.out.mono ?_;rintro _ w ⟨rfl,rfl⟩;go_wp2_with fail
  refine HB.out.mono ?_;rintro _ w ⟨rfl,rfl⟩;go_wp2_with fail
  refine HP.out.mono ?_;rintro _ w2 ⟨rfl,l', hH2,hF2,hN2⟩;have hpf2:Blk w2 pf _ _:=hF2.blk (HF0.out.blk H.out.hd (by simp)) (fun hm=>(HH.out.1 _ hm).1 rfl);have hI2:fH Tryz.prog 3 .i64 okA w2 mb (kG G (aK G)) n:=H.out.edges.same (by
    rw[hF2.keep mb (by have:=HF0.out.size;omega) (fun hm=>(HH.out.1 _ hm).2.2.2 rfl),HF0.out.keep mb (by omega) (by simp)])
  have d4:=hpf2.cell 4;simp only[zJ,zK]at d4;have HF2:=qA (zI hH2 (zI hF2 (zI hN2 hpf2)));have HI2:=qA hI2;clear hH2 hF2 hN2 hpf2 hI2 c1 c3 c4 hl HP;go_wp2_with (refine rH rfl _ _ _ _ rfl HI2.out Tryz.underlying3 Tryz.underlying150 (by rw[H.out.cn];unfold maxLen;have:=lV S (fun s=>(G s).isSome=true);omega) rfl (s:Int) rfl (lE (s:=s) (by omega)) (.agg #[.int .i64 a,.int .i64 b,.int .i64 x,.bool false]) rfl rfl ?_;intro w3 hI3 hF3)
  rw[eS,h0]at hI3;simp only[Option.map_none,Option.isSome_none,Bool.false_eq_true,if_false]at hI3;have hI3' :fH Tryz.prog 3 .i64 okA w3 mb (kG (cM G s (some (a,b,x))) (aK G)) (n+1):=by rw[<-aJQ ht];exact hI3
  have hF13:Fr (mb::l) w w3:=((HF0.out.mono (S' :=mb::l) (by simp)).trans' (HF2.out.2.1.mono (fun q hq=>.inl (by simp[hq])))).trans' (hF3.mono (fun q hq=>.inl (by simp at hq;simp[hq])));have hx1:pf∉mb::l:=by simp only[qB,not_or];exact⟨H.out.ne3,fun hm=>(HH.out.1 _ hm).1 rfl⟩
  have hx2:pl∉mb::l:=by simp only[qB,not_or];exact⟨H.out.ne4,fun hm=>(HH.out.1 _ hm).2.1 rfl⟩
  have hx3:g∉mb::l:=by simp only[qB,not_or];exact⟨H.out.ne5,fun hm=>(HH.out.1 _ hm).2.2.1 rfl⟩
  have hB3:=H.out.new h0 ht hs ha hb hab hx hF13 hx1 hx2 hx3 hI3';have hL3:LM w3 pl g (S+V) (TE S G (aK G)) key:=H.out.lct.fr hF13 hx2 hx3;have hH3:fO w3 ph S (qOf (cM G s (some (a,b,x)))) (n+1) l' :=by
    rw[<-aNY (e:=(a,b,x))];exact HF2.out.1.fr hF3 (fun q hq hm=>by
      simp at hm;subst hm;rcases HF2.out.2.2.1 _ hq with e|e
      · exact(HH.out.1 _ e).2.2.2 rfl
      · simp at e;omega)
  have e1:=hB3.hd.cell 1;have e2:=hB3.hd.cell 2;simp only[zJ,zK]at e1 e2;have hw1:IntKind.i64.wrap ((S:Int)+a)=(S:Int)+a:=zG _ (by omega);have hw2:IntKind.i64.wrap ((S:Int)+b)=(S:Int)+b:=zG _ (by omega);have HM:=qA (aTL (show LG w3.drew pl g (S+V) (TE S G (aK G)) key _ from LG.fr hL3 (Fr.refl [] _).drew (by simp) (by simp)) ((S:Int)+a) ((S:Int)+b));have H3:=qA (zI hB3 (zI hH3 hF13));clear hI3 hI3' hF3 hF13 hB3 hL3 hH3 d4;have HN:=qA (zI H.out.ne1 (zI H.out.ne2 hlt))
  go_region_held3 (fun w' => w'.cell? ⟨pf, 1, none⟩ = some (.int .i64 S) /\ w'.cell? ⟨pf, 2, none⟩ = some (eN pl))
    (first
      | go_keep
      | (have N:=HN.out;exact⟨hF4.cell (by simp_all) (by simp;omega),hF4.cell (by simp_all) (by simp;omega)⟩))
    (first
      | (go_at_call 166;refine HM.out.mono ?_;rintro e w4 ⟨r,ok,rfl,hsay,hL4,hF4⟩))
  have hB4:=H3.out.1.asked (show LM w4 pl g (S+V) (TE S (cM G s (some (a,b,x))) (aK G)) key by rw[aQZ ht];exact hL4) (((Fr.refl [g] w3).drew).trans' hF4);have hlen4:=hF4.size;have hH4:=H3.out.2.1.fr (((Fr.refl [g] w3).drew).trans' hF4) (fun q hq hm=>by
    simp at hm;subst hm;rcases HF2.out.2.2.1 _ hq with e|e
    · exact(HH.out.1 _ e).2.2.1 rfl
    · simp at e;omega)
  have hF04:Fr (pf::pl::g::mb::l) w w4:=(H3.out.2.2.mono (S' :=pf::pl::g::mb::l) (fun q hq=>.inl (by simp at hq ⊢;grind))).trans' ((((Fr.refl [g] w3).drew).trans' hF4).mono (fun q hq=>.inl (by simp at hq ⊢;grind)));have hdis:∀q∈l', q≠pf/\q≠pl/\q≠g/\q≠mb:=by
    intro q hq;rcases HF2.out.2.2.1 _ hq with e|e
    · exact HH.out.1 _ e
    · simp at e;omega
  have hnew:∀q∈pf::pl::g::mb::l', q∈pf::pl::g::mb::l∨w.heap.size<=q:=by
    intro q hq;simp only[qB]at hq ⊢;rcases hq with e|e|e|e|e
    · exact .inl (.inl e)
    · exact .inl (.inr (.inl e))
    · exact .inl (.inr (.inr (.inl e)))
    · exact .inl (.inr (.inr (.inr (.inl e))))
    · rcases HF2.out.2.2.1 _ e with e | e
      · exact .inl (.inr (.inr (.inr (.inr e))))
      · simp at e;exact .inr (by omega)
  have H4:=qA (zI hB4 (zI hH4 (zI hF04 (zI hdis hnew))));have HS:=qA (zI hsay hL4);clear hB4 hH4 hF04 hdis hnew hsay hL4 hF4 HM e1 e2;cases ok with
  | false=>
    have hc:¬Cx G (aK G) a b:=by
      rcases HS.out.1 with⟨_,_,hn⟩|⟨e,_⟩
      · intro hc
        exact hn ⟨by simp[inV];omega,by simp[inV];omega,by
          rw[show((S:Int)+a).toNat=S+a by omega,show((S:Int)+b).toNat=S+b by omega];exact xN (LG.frs HS.out.2) hc⟩
      · cases e
    have HFa:=qA (aAB H4.out.1 (cN _ _ _) ht (fun e=>hc ((aJS ht _).1 e)));have HC:=qA hc;clear hc;go_wp2_with fail
    refine HFa.out.mono ?_;rintro _ w5 ⟨rfl,hB5,hF5⟩;have H5:=qA (zI hB5 hF5);clear hB5 hF5;go_wp2
    go_ret;exact⟨rfl,_,⟨pl,g,ph,mb,l', _,n+1,H5.out.1.congrT (fun t=>(aNE H.out.gw.slot h0 HC.out t).symm),H4.out.2.1.fr H5.out.2 (fun q hq hm=>by have:=H4.out.2.2.2.1 q hq;simp at hm;grind),H4.out.2.2.2.1,rfl⟩,H4.out.2.2.1.trans' (H5.out.2.mono (fun q hq=>.inl (by simp at hq ⊢;grind))),H4.out.2.2.2.2⟩
  | true=>
    obtain⟨m,ma,mz,y,hr,hms,hgm,htm,hcx,hcut⟩:∃(m ma mz:Nat) (y:Int),r=m/\m<S/\G m=some (ma,mz,y)/\aK G m/\Cx G (fun t=>aK G t/\(t=m∨Aft G m y t)) a b/\¬Cx G (fun t=>aK G t/\t≠m) a b:=by
      rcases HS.out.1 with⟨e,_⟩|⟨_,v,u,p,m,e1,e2,h3,h4,hp,hin,hf,hr⟩
      · cases e
      · obtain rfl : v = S + a := by omega
        obtain rfl:u=S+b:=by omega
        obtain⟨ma,mz,y,h5,h6,h7,h8⟩:=aCH H.out.gw H.out.keys hp hab hf hin;exact⟨m,ma,mz,y,hr,h5,h6,h7,h8,aQT H.out.frs (aQX H.out.frs (fun _ h=>h.1)) hp hf.1 h5⟩
    subst hr;have hmne:m≠s:=by rintro rfl;rw[h0]at hgm;cases hgm
    have hgm' :cM G s (some (a,b,x)) m=some (ma,mz,y):=by rw[aW hmne];exact hgm
    have hl4:=H4.out.1.edges.run_get (t:=150) (e:=184) (z:=edZ) Tryz.underlying3 Tryz.underlying150 (by kernel_rfl) rfl (lE (s:=m) (by omega));rw[eS,hgm']at hl4;simp only[Option.map_some,Option.getD_some,htm,decide_true,edV]at hl4;have c4:=H4.out.1.hd.cell 4;simp only[zJ,zK]at c4;have HG:=qA (zI hgm (zI htm (zI hcx (zI hcut hgm'))));clear hgm htm hcx hcut hgm';have hf45:Fr [] w4 (w4.alloc (.cells #[.int .i64 ma,.int .i64 mz,.int .i64 y,.bool true] 184)):=(Fr.refl _ _).alloc _;have HF45:=qA hf45;clear hf45;have HLo:=qA (aJP (H4.out.1.fr0 HF45.out) HG.out.2.2.2.2 HG.out.2.1);by_cases hb:bef x s y m
    · have HB' := qA hb
      have late:∀t,aK G t↔aK (cM G s (some (a,b,x))) t:=fun t=>(aIT h0 (HG.out.2.2.1.mono fun t _ ht _=>by
        rcases ht.2 with rfl|⟨c,d,z,h1,h2⟩
        · exact⟨_,_,_,HG.out.1,HB'.out⟩
        · exact⟨c,d,z,h1,fE HB'.out h2⟩) t).symm
      have HE:=qA (show ∃L', FAt (w4.alloc (.cells #[.int .i64 ma,.int .i64 mz,.int .i64 y,.bool true] 184)) pf S V (cM G s (some (a,b,x))) L' /\ Fr (pf::pl::g::mb::l) w (w4.alloc (.cells #[.int .i64 ma,.int .i64 mz,.int .i64 y,.bool true] 184))/\∀q∈L', q∈pf::pl::g::mb::l∨w.heap.size<=q from
        ⟨_,⟨pl,g,ph,mb,l', _,n+1,(H4.out.1.fr0 HF45.out).congrT late,H4.out.2.1.fr HF45.out (by simp),H4.out.2.2.2.1,rfl⟩,H4.out.2.2.1.trans' (HF45.out.mono (by simp)),H4.out.2.2.2.2⟩)
      clear late HLo;unfold bef at hb;by_cases h1:x<y
      · clear hb
        go_wp2_with fail
        go_ret;exact⟨rfl,HE.out⟩
      · have h2 : x = y := by omega
        have h3:s<m:=by omega
        subst h2;clear hb h1;go_wp2_with fail
        go_ret;exact⟨rfl,HE.out⟩
    · have hb' := xF (show s ≠ m from hmne.symm) hb
      have HB' :=qA hb';unfold bef at hb hb';have swp:∀t,(aK G t/\t≠m)∨t=s↔aK (cM G s (some (a,b,x))) t:=fun t=>(aIU H.out.gw.slot h0 HG.out.1 HG.out.2.2.1 HG.out.2.2.2.1 HB'.out t).symm;have HSw:=qA swp;have HNC:=qA (show ¬Cx (cM G s (some (a,b,x))) (fun t=>aK G t/\t≠m) a b from fun e=>HG.out.2.2.2.1 ((aJS (fun h=>ht h.1) _).1 e));have n1:decide (x<y)=false:=qF (by omega);have n2:¬(x<y):=by omega
      have hfa:Hid (∀w5:World,FB w5 pf pl g ph mb S V (cM G s (some (a,b,x))) (fun t=>aK G t/\t≠m) key (n+1)->Calls Tryz.prog 178 #[eN pf,.int .i64 s] w5 fun e w' =>e=.returned (.tuple #[])/\FB w' pf pl g ph mb S V (cM G s (some (a,b,x))) (fun t=>(aK G t/\t≠m)∨t=s) (eO (S+V) key s x) (n+1)/\Fr [pf,pl,g,mb] w5 w'):=
        qA (fun w5 hB5=>aAB hB5 (cN _ _ _) (fun h=>ht h.1) HNC.out)
      have fin:Hid (∀w5 w6:World,Fr [pf,pl,g,mb] (w4.alloc (.cells #[.int .i64 ma,.int .i64 mz,.int .i64 y,.bool true] 184)) w5->Fr [pf,pl,g,mb] w5 w6->FB w6 pf pl g ph mb S V (cM G s (some (a,b,x))) (fun t=>(aK G t/\t≠m)∨t=s) (eO (S+V) key s x) (n+1) ->
          ∃L', FAt w6 pf S V (cM G s (some (a,b,x))) L' /\ Fr (pf::pl::g::mb::l) w w6/\∀q∈L', q∈pf::pl::g::mb::l∨w.heap.size<=q):=qA (fun w5 w6 f5 f6 hB6=>by
        have f46:Fr [pf,pl,g,mb] w4 w6:=((HF45.out.mono (by simp)).trans' f5).trans' f6;exact⟨_,⟨pl,g,ph,mb,l', _,n+1,hB6.congrT HSw.out,H4.out.2.1.fr f46 (fun q hq hm=>by have:=H4.out.2.2.2.1 q hq;simp at hm;grind),H4.out.2.2.2.1,rfl⟩,H4.out.2.2.1.trans' (f46.mono (fun q hq=>.inl (by simp at hq ⊢;grind))),H4.out.2.2.2.2⟩)
      clear swp hb';by_cases e:x=y
      · have n3 : decide (s < m) = false := qF (by omega)
        subst e;clear hb;go_wp2_with fail
        refine HLo.out.mono ?_;rintro _ w5 ⟨rfl,hB5,hF5⟩;have HF5:=qA hF5;have HFa:=qA (hfa.out _ hB5);clear hB5 hF5;go_wp2_with fail
        refine HFa.out.mono ?_;rintro _ w6 ⟨rfl,hB6,hF6⟩;have HF6:=qA (fin.out w5 w6 HF5.out hF6 hB6);clear hB6 hF6;go_wp2_with fail
        go_ret;exact⟨rfl,HF6.out⟩
      · have n3 : (x == y) = false := by simp [e]
        have n4:(y == x)=false:=by simp;omega
        clear hb;go_wp2_with fail
        refine HLo.out.mono ?_;rintro _ w5 ⟨rfl,hB5,hF5⟩;have HF5:=qA hF5;have HFa:=qA (hfa.out _ hB5);clear hB5 hF5;go_wp2_with fail
        refine HFa.out.mono ?_;rintro _ w6 ⟨rfl,hB6,hF6⟩;have HF6:=qA (fin.out w5 w6 HF5.out hF6 hB6);clear hB6 hF6;go_wp2_with fail
        go_ret;exact⟨rfl,HF6.out⟩
end
theorem aOB{S V:Nat}{G:cF}(h:GW S V G)(a b:Nat):Cx G (aK G) a b↔Cx G (fun _=>True) a b:=
  ⟨fun hc=>hc.mono fun _ _ _ _=>trivial,fun hc=>rN h.slot hc⟩
section
variable {w w' :World} {pf pl g ph mb S V n:Nat} {G:cF} {key:Nat->Int}
@[go_sem] theorem aUA(e1 e2 e3:Int)(tb:Bool)(w:World):(Instr.field 184 (.agg #[.int .i64 e1,.int .i64 e2,.int .i64 e3,.bool tb]) 2).run Tryz.prog w=.ok (.int .i64 e3) w:=by kernel_rfl
@[go_sem] theorem aTM(e1 e2 e3:Int)(tb:Bool)(w:World):(Instr.field 184 (.agg #[.int .i64 e1,.int .i64 e2,.int .i64 e3,.bool tb]) 3).run Tryz.prog w=.ok (.bool tb) w:=by kernel_rfl
end
section
variable {w w' :World} {pf pl g ph mb S V n:Nat} {G:cF} {T T' :Nat->Prop} {key:Nat->Int} {l L:List Nat}
end
end Go.Proofs.YtjdgpcjbgjnahaaGreatDoor
namespace Go.Proofs.YtjdgpcjbgjnahaaGreatDoor
open Go.RowKit Go.Maps
section
variable {P:Program} {k t e:TypeId} {q:IntKind} {ok:Value->Bool} {w w' :World} {b r n cnt:Nat} {m:Int->Option Value} {done:List Int}
variable {ops:Array Oper} {rest:List Oper} {o:Oper} {a:Act} {Q:Exit->Act->World->Prop}
end
end Go.Proofs.YtjdgpcjbgjnahaaGreatDoor
namespace Go.Proofs.YtjdgpcjbgjnahaaGreatDoor
open Go.RowKit Go.Sort
end Go.Proofs.YtjdgpcjbgjnahaaGreatDoor
namespace Go.Proofs.YtjdgpcjbgjnahaaGreatDoor
open Go.RowKit Classical
section
variable {w w' :World} {pf pl g ph mb S V n:Nat} {G:cF} {key:Nat->Int}
end
def aAC(S v:Nat):Nat->Int:=fun u=>if S<=u/\u<S+v then 9223372036854775807 else 0
theorem aGH(S:Nat):aAC S 0=fun _=>0:=by funext u;unfold aAC;rw[qC (by omega)]
theorem aGI{S V v:Nat}(h:v<V):eO (S+V) (aAC S v) ((S:Int)+v) 9223372036854775807=aAC S (v+1):=by
 funext u
 unfold eO aAC;by_cases hu:u=((S:Int)+v).toNat
 · rw[qD ⟨by simp[inV];omega,hu⟩,qD (by omega)]
 {
 rw[qC (fun h=>hu h.2)];by_cases h2:S<=u/\u<S+v
 · rw[qD h2,qD (by omega)]
 · rw[qC h2,qC (by omega)]}
theorem aRA(V S:Nat)(w:World)(hV:V<=4096)(hS:S<=16384):
    Calls Tryz.prog 86 #[.int .i64 V,.int .i64 S] w fun r w' =>∃pf,r=.returned (.tuple #[eN pf,.int .i64 0])/\∃L,FAt w' pf S V (fun _=>none) L/\Fr [] w w' /\ ∀q∈L,w.heap.size<=q:=by
 have d1:decide ((V:Int)<0)=false:=qF (by omega);have d2:decide ((V:Int)>4096)=false:=qF (by omega);have d3:decide ((S:Int)<0)=false:=qF (by omega);have d4:decide ((S:Int)>16384)=false:=qF (by omega);have d2' :¬4096<V:=by omega
 have d4' :¬16384<S:=by omega
 have hw1:IntKind.i64.wrap ((S:Int)+V)=((S+V:Nat):Int):=by rw[show(S:Int)+V=((S+V:Nat):Int) by omega];exact zG _ (by omega)
 have hmk:∀W:World,(Instr.makeMap 150 none).run Tryz.prog W=.ok (.map (some W.heap.size)) (W.alloc (.map #[] 0)):=fun W=>by kernel_rfl
 have HL:=qA (aTF (S+V) w (by omega));have HHn:=qA (fun(w' :World)=>aJM S w' (by omega));go_enter Tryz.func86,Tryz.ntmps86
 go_wp2_with (go_at_call 130;refine HL.out.mono ?_;rintro _ w1 ⟨pl,g,rfl,hL1,hF1,hp1,hg1⟩)
 have H1:=qA (zI hL1 (zI hF1 (zI hp1 hg1)));clear hL1 hF1 hp1 hg1 HL;go_loopw [35] (fun x wr=>∃v:Nat,v<=V/\x=.int .i64 v/\Hid (LM wr pl g (S+V) (fun _ _=>False) (aAC S v)/\Fr [] w wr)) (fun x _=>V-(intOf x).toNat)
 case atStart=>exact⟨0,qS _,rfl,qA ⟨by rw[aGH];exact H1.out.1,H1.out.2.1⟩⟩
 case round=>
  obtain⟨v,hv,rfl,HR⟩:=hrel;by_cases hlt:v<V
  {
  have hlt' :(v:Int)<V:=by omega
  have SW:=aPT HR.out.1 ((S:Int)+v) 9223372036854775807;rw[aGI hlt]at SW;have HS:=qA SW;clear SW;have hw2:IntKind.i64.wrap ((S:Int)+v)=(S:Int)+v:=zG _ (by omega);have hw3:IntKind.i64.wrap ((v:Int)+1)=((v+1:Nat):Int):=by rw[show(v:Int)+1=((v+1:Nat):Int) by omega];exact zG _ (by omega)
  go_wp2_with (go_at_call 131;refine HS.out.mono ?_;rintro _ w2 ⟨rfl,hL2,hF2⟩)
  go_roundw
  case rel=>exact⟨v+1,by omega,rfl,qA ⟨hL2,HR.out.2.trans hF2 (fun q hq=>.inr (by simp at hq;subst hq;exact H1.out.2.2.2))⟩⟩
  case measure=>simp[intOf];omega}
  {
  obtain rfl:v=V:=by omega
  have HN:=qA (HHn.out wr);go_wp2_with (go_at_call 129;refine HN.out.mono ?_;rintro _ w3 ⟨ph,rfl,l,hH3,hF3,hN3⟩)
  go_ret2;have hn:∀t,¬aK (fun _=>none) t:=by rintro t ⟨_,_,_,e,_⟩;cases e
  have hc0:bZ S (aK fun _=>none)=0:=by rw[dM (T' :=fun _=>False) (fun t=>⟨hn t,False.elim⟩),pG]
  have hb:=Blk.new (w3.alloc (.map #[] 0)) [.int .i64 v,.int .i64 S,eN pl,bQ ph,.map (some w3.heap.size),.int .i64 0] 152;have hm:=fH.made w3 Tryz.prog 3 .i64 okA;have hf:Fr [] wr ((w3.alloc (.map #[] 0)).alloc (.cells [.int .i64 v,.int .i64 S,eN pl,bQ ph,.map (some w3.heap.size),.int .i64 0].toArray 152)):=(hF3.alloc _).alloc _;have hl:=(LG.lts HR.out.1);have hsz:=hF3.size;have hsr:=HR.out.2.size;have hw1s:=H1.out.2.1.size;have hf2:Fr [] w3 ((w3.alloc (.map #[] 0)).alloc (.cells [.int .i64 v,.int .i64 S,eN pl,bQ ph,.map (some w3.heap.size),.int .i64 0].toArray 152)):=((Fr.refl _ _).alloc _).alloc _;refine⟨w3.heap.size+1,rfl,_,⟨pl,g,ph,w3.heap.size,l,aAC S v,0,⟨?_,?_,?_,GW.no S v,⟨fun _ _ _ _ h=>(by cases h),fun u hu=>?_⟩,?_,hS,hV,?_,?_,?_,?_,?_⟩,?_,?_,rfl⟩,HR.out.2.trans hf (by simp),?_⟩
  · rw[hc0];simpa using hb
  · rw[aNL];exact LG.fr HR.out.1 hf (by simp) (by simp)
  {
  have e:kG (fun _=>none) (aK fun _=>none)=fun _=>none:=by funext k;unfold kG;split<;>rfl
  rw[e];exact(hm.same (Below.heap_alloc _ _ _ (by simp)))}
  · unfold aAC;rw[qD (by omega)]
  · rw[dM (T' :=fun _=>False) (fun t=>by simp),pG]
  · have:=hl.1;omega
  · have:=hl.2.1;omega
  · omega
  · have:=hl.1;omega
  · have:=hl.2.1;omega
  · exact hH3.fr hf2 (by simp)
  {
  intro b hb;have h1:=hN3 b hb;have h2:=hH3.lt b hb;have:=hl.1;have:=hl.2.1;omega}
  {
  intro q hq;simp only[qB]at hq;have h1:=H1.out.2.2;rcases hq with rfl|rfl|rfl|rfl|hq
  · omega
  · exact h1.1
  · exact h1.2
  · omega
  · have:=hN3 q hq;omega}}
structure FO (w wr:World) (pf S V:Nat) (G:cF) (L:List Nat):Prop where
  f:FAt wr pf S V G L
  fr:Fr [] w wr
  new:∀q∈L,w.heap.size<=q
def FM(w wr w' :World)(pf S V:Nat)(G:cF)(L:List Nat):Prop:=∃L', FO w w' pf S V G L' /\ Fr L wr w' /\ ∀q∈L', q∈L∨wr.heap.size<=q
section
variable {w wr w' :World} {pf S V:Nat} {G G' :cF} {L L' :List Nat}
theorem FO.next(h:FO w wr pf S V G L)(h1:FAt w' pf S V G' L')(h2:Fr L wr w')(h3:∀q∈L', q∈L∨wr.heap.size<=q):FM w wr w' pf S V G' L:=
  ⟨L', ⟨h1,h.fr.trans h2 (fun q hq=>.inr (h.new q hq)),fun q hq=>(h3 q hq).elim (h.new q) (fun e=>zH h.fr.size e)⟩,h2,h3⟩
theorem FO.keep(h:FO w wr pf S V G L){X:List Nat}(hf:Fr X wr w')(hx:∀b∈L,b∉X)(hw:∀b∈X,w.heap.size<=b):FO w w' pf S V G L:=
  ⟨h.f.fr hf hx,h.fr.trans hf (fun q hq=>.inr (hw q hq)),h.new⟩
theorem FO.keep0(h:FO w wr pf S V G L)(hf:Fr [] wr w'):FO w w' pf S V G L:=h.keep hf (by simp) (by simp)
theorem FO.self(h:FO w wr pf S V G L)(h2:Fr [] wr w'):FM w wr w' pf S V G L:=⟨L,h.keep0 h2,h2.mono (by simp),fun _ hq=>.inl hq⟩
theorem aRB(h:FO w wr pf S V G L)(s a b x:Int)(hx:-9223372036854775808<=x/\x<=9223372036854775807):
    Calls Tryz.prog 138 #[eN pf,.int .i64 s,.int .i64 a,.int .i64 b,.int .i64 x] wr fun e w' =>e=.returned (.int .i64 (eJ S V G s a b))/\FM w wr w' pf S V (rK S V G s a b x) L:=by
 by_cases h1:inV S s=true/\inV V a=true/\inV V b=true
 {
 obtain⟨s,rfl,hs⟩:=dW h1.1;obtain⟨a,rfl,ha⟩:=dW h1.2.1;obtain⟨b,rfl,hb⟩:=dW h1.2.2;by_cases hab:a=b
 {
 have e1:eJ S V G s a b=9:=by unfold eJ;rw[qD h1,qD (by omega)]
 have e2:rK S V G s a b x=G:=by unfold rK;rw[e1,qC (by omega)]
 rw[e1,e2];obtain⟨pl,g,ph,mb,l,key,n,hB,_⟩:=id h.f;refine(aEM hB hs ha hb x (.inl hab)).mono ?_;rintro e w' ⟨rfl,hf⟩;exact⟨by rw[qD hab],h.self hf⟩}
 {
 cases hg:G s with
 | some e=>{
 have e1:eJ S V G s a b=6:=by unfold eJ;rw[qD h1,qC (by omega),zD,hg];rfl
 have e2:rK S V G s a b x=G:=by unfold rK;rw[e1,qC (by omega)]
 rw[e1,e2];obtain⟨pl,g,ph,mb,l,key,n,hB,_⟩:=id h.f;refine(aEM hB hs ha hb x (.inr ⟨hab,by rw[hg];rfl⟩)).mono ?_;rintro e w' ⟨rfl,hf⟩;exact⟨by rw[qC hab],h.self hf⟩}
 | none=>{
 have e1:eJ S V G s a b=0:=by unfold eJ;rw[qD h1,qC (by omega),zD,hg];rfl
 have e2:rK S V G s a b x=cM G s (some (a,b,x)):=by unfold rK;rw[e1,qD rfl];simp
 rw[e1,e2];refine(aJT h.f hs ha hb hab hg x hx).mono ?_;rintro e w' ⟨rfl,L', h2,h3,h4⟩;exact⟨rfl,h.next h2 h3 h4⟩}}}
 {
 have e1:eJ S V G s a b=3:=by unfold eJ;rw[qC h1]
 have e2:rK S V G s a b x=G:=by unfold rK;rw[e1,qC (by omega)]
 rw[e1,e2];obtain⟨pl,g,ph,mb,l,key,n,hB,_⟩:=id h.f;refine(aJR hB s a b x h1).mono ?_;rintro e w' ⟨rfl,rfl⟩;exact⟨rfl,h.self (Fr.refl _ _)⟩}
noncomputable def kC(V:Nat)(G:cF):Nat:=bZ V (oA G fun _=>True)
theorem aGJ(hG:GW S V G):kC V G+bZ S (aK G)=V:=by
 have h1:=aGE hG;have h2:kC V G=bZ V (oA G (aK G)):=by {
 unfold kC;exact dM fun v=>by unfold oA;simp only[aOB hG]};omega
theorem aJU(h:FO w wr pf S V G L):Calls Tryz.prog 61 #[eN pf] wr fun e w' =>e=.returned (.int .i64 (kC V G))/\FO w w' pf S V G L/\Fr [] wr w' :=by
 obtain⟨pl,g,ph,mb,l,key,n,hB,_⟩:=id h.f;have e1:=aGJ hB.gw;refine(aJN hB).mono ?_;rintro e w' ⟨rfl,h3⟩;refine⟨?_,h.keep0 h3,h3⟩;rw[show(V:Int)-bZ S (aK G)=kC V G by omega]
end
end Go.Proofs.YtjdgpcjbgjnahaaGreatDoor
