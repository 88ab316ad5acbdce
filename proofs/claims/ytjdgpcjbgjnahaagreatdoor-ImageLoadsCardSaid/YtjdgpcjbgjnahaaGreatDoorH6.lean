/- lct: the answers as functions of the forest. -/
import Derived.Test.YtjdgpcjbgjnahaaGreatDoorH5
import Derived.RangeFuncNested
import Derived.RangeFuncBound
import Derived.RangeFuncCalls
import Derived.RangeFuncLeaves
import Derived.Shelf.Abstract
import Derived.Shelf.RegionOpen
import Derived.OwnWalkIn
import Derived.TacticsInMore
import Derived.LoopNIn
import Derived.LoopIn
import Derived.Test.YtjdgpcjbgjnahaaGreatDoorH1
import Derived.Deep.LoopGhost
set_option maxRecDepth 10000
set_option maxHeartbeats 800000
set_option linter.unusedSimpArgs false
set_option linter.unusedVariables false
/- forest: the plain law of a spanning forest whose edges expire as late as possible. -/
namespace Go.Proofs.YtjdgpcjbgjnahaaGreatDoor
open Classical
abbrev cF:=Nat->Option (Nat×Nat×Int)
def cM(G:cF)(s:Nat)(e:Option (Nat×Nat×Int)):cF:=fun t=>if t=s then e else G t
theorem cN(G:cF)(s:Nat)(e:Option (Nat×Nat×Int)):cM G s e s=e:=by simp[cM]
theorem aW{G:cF}{s t:Nat}{e:Option (Nat×Nat×Int)}(h:t≠s):cM G s e t=G t:=by simp[cM,h]
inductive Cx (G:cF) (U:Nat->Prop):Nat->Nat->Prop
  | refl (a:Nat):Cx G U a a
  | step {a b c:Nat} (s:Nat) (x:Int):Cx G U a b->U s->(G s=some (b,c,x)∨G s=some (c,b,x))->Cx G U a c
section
variable {G G' :cF} {U U' :Nat->Prop} {a b c p q s m:Nat} {x y:Int}
theorem Cx.trans(h:Cx G U a b)(h' :Cx G U b c):Cx G U a c:=by
 induction h' with
 | refl=>exact h
 | step s x _ h1 h2 ih=>exact .step s x ih h1 h2
theorem Cx.edge(hs:U s)(h:G s=some (a,b,x)):Cx G U a b:=.step s x (.refl a) hs (.inl h)
theorem Cx.edge' (hs:U s)(h:G s=some (a,b,x)):Cx G U b a:=.step s x (.refl b) hs (.inr h)
theorem Cx.symm(h:Cx G U a b):Cx G U b a:=by
 induction h with
 | refl=>exact .refl _
 | step s x _ h1 h2 ih=>{
 rcases h2 with h2|h2
 · exact(Cx.edge' h1 h2).trans ih
 · exact(Cx.edge h1 h2).trans ih}
theorem Cx.bind(h:Cx G U a b)(hs:∀s c d x,U s->G s=some (c,d,x)->Cx G' U' c d):Cx G' U' a b:=by
 induction h with
 | refl=>exact .refl _
 | step s x _ h1 h2 ih=>{
 rcases h2 with h2|h2
 · exact ih.trans (hs _ _ _ _ h1 h2)
 · exact ih.trans (hs _ _ _ _ h1 h2).symm}
theorem Cx.mono(h:Cx G U a b)(hs:∀s e,U s->G s=some e->U' s):Cx G U' a b:=
  h.bind fun s _ _ _x h1 h2=>Cx.edge (hs s _ h1 h2) h2
theorem Cx.mono' (h:Cx G U a b)(hs:∀s e,U s->G s=some e->U' s/\G' s=some e):Cx G' U' a b:=
  h.bind fun s _ _ _x h1 h2=>Cx.edge (hs s _ h1 h2).1 (hs s _ h1 h2).2
theorem Cx.more(h:Cx G U p q)(hu:∀t,U t->U' t∨t=s)(hs:G s=some (a,b,x)):
    Cx G U' p q∨(Cx G U' p a/\Cx G U' b q)∨(Cx G U' p b/\Cx G U' a q):=by
 induction h with
 | refl=>exact .inl (.refl _)
 | @step c d t z _ h1 h2 ih=>{
 rcases hu t h1 with h1|rfl
 {
 have e:Cx G U' c d:=.step t z (.refl _) h1 h2;rcases ih with ih|⟨i1,i2⟩|⟨i1,i2⟩
 · exact .inl (ih.trans e)
 · exact .inr (.inl ⟨i1,i2.trans e⟩)
 · exact .inr (.inr ⟨i1,i2.trans e⟩)}
 {
 rw[hs]at h2;simp only[qI,zE]at h2;rcases h2 with⟨rfl,rfl,rfl⟩|⟨rfl,rfl,rfl⟩
 {
 rcases ih with ih|⟨i1,_⟩|⟨i1,_⟩
 · exact .inr (.inl ⟨ih,.refl _⟩)
 · exact .inr (.inl ⟨i1,.refl _⟩)
 · exact .inl i1}
 {
 rcases ih with ih|⟨i1,_⟩|⟨i1,_⟩
 · exact .inr (.inr ⟨ih,.refl _⟩)
 · exact .inl i1
 · exact .inr (.inr ⟨i1,.refl _⟩)}}}
def bef(x:Int)(s:Nat)(y:Int)(t:Nat):Prop:=x<y∨(x=y/\s<t)
def Aft(G:cF)(s:Nat)(x:Int)(t:Nat):Prop:=∃a b y,G t=some (a,b,y)/\bef x s y t
def aK(G:cF)(s:Nat):Prop:=∃a b x,G s=some (a,b,x)/\¬Cx G (Aft G s x) a b
theorem fE{z:Int}{t u:Nat}(h:bef x s y t)(h' :bef y t z u):bef x s z u:=by unfold bef at *;omega
theorem lS(x:Int)(s:Nat):¬bef x s x s:=by unfold bef;omega
theorem xF{t:Nat}(h:s≠t)(hn:¬bef x s y t):bef y t x s:=by unfold bef at *;omega
def Upw(G:cF)(U:Nat->Prop):Prop:=∀t a b x u,U t->G t=some (a,b,x)->Aft G t x u->U u
theorem aEA{S:Nat}{t u:Nat}{z:Int}{e f:Nat}(hS:∀s e,G s=some e->s<S)(hu:G u=some (e,f,z))(h:bef x t z u):
    ((List.range S).filter fun v=>decide (Aft G u z v)).length<((List.range S).filter fun v=>decide (Aft G t x v)).length:=by
 have key:∀l:List Nat,((l.filter fun v=>decide (Aft G u z v)).length<=(l.filter fun v=>decide (Aft G t x v)).length)/\(u∈l->(l.filter fun v=>decide (Aft G u z v)).length<(l.filter fun v=>decide (Aft G t x v)).length):=by {
 intro l;induction l with
 | nil=>exact⟨qK _,fun h=>by simp at h⟩
 | cons v l ih=>{
 have himp:Aft G u z v->Aft G t x v:=fun⟨a,b,y,h1,h2⟩=>⟨a,b,y,h1,fE h h2⟩;by_cases h1:Aft G u z v
 {
 have h2:=himp h1;refine⟨by simp[h1,h2,ih.1],fun hm=>?_⟩;have hne:u≠v:=by {
 rintro rfl;obtain⟨a,b,y,e1,e2⟩:=h1;rw[hu]at e1;simp only[qI,zE]at e1;rw[e1.2.2]at e2;exact lS _ _ e2};have hm' :u∈l:=by simpa[hne] using hm
 have:=ih.2 hm';simp[h1,h2];exact this}
 {
 by_cases h2:Aft G t x v
 {
 have:=ih.1;constructor
 · simp[h1,h2];omega
 · intro _;simp[h1,h2];omega}
 {
 refine⟨by simp[h1,h2,ih.1],fun hm=>?_⟩;have hne:u≠v:=by {
 rintro rfl;exact h2 ⟨e,f,z,hu,h⟩};have hm' :u∈l:=by simpa[hne] using hm
 have:=ih.2 hm';simp[h1,h2];exact this}}}};exact(key _).2 (List.mem_range.2 (hS _ _ hu))
theorem kru{S:Nat}(hS:∀s e,G s=some e->s<S)(hU:Upw G U)(h:Cx G U a b):Cx G (fun t=>U t/\aK G t) a b:=by
 have key:∀(k t:Nat) (c d:Nat) (z:Int),((List.range S).filter fun v=>decide (Aft G t z v)).length<=k->U t->G t=some (c,d,z)->Cx G (fun t=>U t/\aK G t) c d:=by {
 intro k;induction k with
 | zero=>{
 intro t c d z hk ht hg;by_cases hT:aK G t
 · exact Cx.edge ⟨ht,hT⟩ hg
 {
 have hc:Cx G (Aft G t z) c d:=qQ fun hc=>hT ⟨c,d,z,hg,hc⟩;refine hc.bind fun u e f w hu hgu=>?_;obtain⟨_,_,y,e1,e2⟩:=hu;rw[hgu]at e1;simp only[qI,zE]at e1;rw[<-e1.2.2]at e2;have:=aEA hS hgu e2;omega}}
 | succ k ih=>{
 intro t c d z hk ht hg;by_cases hT:aK G t
 · exact Cx.edge ⟨ht,hT⟩ hg
 {
 have hc:Cx G (Aft G t z) c d:=qQ fun hc=>hT ⟨c,d,z,hg,hc⟩;refine hc.bind fun u e f w hu hgu=>?_;have hUu:=hU t c d z u ht hg hu;obtain⟨_,_,y,e1,e2⟩:=hu;rw[hgu]at e1;simp only[qI,zE]at e1;rw[<-e1.2.2]at e2;have:=aEA hS hgu e2;exact ih u e f w (by omega) hUu hgu}}};exact h.bind fun t c d z h1 h2=>key _ t c d z (qK _) h1 h2
theorem aND(G:cF):Upw G (fun _=>True):=fun _ _ _ _ _ _ _ _=>trivial
theorem aEB(G:cF)(s:Nat)(x:Int):Upw G (Aft G s x):=by
 rintro t a b y u ⟨a', b', y', h1,h2⟩ h3 ⟨c,d,z,h4,h5⟩;rw[h3]at h1;simp only[qI,zE]at h1;obtain⟨_,_,rfl⟩:=h1;exact⟨c,d,z,h4,fE h2 h5⟩
theorem aIR(hs:G s=some (a,b,x)):Upw G (fun t=>t=s∨Aft G s x t):=by
 rintro t c d y u (rfl|h1) h3 h4
 {
 rw[hs]at h3;simp only[qI,zE]at h3;obtain⟨_,_,rfl⟩:=h3;exact .inr h4}
 · exact .inr (aEB G s x t c d y u h1 h3 h4)
theorem rN{S:Nat}(hS:∀s e,G s=some e->s<S)(h:Cx G U a b):Cx G (aK G) a b:=
  (kru hS (aND G) (h.mono (fun _ _ _ _=>trivial))).mono (fun _ _ h _=>h.2)
section
variable {S t:Nat} {d:Nat} {z:Int} (hS:∀s e,G s=some e->s<S) (h0:G s=none)
include h0
theorem aIS(h:Aft G t z q)(e:Option (Nat×Nat×Int)):Aft (cM G s e) t z q:=by
 obtain⟨a,b,y,h1,h2⟩:=h;have:q≠s:=by rintro rfl;rw[h0]at h1;cases h1
 exact⟨a,b,y,by rw[aW this];exact h1,h2⟩
theorem xG(h:Cx G (Aft G t z) p q)(e:Option (Nat×Nat×Int)):Cx (cM G s e) (Aft (cM G s e) t z) p q:=
  h.mono' fun u f h1 h2=>⟨aIS h0 h1 e,by rw[aW (fun e1=>by rw[e1,h0]at h2;cases h2)];exact h2⟩
theorem aCD(h:Cx (cM G s (some (a,b,x))) (Aft (cM G s (some (a,b,x))) t z) p q)(hn:¬bef z t x s):Cx G (Aft G t z) p q:=by
 refine h.mono' fun u f h1 h2=>?_;obtain⟨c,d,y,h3,h4⟩:=h1;have hu:u≠s:=by {
 rintro rfl;rw[cN]at h3;simp only[qI,zE]at h3;exact hn (by rw[h3.2.2];exact h4)};rw[aW hu]at h3 h2;exact⟨⟨c,d,y,h3,h4⟩,h2⟩
omit h0 in
theorem xH(h:Cx (cM G s (some (a,b,x))) (Aft (cM G s (some (a,b,x))) t z) p q):
    Cx G (Aft G t z) p q∨(Cx G (Aft G t z) p a/\Cx G (Aft G t z) b q)∨(Cx G (Aft G t z) p b/\Cx G (Aft G t z) a q):=by
 have h1:=h.more (U' :=fun u=>u≠s/\Aft (cM G s (some (a,b,x))) t z u) (s:=s) (fun u hu=>if e:u=s then .inr e else .inl ⟨e,hu⟩) (cN _ _ _);have back:∀{p q:Nat},Cx (cM G s (some (a,b,x))) (fun u=>u≠s/\Aft (cM G s (some (a,b,x))) t z u) p q->Cx G (Aft G t z) p q:=fun h=>h.mono' fun u f h1 h2=>by
   obtain⟨hu,c,d,y,h3,h4⟩:=h1;rw[aW hu]at h3 h2;exact⟨⟨c,d,y,h3,h4⟩,h2⟩
 rcases h1 with h1|⟨h1,h2⟩|⟨h1,h2⟩
 · exact .inl (back h1)
 · exact .inr (.inl ⟨back h1,back h2⟩)
 · exact .inr (.inr ⟨back h1,back h2⟩)
theorem pE(ht:t≠s)(h:aK (cM G s (some (a,b,x))) t):aK G t:=by
 obtain⟨c,d,z,h1,h2⟩:=h;rw[aW ht]at h1;exact⟨c,d,z,h1,fun h=>h2 (xG h0 h _)⟩
include hS
theorem aNE(hn:¬Cx G (aK G) a b)(t:Nat):aK (cM G s (some (a,b,x))) t↔aK G t∨t=s:=by
 constructor
 {
 intro h;by_cases e:t=s
 · exact .inr e
 · exact .inl (pE h0 e h)}
 {
 rintro(h|rfl)
 {
 obtain⟨c,d,z,h1,h2⟩:=h;have e:t≠s:=by rintro rfl;rw[h0]at h1;cases h1
 refine⟨c,d,z,by rw[aW e];exact h1,fun h=>?_⟩;have wk:∀{p q:Nat},Cx G (Aft G t z) p q->Cx G (fun _=>True) p q:=fun h=>h.mono (fun _ _ _ _=>trivial);have ed:Cx G (fun _=>True) c d:=Cx.edge (s:=t) trivial h1;rcases xH h with h|⟨h3,h4⟩|⟨h3,h4⟩
 · exact h2 h
 · exact hn (rN hS (((wk h3).symm.trans ed).trans (wk h4).symm))
 · exact hn (rN hS (((wk h4).trans ed.symm).trans (wk h3)))}
 · exact⟨a,b,x,cN _ _ _,fun h=>hn (rN hS (aCD h0 h (lS x t)))⟩}
omit hS in
theorem aIT(hc:Cx G (Aft G s x) a b)(t:Nat):aK (cM G s (some (a,b,x))) t↔aK G t:=by
 constructor
 {
 intro h;by_cases e:t=s
 {
 subst e;obtain⟨c,d,z,h1,h2⟩:=h;rw[cN]at h1;simp only[qI,zE]at h1;obtain⟨rfl,rfl,rfl⟩:=h1;exact absurd (xG h0 hc _) h2}
 · exact pE h0 e h}
 {
 rintro⟨c,d,z,h1,h2⟩;have e:t≠s:=by rintro rfl;rw[h0]at h1;cases h1
 refine⟨c,d,z,by rw[aW e];exact h1,fun h=>h2 ?_⟩;by_cases hb:bef z t x s
 {
 have hc' :Cx G (Aft G t z) a b:=hc.mono fun u f ⟨a', b', y,h3,h4⟩ _=>⟨a', b', y,h3,fE hb h4⟩;rcases xH h with h|⟨h3,h4⟩|⟨h3,h4⟩
 · exact h
 · exact(h3.trans hc').trans h4
 · exact(h3.trans hc'.symm).trans h4}
 · exact aCD h0 h hb}
theorem aIU{ma mb:Nat}(hm:G m=some (ma,mb,y))(hc:Cx G (fun t=>aK G t/\(t=m∨Aft G m y t)) a b)(hn:¬Cx G (fun t=>aK G t/\t≠m) a b)(hb:bef y m x s)(t:Nat):
    aK (cM G s (some (a,b,x))) t↔(aK G t/\t≠m)∨t=s:=by
 have hms:m≠s:=by rintro rfl;rw[h0]at hm;cases hm
 constructor
 {
 intro h;by_cases e:t=s
 · exact .inr e
 {
 refine .inl ⟨pE h0 e h,?_⟩;rintro rfl;obtain⟨c,d,z,h1,h2⟩:=h;rw[aW e,hm]at h1;simp only[qI,zE]at h1;obtain⟨rfl,rfl,rfl⟩:=h1;have es:Cx (cM G s (some (a,b,x))) (Aft (cM G s (some (a,b,x))) t y) a b:=Cx.edge (s:=s) ⟨a,b,x,cN _ _ _,hb⟩ (cN _ _ _);have lift:∀{p q:Nat},Cx G (fun u=>aK G u/\Aft G t y u) p q->Cx (cM G s (some (a,b,x))) (Aft (cM G s (some (a,b,x))) t y) p q:=fun h=>xG h0 (h.mono fun _ _ h _=>h.2) _;rcases hc.more (U' :=fun u=>aK G u/\Aft G t y u) (s:=t) (fun u hu=>hu.2.elim .inr (fun h=>.inl ⟨hu.1,h⟩)) hm with h|⟨h3,h4⟩|⟨h3,h4⟩
 {
 refine hn (h.mono fun u _ hu _=>⟨hu.1,?_⟩);rintro rfl;obtain⟨_,_,y', e1,e2⟩:=hu.2;rw[hm]at e1;simp only[qI,zE]at e1;rw[<-e1.2.2]at e2;exact lS _ _ e2}
 · exact h2 (((lift h3).symm.trans es).trans (lift h4).symm)
 · exact h2 (((lift h4).trans es.symm).trans (lift h3))}}
 {
 rintro(⟨h,htm⟩|rfl)
 {
 obtain⟨c,d,z,h1,h2⟩:=h;have e:t≠s:=by rintro rfl;rw[h0]at h1;cases h1
 refine⟨c,d,z,by rw[aW e];exact h1,fun h=>?_⟩;by_cases hb1:bef z t y m
 {
 have hc' :Cx G (Aft G t z) a b:=hc.mono fun u f hu _=>by
   rcases hu.2 with rfl|⟨a', b', y', h3,h4⟩
   · exact⟨ma,mb,y,hm,hb1⟩
   · exact⟨a', b', y', h3,fE hb1 h4⟩
 rcases xH h with h|⟨h3,h4⟩|⟨h3,h4⟩
 · exact h2 h
 · exact h2 ((h3.trans hc').trans h4)
 · exact h2 ((h3.trans hc'.symm).trans h4)}
 {
 have hmt:=xF htm hb1;have up:∀{p q:Nat},Cx G (Aft G t z) p q->Cx G (fun u=>u=t∨Aft G t z u) p q:=fun h=>h.mono fun _ _ h _=>.inr h;have ed:Cx G (fun u=>u=t∨Aft G t z u) c d:=Cx.edge (s:=t) (.inl rfl) h1;have fin:Cx G (fun u=>u=t∨Aft G t z u) a b->False:=fun hab=>by
   refine hn ((kru hS (aIR h1) hab).mono fun u _ hu _=>⟨hu.2,?_⟩);rintro rfl;rcases hu.1 with rfl|⟨_,_,y', e1,e2⟩
   · exact htm rfl
   · rw [hm] at e1; simp only [qI, zE] at e1
     rw[<-e1.2.2]at e2;exact lS _ _ (fE hmt e2)
 rcases xH h with h|⟨h3,h4⟩|⟨h3,h4⟩
 · exact h2 h
 · exact fin (((up h3).symm.trans ed).trans (up h4).symm)
 · exact fin (((up h4).trans ed.symm).trans (up h3))}}
 {
 refine⟨a,b,x,cN _ _ _,fun h=>?_⟩;have h1:=kru hS (aEB G t x) (aCD h0 h (lS x t));refine hn (h1.mono fun u _ hu _=>⟨hu.2,?_⟩);rintro rfl;obtain⟨_,_,y', e1,e2⟩:=hu.1;rw[hm]at e1;simp only[qI,zE]at e1;rw[<-e1.2.2]at e2;exact lS _ _ (fE hb e2)}}
end
end
end Go.Proofs.YtjdgpcjbgjnahaaGreatDoor
namespace Go.Proofs.YtjdgpcjbgjnahaaGreatDoor
open Go.RowKit Go.Shelf
attribute [local go_sem] Oper.semAt_some
structure Bx (n₀ g:Nat) (w w' :World):Prop where
  os:w'.os=w.os
  tape:w'.tape=w.tape
  output:w'.output=w.output
  size:w.heap.size<=w'.heap.size
  keep:∀k,k<n₀->k≠g->w'.heap[k]? =w.heap[k]?
section
variable {n₀ g:Nat} {w w' w'' :World}
theorem Bx.refl(n₀ g:Nat)(w:World):Bx n₀ g w w:=⟨rfl,rfl,rfl,qK _,fun _ _ _=>rfl⟩
theorem Bx.trans(h:Bx n₀ g w w')(k:Bx n₀ g w' w''):Bx n₀ g w w'' :=
  ⟨k.os.trans h.os,k.tape.trans h.tape,k.output.trans h.output,zH h.size k.size,fun i hi hn=>(k.keep i hi hn).trans (h.keep i hi hn)⟩
theorem Bx.of_fr(h:Fr [g] w w')(hn:n₀<=w.heap.size):Bx n₀ g w w' :=⟨h.os,h.tape,h.output,h.size,fun k hk hne=>h.keep k (by omega) (by simpa using hne)⟩
theorem Bx.of_below(h:Below n₀ w w'):Bx n₀ g w w' :=⟨h.os,h.tape,h.output,h.size,fun k hk _=>h.block k hk⟩
theorem Bx.fr(h:Bx w.heap.size g w w'):Fr [g] w w' :=⟨h.os,h.tape,h.output,h.size,fun k hk hn=>h.keep k hk (by simpa using hn)⟩
theorem Bx.mono{n:Nat}(h:Bx n₀ g w w')(hn:n<=n₀):Bx n g w w' :=⟨h.os,h.tape,h.output,h.size,fun k hk=>h.keep k (by omega)⟩
theorem Bx.cell{p:Addr}(h:Bx n₀ g w w')(hp:p.block<n₀)(hg:p.block≠g):w'.cell? p=w.cell? p:=World.cell?_of_block (h.keep _ hp hg)
theorem Bx.grown{row:Option Nat}(h:Bx n₀ g w w')(hg:w'.grownBy w'' row)(hn:n₀<=w'.heap.size)(hr:∀k,row=some k->n₀<=k):Bx n₀ g w w'' :=
  h.trans ⟨hg.os,hg.tape,hg.output,hg.size,fun k hk _=>hg.block k (by omega) (fun e=>by have:=hr k e.symm;omega)⟩
end
theorem aTD{n₀ g:Nat}{w:World}(hn:n₀<=w.heap.size)(W:World)(l:Nat)(o o' :Obj)(hl:w.heap.size<=l)(h:W.heap[l]? =some o)(_:o.isCells=false)(_:o.isWalk=false):Bx n₀ g W (W.putObj l o'):=
  (Bx.refl n₀ g W).grown (grownBy_putObj' W l o') (by have:=(qM.1 h).1;omega) (fun k e=>by cases e;omega)
theorem aCE{β:Type}{n₀ g B:Nat}{w₀:World}(hn:n₀<=w₀.heap.size)(hB:n₀<=B):OwnFrom B (fun(_:β) W=>Bx n₀ g w₀ W):=
  fun _ _ _ _ hs hg hr=>hs.grown hg (zH hn hs.size) (fun k e=>zH hB (hr k e).1)
theorem sW{g:Nat}{w w' :World}{arr:Array Value}{t:TypeId}{z:Nat×Nat}(h:Fr [g] w w')(hg:w.heap[g]? =some (.cells arr t z)):KeepsOthers w w' :=
  ⟨h.size,fun k o hk ho=>by
 have hkg:k≠g:=by rintro rfl;rw[hg]at hk;cases hk;cases ho
 exact(h.keep k (qM.1 hk).1 (by simpa using hkg)).trans hk⟩
abbrev Pl(N:Nat):={ x:Nat×Nat // x.2<N }
def bk(N m:Nat)(P:Nat->Nat)(hP:∀i,P i<N)(k:Nat):Pl N:=⟨(m-1-k,P (m-1-k)),hP _⟩
def bks(N m:Nat)(P:Nat->Nat)(hP:∀i,P i<N)(k:Nat):List (Pl N):=(List.range k).map (bk N m P hP)
theorem aIV(N m:Nat)(P:Nat->Nat)(hP:∀i,P i<N)(k:Nat):bks N m P hP (k+1)=bks N m P hP k++[bk N m P hP k]:=by simp[bks,List.range_succ]
theorem aIW(nf l Bb gp m cap N g B:Nat)(P:Nat->Nat)(hP:∀i,P i<N)(_hN:N<=65537)(hm:m<=65537)(hnf:2<=nf)(hBb:Bb<B)(hgp:gp<B)(hbg:Bb≠g)(hpg:gp≠g)
    (J Jx:List (Pl N)->World->Prop)
    (hY:∀pre x W,J pre W->pre.length<m->YieldAt Fence.wide (nf-1) Tryz.prog l #[.int .i64 x.1.1,.int .i64 x.1.2] W fun e W' =>
      (e=.returned (.bool true)/\J (pre++[x]) W' /\ Bx B g W W')∨(e=.returned (.bool false)/\Jx (pre++[x]) W'))
    (W:World) (hc:W.cell? ⟨Bb,0,none⟩=some (.slice (some ⟨gp,0,none⟩) m cap)) (_hmc:m<=cap) (hp:∀i,i<m->W.cell? ⟨gp,i,none⟩=some (.int .i64 (P i))) (h0:J [] W):
    CallsIn Fence.wide nf Tryz.prog 243 #[.func (.yield l) #[] #[],.pointer (some ⟨Bb,0,none⟩)] W fun e W' =>(∃v,e=.returned v) /\
      ((∃ys,ys=bks N m P hP m/\J ys W')∨(∃pre,True/\Jx pre W')):=by
 have HP:=qA hp;clear hp;refine callsIn_of_wp Tryz.func243 rfl trivial ?_ rfl;simp only[Tryz.ntmps243,List.size_toArray,qZ,List.length_nil,Nat.reduceAdd,Nat.reduceSub,Array.replicate_succ,Array.replicate_zero,List.push_toArray,List.append_toArray,List.nil_append,zC];gi_wp2
 gi_loopw [3] (fun x wr=>∃i:Nat,i<=m/\x=.int .i64 ((i:Int)-1)/\Bx B g W wr/\J (bks N m P hP (m-i)) wr) (fun x _=>(intOf x+1).toNat)
 case atStart=>exact⟨m,qK _,by go_num,Bx.refl _ _ _,by rw[Nat.sub_self];exact h0⟩
 case round=>
  obtain⟨i,hi,rfl,hB,hJ⟩:=hrel;cases i with
  | zero=>{
  rw[show((0:Nat):Int)-1=-1 by rfl];gi_wp2
  go_end0
  exact⟨⟨_,rfl⟩,.inl ⟨_,rfl,hJ⟩⟩}
  | succ j=>{
  rw[show((j+1:Nat):Int)-1=(j:Int) by omega];have rc:=(hB.cell (p:=⟨Bb,0,none⟩) hBb hbg).trans hc;have rp:=(hB.cell (p:=⟨gp,j,none⟩) hgp hpg).trans (HP.out j (by omega));obtain⟨fn,tmps,assign,body,hy,hRd⟩:=hY (bks N m P hP (m-(j+1))) (bk N m P hP (m-(j+1))) wr hJ (by simp[bks];omega);have e0:(bk N m P hP (m-(j+1))).1.1=j:=by simp only[bk];omega
  have e1:(bk N m P hP (m-(j+1))).1.2=P j:=by simp only[bk];rw[show m-1-(m-(j+1))=j by omega]
  rw[e0,e1]at hy;clear e0 e1;have hjm:(j:Int)<m:=by omega
  gi_wp2
  refine⟨fun _=>by omega,?_⟩;refine hRd.mono ?_;rintro e W3 (⟨rfl,hJ3,hk3⟩|⟨rfl,hJx3⟩)
  {
  clear rc rp;gi_wp2
  go_roundw
  case rel=>exact⟨j,by omega,by go_num,hB.trans hk3,by rw[show m-j=(m-(j+1))+1 by omega,aIV];exact hJ3⟩
  case measure=>simp[intOf]}
  {
  gi_wp2
  refine bodyPost_ret (results_none rfl _ _ _) rfl ?_;exact⟨⟨_,rfl⟩,.inr ⟨_,trivial,hJx3⟩⟩}}
attribute [local go_sem] Oper.semAt_some
theorem aE.below{w w' :World}{pf g N cap n:Nat}{σ:Tbl}{ed:Int}(h:aE w pf g N cap σ ed)(hb:Below n w w')(hp:pf<n)(hg:g<n):aE w' pf g N cap σ ed:=
  ⟨h.hd.of_same (hb.block pf hp),h.nodes.same (hb.block g hg),h.ne,h.le,h.cap⟩
theorem aE.lts{w:World}{pf g N cap:Nat}{σ:Tbl}{ed:Int}(h:aE w pf g N cap σ ed):pf<w.heap.size/\g<w.heap.size:=⟨h.hd.lt,h.nodes.lt⟩
theorem zP{a:Fm}:∀{c:List Fm},a∈c->a.p∈aS c
  | b::c,h=>by
    rcases qB.1 h with rfl|h
    · simp[aS]
    · simp only[aS,zC,qB,qE];exact .inr (.inr (zP h))
theorem sX:∀c:List Fm,c.length<=(aS c).length
  | []=>qK _
  | a::c=>by have:=sX c;simp[aS];omega
theorem zQ{l:List Nat}{N:Nat}(h:l.Nodup)(hl:∀x∈l,x<N):l.length<=N:=by
 have h1:l ⊆ List.range N:=fun x hx=>List.mem_range.2 (hl x hx);have:=h.length_le_of_subset h1;simpa using this
def aPR:Value->Nat
  | .slice _ n _=>n
  | _=>0
theorem Fr.of_grown{w w' :World}{b:Nat}{row:Option Nat}{o:Obj}(hg:(w.alloc o).grownBy w' row)(hr:∀k,row=some k->b<=k)(hb:b<=w.heap.size):Below b w w' :=
  ((Below.refl b w).alloc hb o).grown hg (by simp;omega) hr
theorem Tryz.linfo3:(Tryz.prog.info? 3).map (fun i=>(i.zero,i.size,i.bytes))=some (some (.int .i64 0),1,8):=by kernel_rfl
theorem aE.grown{w w' :World}{pf g N cap:Nat}{σ:Tbl}{ed:Int}{row:Option Nat}(h:aE w pf g N cap σ ed)(hg:w.grownBy w' row)(hr:∀k,row=some k->k≠pf/\k≠g):aE w' pf g N cap σ ed:=
  ⟨h.hd.of_same (hg.block pf h.hd.lt (fun e=>(hr _ e.symm).1 rfl)),h.nodes.same (hg.block g h.nodes.lt (fun e=>(hr _ e.symm).2 rfl)),h.ne,h.le,h.cap⟩
theorem InR.pushAll{N:Nat}:∀{ps:List Nat} {σ:Tbl},InR N σ->(∀x∈ps,x<N)->InR N (pushAll σ ps)
  | [],_,h,_=>h
  | p::ps,σ,h,hp=>InR.pushAll (ps:=ps) (h.push p (hp p (by simp))) (fun x hx=>hp x (by simp[hx]))
theorem xI(σ:Tbl)(ps:List Nat)(x:Nat):pushAll σ (ps++[x])=push (pushAll σ ps) x:=by simp[pushAll]
theorem uI{w:World}{e:TypeId}{g n cap:Nat}{xs:List Value}(h:w.ownsRow 0 e 1 (.slice (some ⟨g,0,none⟩) n cap) n xs)(hn:0<n):n<=cap/\g<w.heap.size/\∀i,i<n->w.cell? ⟨g,i,none⟩=xs[i]? :=by
 obtain⟨g', cap', e1,h1,h2,_⟩:=dK h hn;simp only[qP,qI,Addr.mk.injEq,and_true,true_and]at e1;obtain⟨rfl,rfl⟩:=e1;refine⟨h1,h2,fun i hi=>?_⟩;obtain⟨g', cap', e1,_,_,h3,_⟩:=dK h hi;simp only[qP,qI,Addr.mk.injEq,and_true,true_and]at e1;obtain⟨rfl,rfl⟩:=e1;exact h3
theorem aNF(N m:Nat)(P:Nat->Nat)(hP:∀i,P i<N)(k:Nat):(bks N m P hP k).map (fun x=>x.1.2)=(List.range k).map (fun k=>P (m-1-k)):=by simp[bks,bk,Function.comp_def]
theorem aFY(P:List Nat):(List.range P.length).map (fun k=>P.getD (P.length-1-k) 0)=P.reverse:=by
 apply List.ext_getElem?;intro j;by_cases h:j<P.length
 {
 rw[List.getElem?_map,List.getElem?_range h,List.getElem?_reverse h];simp only[Option.map_some,List.getD_eq_getElem?_getD];rw[qL (show P.length-1-j<P.length by omega)];rfl}
 · rw[zB (by simp;omega),zB (by simp;omega)]
def aNG(x:Nat):Value:=.int .i64 x
theorem aNH{w:World}{pf g N cap:Nat}{σ:Tbl}{ed:Int}(h:aE w pf g N cap σ ed)(i:Nat)(hR:InR N σ)(c:List Fm)(f:Bool)(l r:BT)(u:Nat)
    (hrep:Rep σ (aQ c (.node f l i r)) u) (hnd:(aQ c (.node f l i r)).nodes.Nodup) (hO:Out σ u (aQ c (.node f l i r)).nodes) (hlt:∀x∈(aQ c (.node f l i r)).nodes,x<N):
    Calls Tryz.prog 205 #[.pointer (some ⟨pf,0,none⟩),.int .i64 i] w fun e w' =>e=.returned (.tuple #[]) /\
      ∃σ' l' r', aE w' pf g N cap σ' ed/\Rep σ' (.node false l' i r') u/\(BT.node false l' i r').seq=(aQ c (.node f l i r)).seq/\(BT.node false l' i r').nodes.Perm (aQ c (.node f l i r)).nodes/\cE σ σ' (aQ c (.node f l i r)).nodes/\InR N σ' /\ Fr [g] w w' :=by
 obtain⟨hpf,hg⟩:=h.lts;have hN:=h.le;have HR:=qA hR;clear hR;have hi0:i≠0:=(eQ.1 hrep).1.1.1;have hcl:=aDY hrep hi0 hnd hO;have hPm:∀x∈i::c.map Fm.p,x∈(aQ c (.node f l i r)).nodes:=by {
 intro x hx;refine(aY c _).mem_iff.2 ?_;rcases qB.1 hx with rfl|hx
 · simp[BT.nodes]
 {
 rw[qE];right;obtain⟨a,ha,rfl⟩:=qW.1 hx;exact zP ha}};have hPN:∀x∈i::c.map Fm.p,x<N:=fun x hx=>hlt x (hPm x hx);have hPl:(i::c.map Fm.p).length=c.length+1:=by simp
 have hway:Way (aQ c (.node f l i r)) ((c.map Fm.p).reverse++[i]):=yY c ⟨rfl,.inl rfl⟩;have hlen:c.length+1<=N:=by {
 have h1:=zQ hnd hlt;have h2:=(aY c (.node f l i r)).length_eq;have h3:=sX c;simp only[zF,BT.nodes,qZ]at h2;omega};generalize hPP:i::c.map Fm.p=P at *;have hP0:P[0]? =some i:=by rw[<-hPP];rfl
 have HPP:=qA hPP;clear hPP;have HC:=qA hcl;clear hcl;have HW:=qA hway;clear hway;have HRep:=qA (zI hrep (zI hnd hO));clear hrep hnd hO;have HPN:=qA hPN;clear hPN;have HPl:=qA hPl;clear hPl;refine(callsIn_wide (n:=9)).1 ?_;refine callsIn_of_wp_marks Tryz.func205 rfl trivial ?_ rfl;simp only[Tryz.ntmps205,List.size_toArray,qZ,List.length_nil,Nat.reduceAdd,Nat.reduceSub,Array.replicate_succ,Array.replicate_zero,List.push_toArray,List.append_toArray,List.nil_append,zC];refine wpIn_wide.2 ?_;go_wp2
 go_step3
 go_wp2
 refine wp_label ?_;go_wp2
 have hL0:aE (w.alloc (.cells #[.pointer (some ⟨pf,0,none⟩)] 146)) pf g N cap σ ed:=h.below ((Below.refl w.heap.size w).alloc (qK _) _) hpf hg;have hB0:Below w.heap.size w (w.alloc (.cells #[.pointer (some ⟨pf,0,none⟩)] 146)):=(Below.refl w.heap.size w).alloc (qK _) _;have hbox:(w.alloc (.cells #[.pointer (some ⟨pf,0,none⟩)] 146)).cell? ⟨w.heap.size,0,none⟩=some (.pointer (some ⟨pf,0,none⟩)):=aD w _ _ _ rfl;have hsz:(w.alloc (.cells #[.pointer (some ⟨pf,0,none⟩)] 146)).heap.size=w.heap.size+1:=by simp
 generalize w.alloc (.cells #[.pointer (some ⟨pf,0,none⟩)] 146)=W0 at *;clear h;go_loopw [4,5] (fun a b wr=>∃k x:Nat,k<=c.length/\Hid (P[k]? =some x)/\b=.int .i64 x/\wr.ownsRow 0 3 1 a k ((P.take k).map aNG)/\Below (w.heap.size+1) W0 wr/\∀q,a.ownBlock=some q->w.heap.size+1<=q) (fun a _ _=>c.length+1-aPR a)
 case atStart=>exact⟨0,i,qS _,qA hP0,rfl,World.ownsRow_nil _ _ _ _,Below.refl _ _,fun q e=>by cases e⟩
 case round=>
  obtain⟨k,x,hk,hx,rfl,hown,hB,hq⟩:=hrel;obtain⟨a9,c9,rfl⟩:=bH hown;have hL:aE wr pf g N cap σ ed:=hL0.below hB (by omega) (by omega);have hxN:x<N:=HPN.out x (List.mem_of_getElem? hx.out);have hS:=qA hB.size;have hnx:∀b:Bool,(aT σ x).2=b->(b=true->∃y,P[k+1]? =some y/\(σ x).up=y/\k+1<=c.length)/\(b=false->k=c.length):=by {
  intro b hb;have hkl:=HPl.out;by_cases e:k=c.length
  {
  refine⟨fun h=>?_,fun _=>e⟩;have:=HC.out.2 x (by show(i::c.map Fm.p)[c.length]? =_;rw[HPP.out,<-e];exact hx.out);rw[hb,h]at this;cases this}
  {
  have hy:P[k+1]? =some (P[k+1]'(by omega)):=qL _;have:=HC.out.1 k x (P[k+1]'(by omega)) (by show(i::c.map Fm.p)[k]? =_;rw[HPP.out];exact hx.out) (by show(i::c.map Fm.p)[k+1]? =_;rw[HPP.out];exact hy);refine⟨fun _=>⟨_,hy,this.2,by omega⟩,fun h=>?_⟩;rw[hb,h]at this;cases this.1}};have Hnx:=qA hnx;clear hnx;go_wp2_with (at_builtin;refine aB rfl _ _ 158 rfl 3 (.int .i64 0) 8 Tryz.underlying158 Tryz.linfo3 rfl (.slice a9 k c9) k _ rfl (hown.alloc _) wr.heap.size (.int .i64 x) rfl (aD _ _ _ _ rfl) rfl (by omega) (by decide) ?_;intro g' cap' w3 hown3 hgrow3 hg3;have hB3:Below (w.heap.size+1) W0 w3:=hB.trans (Fr.of_grown hgrow3 hq (by have:=hB.size;omega));have hb3:=(hB3.cell (p:=⟨w.heap.size,0,none⟩) (by simp)).trans hbox)
  have hL3:aE w3 pf g N cap σ ed:=hL0.below hB3 (by omega) (by omega);have hq3:w.heap.size+1<=g' :=by {
  rcases hg3 with e|e
  · exact hq _ e
  · simp only[World.size_alloc]at e;have:=hS.out;omega};rw[show(P.take k).map aNG++[Value.int .i64 x]=(P.take (k+1)).map aNG by rw[List.take_add_one,hx.out];simp[aNG]]at hown3;clear hown hgrow3 hg3 hL hB hS hq;refine(pD hL3 x hxN HR.out).mono ?_;rintro _ w3 ⟨rfl,rfl⟩;generalize hsd:aT σ x=sx at *;obtain⟨s0,b⟩:=sx;have Hn:=qA (Hnx.out b rfl);clear Hnx;dsimp only
  cases b with
  | false=>{
  have hkc:=Hn.out.2 rfl;subst hkc;clear Hn;rw[List.take_of_length_le (by rw[HPl.out];exact qK _)]at hown3;obtain⟨hcap,hglt,hcells⟩:=uI hown3 (by omega);clear hown3;go_wp2
  have hB4:Below (w.heap.size+1) W0 (w3.alloc (.cells #[.slice (some ⟨g', 0,none⟩) (c.length+1) cap'] 158)):=hB3.alloc (by have:=hB3.size;omega) _;have hc4:=Blk.new w3 [.slice (some ⟨g', 0,none⟩) (c.length+1) cap'] 158;have hr4:∀j,j<c.length+1->(w3.alloc (.cells #[.slice (some ⟨g', 0,none⟩) (c.length+1) cap'] 158)).cell? ⟨g', j,none⟩=some (.int .i64 (P.getD j 0)):=by {
  intro j hj;rw[World.cell?_of_block (Below.heap_alloc w3 _ g' hglt),hcells j hj];simp only[List.getElem?_map,List.getD_eq_getElem?_getD];rw[qL (show j<P.length by rw[HPl.out];omega)];rfl};have hs4:(w3.alloc (.cells #[.slice (some ⟨g', 0,none⟩) (c.length+1) cap'] 158)).heap.size=w3.heap.size+1:=by simp
  generalize w3.alloc (.cells #[.slice (some ⟨g', 0,none⟩) (c.length+1) cap'] 158)=W1 at *;have hs3:=hB3.size;have hL4:aE W1 pf g N cap σ ed:=hL0.below hB4 (by omega) (by omega);have hb4:=(hB4.cell (p:=⟨w.heap.size,0,none⟩) (by simp)).trans hbox;have hPd:∀j,P.getD j 0<N:=by {
  intro j;rw[List.getD_eq_getElem?_getD];cases e:P[j]? with
  | none=>simp;omega
  | some y=>exact HPN.out y (List.mem_of_getElem? e)};clear hcells hb3 hL3 hx;refine(wpIn_wide (n:=9)).1 ?_
  refine' wpIn_rangeFunc_ownF (n := 9) rfl (by decide) (α := Pl N) (gf := 243) (lb := #[.pointer (some ⟨w3.heap.size, 0, none⟩)]) rfl trivial (enters_of Tryz.func243 (by kernel_rfl) rfl)
    (encs:=fun x=>#[.int .i64 x.1.1,.int .i64 x.1.2]) (Kp:=Bx W1.heap.size g) (S:=fun ys=>ys=bks N (c.length+1) (fun j=>P.getD j 0) hPd (c.length+1)) (Sp:=fun _=>True) (N:=c.length+1) (w0:=W1)
    (fun l J Jx W hW _ _ hY h0=>aIW 8 l w3.heap.size g' (c.length+1) cap' N g W1.heap.size (fun j=>P.getD j 0) hPd hN (by omega) (by decide) (by omega) (by omega) (by omega) (by omega) J Jx hY W ((hW.cell (p:=⟨w3.heap.size,0,none⟩) (by show w3.heap.size<_;omega)).trans (hc4.cell 0)) hcap (fun j hj=>(hW.cell (p:=⟨g', j,none⟩) (by show g' < _;omega)).trans (hr4 j hj)) h0)
    (fun h k=>h.trans k) (aTD (qK _)) (Below.refl _ _) (fun _=>rfl)
    (fun pre W=>(aE W pf g N cap (pushAll σ (pre.map (fun x=>x.1.2))) ed/\W.cell? ⟨w.heap.size,0,none⟩=some (.pointer (some ⟨pf,0,none⟩)))/\Bx W1.heap.size g W1 W)
    (fun _ _ _=>False)
    (OwnFrom.and (fun s A B row hs hg hr=>⟨hs.1.grown hg (fun k e=>by have:=(hr k e).1;omega),(World.cell?_of_block (hg.block w.heap.size (wK (a:=⟨w.heap.size,0,none⟩) hs.2) (fun e=>by have:=(hr w.heap.size e.symm).1;omega))).trans hs.2⟩) (aCE (qK _) (qK _)))
    (fun c s A B row hs hg hr=>hs) ⟨⟨hL4,hb4⟩,Bx.refl _ _ _⟩ _ ?assign ?body ?done ?stop
  case assign=>
   intro l x W K hK;gi_wp2
   exact hK
  case body=>
   rintro l pre x W ⟨⟨hLp,hbp⟩,hBp⟩ _;obtain⟨⟨x1,x2⟩,hx2⟩:=x;dsimp only at hx2
   gi_wp2_with (refine⟨trivial,?_⟩;gi_at_call 227;refine(CallsIn.inRound l (callsIn_wide.2 (aQH hLp x2 hx2 (HR.out.pushAll (fun y hy=>by obtain⟨z,_,rfl⟩:=qW.1 hy;exact z.2))))).mono ?_;rintro e w' ⟨rfl,hLq,hFq⟩)
   obtain⟨arr,hga,_⟩:=hLp.nodes;refine⟨sW hFq hga,Bx.of_fr hFq hBp.size,⟨?_,hFq.cell hbp (by show w.heap.size∉[g];simp;omega)⟩,hBp.trans (Bx.of_fr hFq hBp.size)⟩;rw[List.map_append,List.map_cons,List.map_nil,xI];exact hLq
  case stop=>
   rintro D c pre W hD _ hf hK;exact hf.elim
  case done=>
   rintro D ys W hD rfl ⟨⟨hLd,hbd⟩,hBd⟩ hK;rw[aNF,<-HPl.out,aFY,show P.reverse=(c.map Fm.p).reverse++[i] by rw[<-HPP.out];simp]at hLd;have hsp:∃c' l' r', rJ N σ (pushAll σ ((c.map Fm.p).reverse++[i])) u i (aQ c (.node f l i r)) c' l' r' :=by {
   obtain⟨c', l', r', a1,a2,a3,a4,a5⟩:=pW (c:=[]) (t:=aQ c (.node f l i r)) HRep.out.1 HRep.out.2.1 (fun _ h=>by cases h) HW.out;exact⟨c', l', r', a1,a2,a3,a4,a5,HR.out.pushAll (fun x hx=>HPN.out x (by rw[<-HPP.out];simp at hx;simp;rcases hx with h|h;exact .inr h;exact .inl h))⟩};obtain⟨c1,l1,r1,hS1⟩:=hsp;have HS1:=qA hS1;clear hS1;generalize pushAll σ ((c.map Fm.p).reverse++[i])=τ1 at *;have hBw:Bx w.heap.size g w W:=(Bx.of_below (hB0.trans (hB4.mono (by omega)))).trans (hBd.mono (by omega));clear hc4 hr4 hL4 hb4 hBd hPd hB4 hB3 hglt;go_wp2
   go_loopg [] (c1.length+1) (fun k wr=>∃τ c1 l1 r1,Hid (c1.length<k/\rJ N σ τ u i (aQ c (.node f l i r)) c1 l1 r1)/\aE wr pf g N cap τ ed/\Bx w.heap.size g w wr/\wr.cell? ⟨w.heap.size,0,none⟩=some (.pointer (some ⟨pf,0,none⟩))/\wr.heap[D]? =some (.deferred (some [])))
   case atStart=>exact⟨τ1,c1,l1,r1,qA ⟨Nat.lt_succ_self _,HS1.out⟩,hLd,hBw,hbd,hK⟩
   case round=>
    clear hLd hbd hBw hK HS1;obtain⟨τ,c2,l2,r2,HS,hLr,hBr,hbr,hKr⟩:=hrel;have hiN:i<N:=hlt i ((aY c _).mem_iff.2 (by simp[BT.nodes]));have hi2:(i:Int)<N:=by omega
    have d1:=hLr.hd.cell 1;simp only[zJ,zK]at d1;have hDg:D≠g:=by omega
    have hwg:w.heap.size≠g:=by omega
    cases c2 with
    | nil=>{
    have hsd:(aT τ i).2=false:=(aDY HS.out.2.rep hi0 (HS.out.2.nd HRep.out.2.1) (HS.out.2.out HRep.out.2.2)).2 i rfl;go_wp2_with fail
    refine(pD hLr i hiN HS.out.2.inR).mono ?_;rintro _ wx ⟨rfl,rfl⟩;rw[hsd];go_wp2
    rw[Exit.noGoto_ret];refine⟨by simp,.inl ⟨_,_,rfl,run_takeDeferred hKr,?_⟩⟩;refine⟨.tuple #[],results_none rfl _ _ _,rfl,τ,l2,r2,?_,HS.out.2.rep,HS.out.2.seq,HS.out.2.perm,HS.out.2.rot,HS.out.2.inR,?_⟩
    · exact hLr.grown (grownBy_putObj' _ D (.deferred none)) (fun k e=>by cases e;omega)
    · exact(hBr.grown (grownBy_putObj' _ D (.deferred none)) hBr.size (fun k e=>by cases e;omega)).fr}
    | cons a c3=>{
    obtain⟨hs1,hu1⟩:=sU HS.out.2.rep hi0 (HS.out.2.nd HRep.out.2.1);change aT τ i=_ at hs1;change (τ i).up=_ at hu1;have hpN:a.p<N:=hu1▸(HS.out.2.inR i hiN).2.2.1;have hp2:(a.p:Int)<N:=by omega
    have hp0:a.p≠0:=(eQ.1 HS.out.2.rep).2.1.1;have a2:=hLr.nodes.c2 i hiN;rw[hu1]at a2;have S1:=qA (pD hLr i hiN HS.out.2.inR);rw[hs1]at S1;have S2:=qA (pD hLr a.p hpN HS.out.2.inR);clear hs1 hu1;cases c3 with
    | nil=>{
    have hsd:(aT τ a.p).2=false:=(aDY HS.out.2.rep hi0 (HS.out.2.nd HRep.out.2.1) (HS.out.2.out HRep.out.2.2)).2 a.p rfl;rw[hsd]at S2;have HZ:=qA (HS.out.2.zig HRep.out.2.1 HRep.out.2.2 hiN);clear hsd;go_wp2_with fail
    refine S1.out.mono ?_;rintro _ wx ⟨rfl,rfl⟩;go_wp2_with fail
    refine S2.out.mono ?_;rintro _ wx ⟨rfl,rfl⟩;go_wp2_with fail
    refine(kT hLr i hiN HS.out.2.inR HZ.out.1.1 HZ.out.1.2.1 HZ.out.1.2.2.1 HZ.out.1.2.2.2).mono ?_;rintro _ wy ⟨rfl,hLy,hFy⟩;go_wp2
    obtain⟨hz,l3,r3,hS3⟩:=HZ.out;go_roundg 1
    case measure=>have:=HS.out.1;simp at this;omega
    case rel=>exact⟨_,[],l3,r3,qA ⟨by simp,hS3⟩,hLy,hBr.trans (Bx.of_fr hFy hBr.size),hFy.cell hbr (by simpa using hwg),(hFy.keep D (qM.1 hKr).1 (by simpa using hDg)).trans hKr⟩}
    | cons b c4=>{
    obtain⟨hs1,_⟩:=sU (c:=c4) (a:=b) (t:=a.fill (.node false l2 i r2)) HS.out.2.rep (by rw[iW];exact hp0) (HS.out.2.nd HRep.out.2.1);rw[iW]at hs1;rw[hs1]at S2;clear hs1;by_cases hab:a.s=b.s
    {
    have hb:((sd a.s:Int) == (sd b.s:Int))=true:=by rw[hab];exact beq_self_eq_true _
    obtain⟨z1,a', z2⟩:=HS.out.2.zigp hab HRep.out.2.1 HRep.out.2.2 hpN;obtain⟨z3,z4⟩:=z2.zig HRep.out.2.1 HRep.out.2.2 hiN;have HZ1:=qA z1;clear z1;have HZ2:=qA z2;clear z2;have HZ3:=qA z3;clear z3;have HZ4:=qA z4;clear z4;clear hab;go_wp2_with fail
    refine S1.out.mono ?_;rintro _ wx ⟨rfl,rfl⟩;go_wp2_with fail
    refine S2.out.mono ?_;rintro _ wx ⟨rfl,rfl⟩;go_wp2_with fail
    refine(kT hLr a.p hpN HS.out.2.inR HZ1.out.1 HZ1.out.2.1 HZ1.out.2.2.1 HZ1.out.2.2.2).mono ?_;rintro _ wy ⟨rfl,hLy,hFy⟩;have hby:=hFy.cell hbr (by simpa using hwg);go_wp2_with fail
    refine(kT hLy i hiN HZ2.out.inR HZ3.out.1 HZ3.out.2.1 HZ3.out.2.2.1 HZ3.out.2.2.2).mono ?_;rintro _ wz ⟨rfl,hLz,hFz⟩;go_wp2
    obtain⟨l3,r3,hS3⟩:=HZ4.out;go_roundg (c4.length+1)
    case measure=>have:=HS.out.1;simp at this;omega
    case rel=>
     have hF2:=hFy.then hFz;exact⟨_,c4,l3,r3,qA ⟨by simp,hS3⟩,hLz,hBr.trans (Bx.of_fr hF2 hBr.size),hF2.cell hbr (by simpa using hwg),(hF2.keep D (qM.1 hKr).1 (by simpa using hDg)).trans hKr⟩}
    {
    have hb:((sd a.s:Int) == (sd b.s:Int))=false:=by cases h1:a.s<;>cases h2:b.s<;>simp_all [sd]
    obtain⟨z1,l5,r5,z2⟩:=HS.out.2.zig HRep.out.2.1 HRep.out.2.2 hiN;obtain⟨z3,z4⟩:=z2.zig HRep.out.2.1 HRep.out.2.2 hiN;have HZ1:=qA z1;clear z1;have HZ2:=qA z2;clear z2;have HZ3:=qA z3;clear z3;have HZ4:=qA z4;clear z4;clear hab;go_wp2_with fail
    refine S1.out.mono ?_;rintro _ wx ⟨rfl,rfl⟩;go_wp2_with fail
    refine S2.out.mono ?_;rintro _ wx ⟨rfl,rfl⟩;go_wp2_with fail
    refine(kT hLr i hiN HS.out.2.inR HZ1.out.1 HZ1.out.2.1 HZ1.out.2.2.1 HZ1.out.2.2.2).mono ?_;rintro _ wy ⟨rfl,hLy,hFy⟩;have hby:=hFy.cell hbr (by simpa using hwg);go_wp2_with fail
    refine(kT hLy i hiN HZ2.out.inR HZ3.out.1 HZ3.out.2.1 HZ3.out.2.2.1 HZ3.out.2.2.2).mono ?_;rintro _ wz ⟨rfl,hLz,hFz⟩;go_wp2
    obtain⟨l3,r3,hS3⟩:=HZ4.out;go_roundg (c4.length+1)
    case measure=>have:=HS.out.1;simp at this;omega
    case rel=>
     have hF2:=hFy.then hFz;exact⟨_,c4,l3,r3,qA ⟨by simp,hS3⟩,hLz,hBr.trans (Bx.of_fr hF2 hBr.size),hF2.cell hbr (by simpa using hwg),(hF2.keep D (qM.1 hKr).1 (by simpa using hDg)).trans hKr⟩}}}}
  | true=>{
  obtain⟨y,hy1,hy2,hy3⟩:=Hn.out.1 rfl;have a2:=hL3.nodes.c2 x hxN;rw[hy2]at a2;have d1:=hL3.hd.cell 1;simp only[zJ,zK]at d1;have hx2:(x:Int)<N:=by omega
  go_wp2
  go_roundw
  case rel=>exact⟨k+1,y,hy3,qA hy1,rfl,hown3,hB3,fun q e=>by cases e;exact hq3⟩
  case measure=>simp[aPR];omega}
end Go.Proofs.YtjdgpcjbgjnahaaGreatDoor
namespace Go.Proofs.YtjdgpcjbgjnahaaGreatDoor
open Go.RowKit
theorem aEC{w:World}{pf g N cap:Nat}{σ:Tbl}{ed:Int}(h:aE w pf g N cap σ ed){par d rt:Nat->Nat}{t:BT}{u:Nat}{R:Fst}(hF:LF N σ ((t,u)::R) par d rt)(i:Nat)(hi:i∈t.nodes):
    Calls Tryz.prog 205 #[.pointer (some ⟨pf,0,none⟩),.int .i64 i] w fun e w' =>e=.returned (.tuple #[]) /\
      ∃σ' l' r', aE w' pf g N cap σ' ed/\Rep σ' (.node false l' i r') u/\(BT.node false l' i r').seq=t.seq/\(BT.node false l' i r').nodes.Perm t.nodes/\cE σ σ' t.nodes/\InR N σ' /\ Fr [g] w w' :=by
 obtain⟨c,f,l,r,rfl⟩:=aCA hi;have hnd:=hF.nd;rw[aP,qN]at hnd;exact aNH h i hF.inR c f l r u (hF.rep (aQ c (.node f l i r),u) (by simp)) hnd.1 hF.outs (fun x hx=>(hF.lt (p:=(aQ c (.node f l i r),u)) (by simp) hx).2)
theorem sY{w:World}{pf g N cap:Nat}{σ:Tbl}{ed:Int}(h:aE w pf g N cap σ ed){par d rt:Nat->Nat}{F:Fst}(hF:LF N σ F par d rt)(i:Nat)(hi0:0<i)(hi:i<N):
    Calls Tryz.prog 169 #[.pointer (some ⟨pf,0,none⟩),.int .i64 i] w fun e w' =>∃m τ l R,e=.returned (.int .i64 (m:Nat))/\aE w' pf g N cap τ ed/\xD N σ F par d rt i m τ l R/\Fr [g] w w' :=by
 have hN:=h.le;have HX:=qA (XI.start hF hi hi0);clear hF;go_enter Tryz.func169,Tryz.ntmps169
 go_wp2
 go_loopg [5,6] (d i+1) (fun k a b wr=>∃(τ:Tbl) (B:BT) (j:Nat) (R:Fst),a=.int .i64 B.root/\b=.int .i64 j/\aE wr pf g N cap τ ed/\Fr [g] w wr/\Hid (XI N σ F par d rt i τ B j R)/\(j≠0->d j<k))
 case atStart=>exact⟨σ,.nil,i,F,rfl,rfl,h,Fr.refl _ _,HX,fun _=>Nat.lt_succ_self _⟩
 case round=>
  clear h HX;obtain⟨τ,B,j,R,rfl,rfl,hL,hFr,HX,hk⟩:=hrel;by_cases hj:j=0
  {
  subst hj;obtain⟨hiB,_⟩:=HX.out.done (by omega);go_wp2_with fail
  refine(aEC hL HX.out.lf i hiB).mono ?_;rintro _ w2 ⟨rfl,τ2,l2,r2,hL2,q1,q2,q3,q4,q5,hF2⟩;have HE:=qA (HX.out.exposed (by omega) q1 q2 q3 q4);clear q1 q2 q3 q4 q5;go_wp2
  go_ret;exact⟨B.root,τ2,l2,R,rfl,hL2,HE.out,hFr.then hF2⟩}
  {
  obtain⟨t,u,R2,hR2,hjt⟩:=HX.out.split hj;have HR2:=qA hR2;clear hR2;have hb0:((j:Int) == 0)=false:=qR.2 (by omega);have hjN:j<N:=HX.out.lf.up (B,j) (by simp);have hj2:(j:Int)<N:=by omega
  have hbN:B.root<N:=by {
  by_cases e:B.root=0
  · rw[e];omega
  · exact(HX.out.lf.lt (p:=(B,j)) (by simp) (BT.root_mem e)).2};have hb2:(B.root:Int)<N:=by omega
  have Hk:=qA hk;clear hk;have Hj:=qA hj;clear hj;go_wp2_with fail
  refine(aEC hL (HX.out.lf2 HR2.out) j hjt).mono ?_;rintro _ w2 ⟨rfl,τ2,l2,r2,hL2,q1,q2,q3,q4,q5,hF2⟩;have HE:=qA (HX.out.next Hj.out HR2.out hjt q1 q2 q3 q4);have HI:=qA q5;have hk1:=(q5 j hjN).2.1;have hk1' :((τ2 j).k1:Int)<N:=by omega
  clear q1 q2 q3 q4 q5;have a7:=hL2.nodes.c7 j hjN;have a1:=hL2.nodes.c1 j hjN;have a8:=hL2.nodes.c8 (τ2 j).k1 hk1;have b8:=hL2.nodes.c8 B.root hbN;have d1:=hL2.hd.cell 1;simp only[zJ,zK]at d1;have hfz:=hL2.nodes.frozen;generalize hbr:B.root=br at *;have Hbr:=qA hbr;clear hbr;go_wp2
  refine bS 28 (fun w' =>aE w' pf g N cap (aIK τ2 j br) ed/\Fr [g] w2 w') (by kernel_rfl) (by kernel_rfl) (by kernel_rfl) ?_;iterate 28 (refine cK (by decide) (fun K hK=>?_);go_simp;refine hK _ ?_;clear hK K)
  refine bL rfl undef (fun w' hw' =>?_) ?_
  {
  obtain⟨nq,rfl⟩:=hw';go_simp;rw[aID,aID];exact(hL2.eqv (Eqv.drewN w2 nq)).st7 ((Fr.refl [g] w2).drewN nq) hjN _};refine cL ?_;rintro w3 ⟨hL3,hF3⟩;clear a7 a1 a8 b8 d1 hfz;have hk3:=hL3.nodes.c1 j hjN;have hfz3:=hL3.nodes.frozen;obtain⟨hL4,hF4⟩:=hL3.st1 (Fr.refl [g] w3) hjN br;have HL4:=qA (show aE (w3.setCell ⟨g,j*9+1,none⟩ (.int .i64 br)) pf g N cap (mG τ2 j br) ed from hL4);clear hL4;go_wp2_with fail
  refine(dU HL4.out j hjN HE.out.2.1.2.2.2 HE.out.2.1.2.1 HE.out.2.1.2.2.1).mono ?_;rintro _ w5 ⟨rfl,hL5,hF5⟩;change aE w5 pf g N cap (xstep τ2 j br) ed at hL5;have e2:=hL5.nodes.c2 j hjN;rw[HE.out.2.2.2]at e2;have d5:=hL5.hd.cell 1;simp only[zJ,zK]at d5;clear hfz3 hk3 HL4;go_wp2
  go_roundg (if u=0 then 0 else d u+1)
  case measure=>
   have:=Hk.out Hj.out;by_cases e:u=0
   · rw[qD e];omega
   · rw[qC e];have:=HE.out.2.2.1 e;omega
  case rel=>refine⟨_,_,u,_,rfl,rfl,hL5,hFr.then (hF2.then (hF3.then (hF4.then hF5))),qA HE.out.1,fun e=>by rw[qC e];exact Nat.lt_succ_self _⟩}
theorem aIX{w:World}{pf g N cap:Nat}{σ:Tbl}{ed:Int}(h:aE w pf g N cap σ ed){par d rt:Nat->Nat}{F:Fst}(hF:LF N σ F par d rt)(i:Nat)(hi0:0<i)(hi:i<N):
    Calls Tryz.prog 224 #[.pointer (some ⟨pf,0,none⟩),.int .i64 i] w fun e w' =>e=.returned (.tuple #[])/\∃τ l R par' d' rt', aE w' pf g N cap τ ed/\LF N τ ((.node true l i .nil,0)::R) par' d' rt' /\ (∀x,(τ x).key=(σ x).key) /\
      (∀x y,Adj par' x y↔Adj par x y)/\(∀x y,rt' x=rt' y↔rt x=rt y)/\rt' i=i/\Fr [g] w w' :=by
 have hN:=h.le;have hi2:(i:Int)<N:=by omega
 go_enter Tryz.func224,Tryz.ntmps224
 go_wp2_with fail
 refine(sY h hF i hi0 hi).mono ?_;rintro _ w2 ⟨m,τ,l,R,rfl,hL2,hE,hF2⟩;obtain⟨par', d', rt', q1,q2,q3,q4,q5⟩:=hE.lf.lead;have HE:=qA hE.key;have Q:=qA (zI q1 (zI q2 (zI q3 q4)));clear q1 q2 q3 q4 q5 hE h hF;have d1:=hL2.hd.cell 1;simp only[zJ,zK]at d1;have a3:=hL2.nodes.c3 i hi;have hfz:=hL2.nodes.frozen;obtain⟨hL3,hF3⟩:=hL2.st3 hF2 hi true;go_wp2
 go_end0
 refine⟨rfl,_,l,R,par', d', rt', hL3,Q.out.1,fun x=>?_,Q.out.2.1,Q.out.2.2.1,Q.out.2.2.2,hF3⟩;rw[<-HE.out x];by_cases e:x=i
 · subst e;rw[aH]
 · rw[aF e]
structure pF (N:Nat) (σ:Tbl) (par rt:Nat->Nat) (i j:Nat) (τ:Tbl) (l:BT) (R:Fst) (par' d' rt' :Nat->Nat):Prop where
  lf:LF N τ ((.node false l j .nil,0)::R) par' d' rt'
  key:∀x,(τ x).key=(σ x).key
  adj:∀x y,Adj par' x y↔Adj par x y
  rts:∀x y,rt' x=rt' y↔rt x=rt y
  rti:rt' i=i
  path:rt i=rt j->bD (Adj par) i j (l.seq++[j])
theorem aQL{w:World}{pf g N cap:Nat}{σ:Tbl}{ed:Int}(h:aE w pf g N cap σ ed){par d rt:Nat->Nat}{F:Fst}(hF:LF N σ F par d rt)(i j:Nat)(hi0:0<i)(hi:i<N)(hj0:0<j)(hj:j<N):
    Calls Tryz.prog 202 #[.pointer (some ⟨pf,0,none⟩),.int .i64 i,.int .i64 j] w fun e w' =>e=.returned (.tuple #[])/\∃τ l R par' d' rt', aE w' pf g N cap τ ed/\pF N σ par rt i j τ l R par' d' rt' /\ Fr [g] w w' :=by
 go_enter Tryz.func202,Tryz.ntmps202
 go_wp2_with fail
 refine(aIX h hF i hi0 hi).mono ?_;rintro _ w2 ⟨rfl,τ,l,R,par', d', rt', hL2,hF', hkey,hadj,hrt,hri,hFr2⟩;have HF' :=qA hF'; clear hF';have Q:=qA (zI hkey (zI hadj (zI hrt hri)));clear hkey hadj hrt hri h hF;go_wp2_with fail
 refine(sY hL2 HF'.out j hj0 hj).mono ?_;rintro _ w3 ⟨m,τ3,l3,R3,rfl,hL3,hE,hFr3⟩;have HE:=qA hE;clear hE;go_wp2
 go_end0
 obtain⟨hkey,hadj,hrt,hri⟩:=Q.out;have hE:=HE.out;refine⟨rfl,τ3,l3,R3,par', d', rt', hL3,⟨hE.lf,fun x=>(hE.key x).trans (hkey x),hadj,hrt,hri,fun e=>?_⟩,hFr2.then hFr3⟩;obtain⟨hn,hz,hc⟩:=hE.lf.top_seq;have hjm:j∈l3.seq++[j]:=by simp
 have hl:(l3.seq++[j]).getLast? =some j:=vH _ _;generalize l3.seq++[j]=s at *;cases s with
 | nil=>cases hjm
 | cons y s=>{
 have hy:y=i:=by rw[<-dA hE.lf.rt0 hE.lf.rt1 hc hz j hjm,(hrt j i).2 e.symm,hri]
 subst hy;have:bD (Adj par') y j (y::s):=⟨s,rfl,aIO (hz y (by simp)) (fun x hx=>hz x (by simp[hx])) hc.2,hn,hl⟩;exact this.mono (fun x y=>(hadj x y).1)}
def LG(w:World)(pf g n:Nat)(E:Nat->Nat->Prop)(key:Nat->Int)(ed:Int):Prop:=
  ∃cap σ F par d rt,aE w pf g (n+1) cap σ ed/\LF (n+1) σ F par d rt/\(∀v u,E v u↔Adj par (v+1) (u+1))/\∀v,v<n->(σ (v+1)).key=key v
theorem LG.frs{w:World}{pf g n:Nat}{E:Nat->Nat->Prop}{key:Nat->Int}{ed:Int}(h:LG w pf g n E key ed):Frs E:=by
 obtain⟨cap,σ,F,par,d,rt,_,h2,h3,_⟩:=h;exact⟨par,d,rt,h2.rtd,h3⟩
theorem LG.lts{w:World}{pf g n:Nat}{E:Nat->Nat->Prop}{key:Nat->Int}{ed:Int}(h:LG w pf g n E key ed):pf<w.heap.size/\g<w.heap.size/\n<=65536:=by
 obtain⟨cap,σ,F,par,d,rt,h1,_⟩:=h;have:=h1.le;exact⟨h1.lts.1,h1.lts.2,by omega⟩
theorem LG.fr{w w' :World}{pf g n:Nat}{E:Nat->Nat->Prop}{key:Nat->Int}{ed:Int}{S:List Nat}(h:LG w pf g n E key ed)(hf:Fr S w w')(hp:pf∉S)(hg:g∉S):LG w' pf g n E key ed:=by
 obtain⟨cap,σ,F,par,d,rt,h1,h2⟩:=h;exact⟨cap,σ,F,par,d,rt,⟨hf.blk h1.hd hp,h1.nodes.same (hf.keep g h1.nodes.lt hg),h1.ne,h1.le,h1.cap⟩,h2⟩
@[go_sem] theorem eq_lct(a:Addr)(w:World):(binOp .eql 146 (.pointer (some a)) (.pointer (some a))).run Tryz.prog w=.ok (.bool true) w:=by
 obtain⟨j,hj⟩:=qV.1 (show(Tryz.prog.info? 253).isSome=true by kernel_rfl);exact run_eql_ptr_same w a Tryz.underlying146 hj
theorem aED{w:World}{pf:Nat}(hc:w.cell? ⟨pf,0,none⟩=some (.pointer (some ⟨pf,0,none⟩))):
    Calls Tryz.prog 162 #[.pointer (some ⟨pf,0,none⟩)] w fun e w' =>e=.returned (.bool true)/\w' =w:=by
 go_enter Tryz.func162,Tryz.ntmps162
 go_wp2
 go_ret;exact⟨rfl,rfl⟩
def inV(n:Nat)(v:Int):Bool:=decide (0<=v)&&decide (v<n)
theorem zR{w:World}{pf g n cap:Nat}{σ:Tbl}{ed:Int}(h:aE w pf g (n+1) cap σ ed)(v:Int):
    Calls Tryz.prog 204 #[.pointer (some ⟨pf,0,none⟩),.int .i64 v] w fun e w' =>e=.returned (.bool (inV n v))/\w' =w:=by
 have c0:=h.hd.cell 0;have c1:=h.hd.cell 1;have hN:=h.le;simp only[zJ,zK]at c0 c1;have hV:=qA (aED c0);by_cases h1:0<=v
 {
 by_cases h2:v<n
 {
 have e:inV n v=true:=by simp[inV,h1,h2]
 rw[e];clear e;go_enter Tryz.func204,Tryz.ntmps204
 go_wp2_with (go_at_call 162;refine hV.out.mono ?_;rintro e w' ⟨rfl,rfl⟩)
 go_ret;exact⟨rfl,rfl⟩}
 {
 have e:inV n v=false:=by simp[inV,h2]
 rw[e];clear e;have d2:decide (v<(n:Int))=false:=qF h2;go_enter Tryz.func204,Tryz.ntmps204
 go_wp2_with (go_at_call 162;refine hV.out.mono ?_;rintro e w' ⟨rfl,rfl⟩)
 go_ret;exact⟨rfl,rfl⟩}}
 {
 have e:inV n v=false:=by simp[inV,h1]
 rw[e];clear e;go_enter Tryz.func204,Tryz.ntmps204
 go_wp2_with (go_at_call 162;refine hV.out.mono ?_;rintro e w' ⟨rfl,rfl⟩)
 go_ret;exact⟨rfl,rfl⟩}
theorem dW{n:Nat}{v:Int}(h:inV n v=true):∃k:Nat,v=k/\k<n:=by
 simp only[inV,qX,decide_eq_true_eq]at h;exact⟨v.toNat,by omega,by omega⟩
def mP(n:Nat)(E:Nat->Nat->Prop)(a b:Int):Prop:=inV n a=true/\inV n b=true/\bJ E a.toNat b.toNat
theorem aQM{N:Nat}{σ:Tbl}{F:Fst}{par d rt:Nat->Nat}(h:LF N σ F par d rt){t:BT}{b:Nat}(hm:(t,0)∈F)(hb:t.root=b)(hb0:b≠0){a:Nat}(ha:0<a)(haN:a<N)(hne:a≠b)(hr:rt a=rt b):(σ a).up≠0:=by
 intro e0;obtain⟨p,hp,hap⟩:=bE.1 ((h.mem a).2 ⟨ha,haN⟩);have hk:=(h.rep p hp).kids hap;have hbt:b∈t.nodes:=hb▸BT.root_mem (by rw[hb];exact hb0);by_cases hpt:b∈p.1.nodes
 {
 -- the same tree: a is no root
 rcases hk.2.2.1 with e|e
 {
 obtain⟨R,hR⟩:=eB hm;have h' :=h.perm hR;have hp' :=hR.mem_iff.1 hp;rcases qB.1 hp' with e2|e2
 · rw[e2]at e;exact hne (e.trans hb)
 · exact h'.disj e2 b hbt hpt}
 · rw[e0]at e;have:=(h.lt hp e).1;omega}
 {
 rcases hk.2.2.1 with e|e
 {
 have hu:p.2=0:=(hk.2.2.2.1 e).symm.trans e0;have c1:=h.ch _ hm;have c2:=h.ch _ hp;rw[hu]at c2;have z1:=h.seq0 hm;have z2:=h.seq0 hp;have sx:=bW.2 hbt;have sy:=bW.2 hap;dsimp only at c1 z1
 cases hs1:t.seq with
 | nil=>rw[hs1]at sx;cases sx
 | cons x s1=>{
 cases hs2:p.1.seq with
 | nil=>rw[hs2]at sy;cases sy
 | cons y s2=>{
 have mx:x∈t.nodes:=bW.1 (by rw[hs1];simp);have my:y∈p.1.nodes:=bW.1 (by rw[hs2];simp);rw[hs1]at c1 z1 sx;rw[hs2]at c2 z2 sy;have ra:=dA h.rt0 h.rt1 c1 z1 b sx;have rb:=dA h.rt0 h.rt1 c2 z2 a sy;have hxy:x=y:=by rw[<-ra,<-hr,rb]
 obtain⟨R,hR⟩:=eB hm;have h' :=h.perm hR;rcases qB.1 (hR.mem_iff.1 hp) with e2|e2
 · rw[e2]at hpt;exact hpt hbt
 · exact h'.disj e2 x mx (hxy▸my)}}}
 · rw[e0]at e;have:=(h.lt hp e).1;omega}
theorem nY{w:World}{pf g n cap:Nat}{σ:Tbl}{ed:Int}(h:aE w pf g (n+1) cap σ ed){par d rt:Nat->Nat}{F:Fst}(hF:LF (n+1) σ F par d rt)(v:Nat)(hv:v<n):
    Calls Tryz.prog 169 #[.pointer (some ⟨pf,0,none⟩),.int .i64 ((v:Int)+1)] w fun e w' =>∃m τ l R,e=.returned (.int .i64 (m:Nat))/\aE w' pf g (n+1) cap τ ed/\xD (n+1) σ F par d rt (v+1) m τ l R/\Fr [g] w w' :=
  sY h hF (v+1) (by omega) (by omega)
theorem kY{w:World}{pf g n:Nat}{E:Nat->Nat->Prop}{key:Nat->Int}{ed:Int}(h:LG w pf g n E key ed)(a b:Int):
    Calls Tryz.prog 201 #[.pointer (some ⟨pf,0,none⟩),.int .i64 a,.int .i64 b] w fun e w' =>∃r:Bool,e=.returned (.bool r)/\(r=true↔mP n E a b)/\LG w' pf g n E key ed/\Fr [g] w w' :=by
 have H:=qA h;obtain⟨cap,σ,F,par,d,rt,hL,hF,hE,hk⟩:=h;have HF:=qA hF;clear hF;have HE:=qA hE;clear hE;have HK:=qA hk;clear hk;have hN:=hL.le;cases hva:inV n a with
 | false=>{
 have HR:=qA (show ¬mP n E a b from fun e=>by rw[e.1]at hva;cases hva);have A1:=zR hL a;rw[hva]at A1;have HA:=qA A1;clear A1 hva;go_enter Tryz.func201,Tryz.ntmps201
 go_wp2_with fail
 refine HA.out.mono ?_;rintro _ w ⟨rfl,rfl⟩;go_wp2
 go_ret;exact⟨false,rfl,by simp[HR.out],H.out,Fr.refl _ _⟩}
 | true=>{
 have A1:=zR hL a;rw[hva]at A1;have HA:=qA A1;clear A1;cases hvb:inV n b with
 | false=>{
 have HR:=qA (show ¬mP n E a b from fun e=>by rw[e.2.1]at hvb;cases hvb);have B1:=zR hL b;rw[hvb]at B1;have HB:=qA B1;clear B1 hva hvb;go_enter Tryz.func201,Tryz.ntmps201
 go_wp2_with fail
 refine HA.out.mono ?_;rintro _ w ⟨rfl,rfl⟩;go_wp2_with fail
 refine HB.out.mono ?_;rintro _ w ⟨rfl,rfl⟩;go_wp2
 go_ret;exact⟨false,rfl,by simp[HR.out],H.out,Fr.refl _ _⟩}
 | true=>{
 have B1:=zR hL b;rw[hvb]at B1;have HB:=qA B1;clear B1;obtain⟨v,rfl,hv⟩:=dW hva;obtain⟨u,rfl,hu⟩:=dW hvb;have HC:=qA (show mP n E v u↔bJ E v u from⟨fun e=>e.2.2,fun e=>⟨hva,hvb,e⟩⟩);clear hva hvb;by_cases hvu:v=u
 {
 subst hvu;go_enter Tryz.func201,Tryz.ntmps201
 go_wp2_with fail
 refine HA.out.mono ?_;rintro _ w ⟨rfl,rfl⟩;go_wp2_with fail
 refine HB.out.mono ?_;rintro _ w ⟨rfl,rfl⟩;go_wp2
 go_ret;refine⟨true,rfl,?_,H.out,Fr.refl _ _⟩;simp only[true_iff];exact HC.out.2 (bJ.refl E v)}
 {
 have hb:((v:Int) == (u:Int))=false:=qR.2 (by omega);have Hne:=qA hvu;clear hvu;go_enter Tryz.func201,Tryz.ntmps201
 go_wp2_with fail
 refine HA.out.mono ?_;rintro _ w ⟨rfl,rfl⟩;go_wp2_with fail
 refine HB.out.mono ?_;rintro _ w ⟨rfl,rfl⟩;go_wp2_with fail
 refine(nY hL HF.out v (by omega)).mono ?_;rintro _ w2 ⟨m1,τ1,l1,R1,rfl,hL1,hE1,hF1⟩;have HE1:=qA hE1;clear hE1;go_wp2_with fail
 refine(nY hL1 HE1.out.lf u (by omega)).mono ?_;rintro _ w3 ⟨m2,τ2,l2,R2,rfl,hL2,hE2,hF2⟩;have HE2:=qA hE2;clear hE2;have a2:=hL2.nodes.c2 (v+1) (by omega);have d1:=hL2.hd.cell 1;simp only[zJ,zK]at d1;have hv2:((v+1:Nat):Int)<((n+1:Nat):Int):=by omega
 have hres:((τ2 (v+1)).up≠0)↔bJ E v u:=by {
 rw[gD HF.out.rtd HE.out];constructor
 {
 intro e;apply qQ;intro hc;have h1:=HE2.out.frame (v+1) hc;rw[h1,(HE1.out.lf.rep _ (List.mem_cons_self)).1.2.1]at e;exact e rfl}
 {
 intro e;exact aQM HE2.out.lf (List.mem_cons_self) rfl (by simp[BT.root]) (by omega) (by omega) (by simp only[BT.root];have:=Hne.out;omega) e}};have Hres:=qA hres;clear hres;have hFr:Fr [g] w w3:=hF1.then hF2;have hLG:LG w3 pf g n E key ed:=⟨cap,τ2,_,par,d,rt,hL2,HE2.out.lf,HE.out,fun x hx=>by rw[HE2.out.key,HE1.out.key];exact HK.out x hx⟩;have HLG:=qA hLG;clear hLG;by_cases hup:(τ2 (v+1)).up=0
 {
 rw[hup]at a2;have Hup:=qA hup;clear hup;go_wp2
 go_ret;exact⟨false,rfl,by simp only[Bool.false_eq_true,false_iff];exact fun e=>Hres.out.2 (HC.out.1 e) Hup.out,HLG.out,hFr⟩}
 {
 have hb0:(((τ2 (v+1)).up:Int) != 0)=true:=bne_iff_ne.2 (by omega);have Hup:=qA hup;clear hup;go_wp2
 go_ret;exact⟨true,rfl,by simp only[true_iff];exact HC.out.2 (Hres.out.1 Hup.out),HLG.out,hFr⟩}}}}
theorem aCF{w:World}{pf g n cap:Nat}{σ:Tbl}{ed:Int}(h:aE w pf g (n+1) cap σ ed){par d rt:Nat->Nat}{F:Fst}(hF:LF (n+1) σ F par d rt)(v u:Nat)(hv:v<n)(hu:u<n):
    Calls Tryz.prog 202 #[.pointer (some ⟨pf,0,none⟩),.int .i64 ((v:Int)+1),.int .i64 ((u:Int)+1)] w fun e w' =>e=.returned (.tuple #[])/\∃τ l R par' d' rt', aE w' pf g (n+1) cap τ ed/\pF (n+1) σ par rt (v+1) (u+1) τ l R par' d' rt' /\ Fr [g] w w' :=
  aQL h hF (v+1) (u+1) (by omega) (by omega) (by omega) (by omega)
theorem pF.lg{w:World}{pf g n cap:Nat}{σ τ:Tbl}{E:Nat->Nat->Prop}{key:Nat->Int}{ed:Int}{par rt par' d' rt' :Nat->Nat}{i j:Nat}{l:BT}{R:Fst}(h:pF (n+1) σ par rt i j τ l R par' d' rt')(hL:aE w pf g (n+1) cap τ ed)
    (hE:∀v u,E v u↔Adj par (v+1) (u+1)) (hk:∀v,v<n->(σ (v+1)).key=key v):LG w pf g n E key ed:=
  ⟨cap,τ,_,par', d', rt', hL,h.lf,fun v u=>(hE v u).trans (h.adj _ _).symm,fun v hv=>by rw[h.key];exact hk v hv⟩
theorem pF.at{n:Nat}{σ τ:Tbl}{E:Nat->Nat->Prop}{par rt par' d' rt' :Nat->Nat}{v u:Nat}{l:BT}{R:Fst}(h:pF (n+1) σ par rt (v+1) (u+1) τ l R par' d' rt')
    (hE:∀v u,E v u↔Adj par (v+1) (u+1)) (hr:rt (v+1)=rt (u+1)):∃p,bD E v u p/\p.map (· + 1)=l.seq++[u+1]/\(∀x∈p,x<n):=by
 obtain⟨h1,h2⟩:=nW hE (h.path hr);refine⟨_,h1,h2,fun x hx=>?_⟩;have:x+1∈l.seq++[u+1]:=by rw[<-h2];exact qW.2 ⟨x,hx,rfl⟩
 have hm:x+1∈(BT.node false l (u+1) .nil).nodes:=by rw[<-bW];simpa[BT.seq] using this
 have:=(h.lf.lt (List.mem_cons_self) hm).2;omega
def LM(w:World)(pf g n:Nat)(E:Nat->Nat->Prop)(key:Nat->Int):Prop:=LG w pf g n E key ((n:Int)-nc n E)
theorem aQN{w:World}{pf g n:Nat}{E:Nat->Nat->Prop}{key:Nat->Int}{ed:Int}(h:LG w pf g n E key ed)(a b:Int):
    Calls Tryz.prog 221 #[.pointer (some ⟨pf,0,none⟩),.int .i64 a,.int .i64 b] w fun e w' =>∃x:Int,e=.returned (.int .i64 x)/\((¬mP n E a b/\x=-1)∨∃(v u:Nat) (p:List Nat),a=v/\b=u/\v<n/\u<n/\bD E v u p/\x=(p.length:Int)-1)/\LG w' pf g n E key ed/\Fr [g] w w' :=by
 go_enter Tryz.func221,Tryz.ntmps221
 go_wp2_with fail
 refine(kY h a b).mono ?_;rintro _ w2 ⟨r,rfl,hr,h2,hF2⟩;have HR:=qA hr;clear hr;cases r with
 | false=>{
 have H2:=qA h2;clear h2 h;go_wp2
 go_ret;exact⟨-1,rfl,.inl ⟨fun e=>(by have:=HR.out.2 e;cases this),rfl⟩,H2.out,hF2⟩}
 | true=>{
 obtain⟨va,vb,hc⟩:=HR.out.1 rfl;obtain⟨v,rfl,hv⟩:=dW va;obtain⟨u,rfl,hu⟩:=dW vb;clear va vb HR h;obtain⟨cap,σ,F,par,d,rt,hL,hF,hE,hk⟩:=h2;have hrt:=(gD hF.rtd hE).1 hc;have HF:=qA hF;clear hF;have HE:=qA hE;clear hE;have HK:=qA hk;clear hk;have hN:=hL.le;go_wp2_with fail
 refine(aCF hL HF.out v u hv hu).mono ?_;rintro _ w3 ⟨rfl,τ,l,R,par', d', rt', hL3,hP,hF3⟩;obtain⟨p,hp1,hp2,hp3⟩:=hP.at HE.out hrt;have hpl:(τ (u+1)).size=(p.length:Int)/\p.length<=n/\0<p.length:=by {
 have h1:=(hP.lf.rep _ (List.mem_cons_self)).2.2.2.1;have h2:(BT.node false l (u+1) .nil).nodes.length=p.length:=by {
 rw[<-(BT.seq_perm _).length_eq];have:=congrArg List.length hp2;simpa[BT.seq] using this.symm};have h3:=zQ hp1.nd hp3;have h4:0<p.length:=List.length_pos_iff.2 hp1.ne;refine⟨?_,h3,h4⟩;rw[h1,h2];unfold wrap64;omega};obtain⟨q1,q2,q3⟩:=hpl;have a5:=hL3.nodes.c5 (u+1) (by omega);rw[q1]at a5;have HP:=qA hP;clear hP;have Hp:=qA hp1;clear hp1 hp2 hp3 q1;have d1:=hL3.hd.cell 1;simp only[zJ,zK]at d1;have hu2:((u+1:Nat):Int)<((n+1:Nat):Int):=by omega
 go_wp2
 go_ret;exact⟨_,rfl,.inr ⟨v,u,p,rfl,rfl,hv,hu,Hp.out,rfl⟩,HP.out.lg hL3 HE.out HK.out,hF2.then hF3⟩}
def rO(key:Nat->Int)(p:List Nat)(m:Nat):Prop:=m∈p/\∀x∈p,x≠m->key m<key x∨(key m=key x/\m<x)
theorem aTE{w:World}{pf g n:Nat}{E:Nat->Nat->Prop}{key:Nat->Int}{ed:Int}(h:LG w pf g n E key ed)(a b:Int):Calls Tryz.prog 166 #[.pointer (some ⟨pf,0,none⟩),.int .i64 a,.int .i64 b] w fun e w' =>((¬mP n E a b/\e=.returned (.tuple #[.int .i64 0,.bool false]))∨∃(v u:Nat) (p:List Nat) (m:Nat),a=v/\b=u/\v<n/\u<n/\bD E v u p/\(∀x∈p,x<n)/\rO key p m/\e=.returned (.tuple #[.int .i64 m,.bool true]))/\LG w' pf g n E key ed/\Fr [g] w w' :=by
 go_enter Tryz.func166,Tryz.ntmps166
 go_wp2_with fail
 refine(kY h a b).mono ?_;rintro _ w2 ⟨r,rfl,hr,h2,hF2⟩;have HR:=qA hr;clear hr;cases r with
 | false=>{
 have H2:=qA h2;clear h2 h;go_wp2
 go_ret2;exact⟨.inl ⟨fun e=>(by have:=HR.out.2 e;cases this),rfl⟩,H2.out,hF2⟩}
 | true=>{
 obtain⟨va,vb,hc⟩:=HR.out.1 rfl;obtain⟨v,rfl,hv⟩:=dW va;obtain⟨u,rfl,hu⟩:=dW vb;clear va vb HR h;obtain⟨cap,σ,F,par,d,rt,hL,hF,hE,hk⟩:=h2;have hrt:=(gD hF.rtd hE).1 hc;have HF:=qA hF;clear hF;have HE:=qA hE;clear hE;have HK:=qA hk;clear hk;have hN:=hL.le;go_wp2_with fail
 refine(aCF hL HF.out v u hv hu).mono ?_;rintro _ w3 ⟨rfl,τ,l,R,par', d', rt', hL3,hP,hF3⟩;obtain⟨p,hp1,hp2,hp3⟩:=hP.at HE.out hrt;have hbest:∃m,(τ (u+1)).first=m+1/\m<n/\rO key p m:=by {
 have h1:=(hP.lf.rep _ (List.mem_cons_self)).2.2.2.2.2;have hmem:∀x,x∈(BT.node false l (u+1) .nil).nodes↔x∈p.map (· + 1):=by intro x;rw[<-bW,hp2];simp[BT.seq]
 have hkey:∀x,x<n->(τ (x+1)).key=key x:=fun x hx=>by rw[hP.key];exact HK.out x hx
 obtain⟨m,hm,e⟩:=qW.1 ((hmem _).1 h1.1);refine⟨m,e.symm,hp3 m hm,hm,fun x hx hne=>?_⟩;have:=h1.2 (x+1) ((hmem _).2 (qW.2 ⟨x,hx,rfl⟩)) (by rw[<-e];omega);rw[<-e]at this;unfold bC at this;rw[hkey m (hp3 m hm),hkey x (hp3 x hx)]at this;simp only[Bool.or_eq_true,qX,decide_eq_true_eq]at this;omega};obtain⟨m,q1,q2,q3⟩:=hbest;have a6:=hL3.nodes.c6 (u+1) (by omega);rw[q1]at a6;have HP:=qA hP;clear hP;have Hp:=qA (zI hp1 (zI hp3 q3));clear hp1 hp2 hp3 q1 q3;have d1:=hL3.hd.cell 1;simp only[zJ,zK]at d1;have hu2:((u+1:Nat):Int)<((n+1:Nat):Int):=by omega
 have hw1:((m+1:Nat):Int)-1=m:=by omega
 go_wp2
 go_ret2;exact⟨.inr ⟨v,u,p,m,rfl,rfl,hv,hu,Hp.out.1,Hp.out.2.1,Hp.out.2.2,rfl⟩,HP.out.lg hL3 HE.out HK.out,hF2.then hF3⟩}
end Go.Proofs.YtjdgpcjbgjnahaaGreatDoor
namespace Go.Proofs.YtjdgpcjbgjnahaaGreatDoor
open Go.RowKit Classical
theorem xJ{w:World}{pf g n cap:Nat}{σ:Tbl}{ed:Int}(h:aE w pf g (n+1) cap σ ed)(b m:Nat)(f:Nat->Int)(hm:m<=100)(hb:∀k,k<m->w.cell? ⟨b,k,none⟩=some (.int .i64 (f k))):
    Calls Tryz.prog 168 #[.pointer (some ⟨pf,0,none⟩),.slice (some ⟨b,0,none⟩) m m] w fun e w' =>((e=.returned (.int .i64 0)/\∀k,k<m->inV n (f k)=true)∨(e=.returned (.int .i64 3)/\∃k,k<m/\inV n (f k)=false))/\w' =w:=by
 have c0:=h.hd.cell 0;simp only[zJ]at c0;have hV:=qA (aED c0);clear c0;have HB:=qA hb;clear hb;go_enter Tryz.func168,Tryz.ntmps168
 go_wp2_with fail
 refine hV.out.mono ?_;rintro _ w ⟨rfl,rfl⟩;go_wp2
 go_loopw [12] (fun x wr=>∃k:Nat,k<=m/\x=.int .i64 k/\wr=w/\∀j,j<k->inV n (f j)=true) (fun x _=>m-(intOf x).toNat)
 case atStart=>exact⟨0,qS _,rfl,rfl,fun j hj=>by omega⟩
 case round=>
  obtain⟨k,hk,rfl,rfl,hall⟩:=hrel;have Hall:=qA hall;clear hall;by_cases hlt:k<m
  {
  have hc:=HB.out k hlt;have hA:=zR h (f k);cases hv:inV n (f k) with
  | true=>{
  rw[hv]at hA;have HA:=qA hA;clear hA;have Hv:=qA hv;clear hv;go_wp2_with fail
  refine HA.out.mono ?_;rintro _ w0 ⟨rfl,rfl⟩;go_wp2
  exact⟨⟨k+1,by omega,by go_num,trivial,fun j hj=>by
    by_cases e:j=k
    · rw[e];exact Hv.out
    · exact Hall.out j (by omega)⟩,by simp[intOf];omega⟩}
  | false=>{
  rw[hv]at hA;have HA:=qA hA;clear hA;have Hv:=qA hv;clear hv;go_wp2_with fail
  refine HA.out.mono ?_;rintro _ w0 ⟨rfl,rfl⟩;go_wp2
  go_ret;exact⟨.inr ⟨rfl,k,hlt,Hv.out⟩,rfl⟩}}
  {
  go_wp2
  go_ret;exact⟨.inl ⟨rfl,fun j hj=>Hall.out j (by omega)⟩,rfl⟩}
theorem aQO{w:World}{pf g n cap:Nat}{σ:Tbl}{ed:Int}(h:aE w pf g (n+1) cap σ ed){par d rt:Nat->Nat}{F:Fst}(hF:LF (n+1) σ F par d rt)(v:Nat)(hv:v<n):
    Calls Tryz.prog 224 #[.pointer (some ⟨pf,0,none⟩),.int .i64 ((v:Int)+1)] w fun e w' =>e=.returned (.tuple #[])/\∃τ l R par' d' rt', aE w' pf g (n+1) cap τ ed/\LF (n+1) τ ((.node true l (v+1) .nil,0)::R) par' d' rt' /\ (∀x,(τ x).key=(σ x).key) /\
      (∀x y,Adj par' x y↔Adj par x y)/\(∀x y,rt' x=rt' y↔rt x=rt y)/\rt' (v+1)=v+1/\Fr [g] w w' :=aIX h hF (v+1) (by omega) (by omega)
theorem lU{w:World}{pf g n cap:Nat}{σ:Tbl}{ed:Int}(h:aE w pf g (n+1) cap σ ed)(v:Nat)(hv:v<n)(hR:InR (n+1) σ)(h0:(σ (v+1)).k0≠v+1)(h1:(σ (v+1)).k1≠v+1):
    Calls Tryz.prog 167 #[.pointer (some ⟨pf,0,none⟩),.int .i64 ((v:Int)+1)] w fun e w' =>e=.returned (.tuple #[])/\aE w' pf g (n+1) cap (refresh σ (v+1)) ed/\Fr [g] w w' :=dU h (v+1) (by omega) hR h0 h1
theorem aE.edges{w w0:World}{pf g N cap:Nat}{σ:Tbl}{ed:Int}(h:aE w pf g N cap σ ed)(hF:Fr [g] w0 w)(e:Int):
    aE (w.setCell ⟨pf,2,none⟩ (.int .i64 e)) pf g N cap σ e/\Fr [pf,g] w0 (w.setCell ⟨pf,2,none⟩ (.int .i64 e)):=by
 refine⟨⟨?_,h.nodes.same (Below.heap_setCell _ _ _ _ (fun e=>h.ne e.symm)),h.ne,h.le,h.cap⟩,(hF.mono (S' :=[pf,g]) (fun b hb=>.inl (by simp at hb;simp[hb]))).setCell _ _ (.inl (by simp))⟩;have:=h.hd.set 2 (.int .i64 e);simpa using this
noncomputable def dR(n:Nat)(E:Nat->Nat->Prop)(a b:Int):Int:=
  if inV n a=true/\inV n b=true then(if a=b then 9 else if bJ E a.toNat b.toNat then 6 else 0) else 3
noncomputable def kZ(n:Nat)(E:Nat->Nat->Prop)(a b:Int):Nat->Nat->Prop:=if dR n E a b=0 then dZ E a.toNat b.toNat else E
theorem aQP{w:World}{pf g n:Nat}{E:Nat->Nat->Prop}{key:Nat->Int}(h:LM w pf g n E key)(a b:Int):
    Calls Tryz.prog 214 #[.pointer (some ⟨pf,0,none⟩),.int .i64 a,.int .i64 b] w fun e w' =>e=.returned (.int .i64 (dR n E a b))/\LM w' pf g n (kZ n E a b) key/\Fr [pf,g] w w' :=by
  have H:=qA h;have hfrs:=qA (LG.frs h);obtain⟨hp1,hg1,hn1⟩:=LG.lts h;obtain⟨cap,σ,F,par,d,rt,hL,hF,hE,hk⟩:=h;clear hF hE hk;have hLa:aE (w.alloc (.cells #[.int .i64 a,.int .i64 b] 3)) pf g (n+1) cap σ ((n:Int)-nc n E):=hL.below ((Below.refl _ w).alloc (qK _) _) hp1 hg1;have hblk:=Blk.new w [.int .i64 a,.int .i64 b] 3;have hFa:Fr [] w (w.alloc (.cells #[.int .i64 a,.int .i64 b] 3)):=(Fr.refl _ _).alloc _;have HMa:=qA (LG.fr H.out hFa (by simp) (by simp));have hCk:=xJ hLa w.heap.size 2 (fun k=>if k=0 then a else b) (by decide) (fun k hk=>by
    rw[hblk.cell];rcases(show k=0∨k=1 by omega) with rfl|rfl<;>rfl)
  have HCk:=qA hCk;clear hCk hblk;clear hLa hL;go_enter Tryz.func214,Tryz.ntmps214
  go_wp2_with fail
  refine HCk.out.mono ?_;rintro _ w1 ⟨hcode,rfl⟩;clear HCk;generalize w.alloc (.cells #[.int .i64 a,.int .i64 b] 3)=w1 at *;rcases hcode with⟨rfl,hall⟩|⟨rfl,k,hk,hbad⟩
  · have va : inV n a = true := hall 0 (by decide)
    have vb:inV n b=true:=hall 1 (by decide);clear hall;by_cases hab:a=b
    · have hlc : dR n E a b = 9 := by unfold dR; rw [qD ⟨va, vb⟩, qD hab]
      have hle:kZ n E a b=E:=by unfold kZ;rw[hlc];simp
      have Hlc:=qA (zI hlc hle);clear hlc hle;have hb:(a == b)=true:=beq_iff_eq.2 hab;clear va vb hab;go_wp2
      go_ret;rw[Hlc.out.1,Hlc.out.2];exact⟨rfl,HMa.out,hFa.mono (by simp)⟩
    · have hb : (a == b) = false := qR.2 hab
      have HL0:=qA (zI va (zI vb hab));clear hab;go_wp2_with fail
      refine(kY HMa.out a b).mono ?_;rintro _ w2 ⟨r,rfl,hr,hM2,hF2⟩;cases r with
      | true=>
        obtain⟨_,_,hc⟩:=hr.1 rfl;have hlc:dR n E a b=6:=by unfold dR;rw[qD ⟨va,vb⟩,qC HL0.out.2.2,qD hc]
        have hle:kZ n E a b=E:=by unfold kZ;rw[hlc];simp
        have Hlc:=qA (zI hlc hle);clear hlc hle hr;have HM2:=qA hM2;clear hM2 va vb hc;go_wp2
        go_ret;rw[Hlc.out.1,Hlc.out.2];exact⟨rfl,HM2.out,(hFa.mono (S' :=[pf,g]) (by simp)).trans hF2 (fun q hq=>.inl (by simp at hq;simp[hq]))⟩
      | false=>
        have hnc:¬bJ E a.toNat b.toNat:=fun e=>by have:=hr.2 ⟨va,vb,e⟩;cases this
        have hlc:dR n E a b=0:=by unfold dR;rw[qD ⟨va,vb⟩,qC HL0.out.2.2,qC hnc]
        have hle:kZ n E a b=dZ E a.toNat b.toNat:=by unfold kZ;rw[hlc];simp
        have Hlc:=qA (zI hlc hle);clear hlc hle hr;obtain⟨v,rfl,hv⟩:=dW va;obtain⟨u,rfl,hu⟩:=dW vb;simp only[zD]at hnc Hlc;have HN:=qA hnc;clear va vb HL0;obtain⟨cap2,σ2,F2,par2,d2,rt2,hL2,hLF2,hE2,hk2⟩:=hM2;have hrt:rt2 (v+1)≠rt2 (u+1):=fun e=>hnc ((gD hLF2.rtd hE2).2 e);clear hnc;have HF2:=qA hLF2;clear hLF2;have HE2:=qA hE2;clear hE2;have HK2:=qA hk2;clear hk2;have HRt:=qA hrt;clear hrt;have hN:=hL2.le;go_wp2_with fail
        refine(aQO hL2 HF2.out v hv).mono ?_;rintro _ w3 ⟨rfl,τ3,l3,R3,par3,d3,rt3,hL3,hLF3,hk3,hadj3,hrt3,hri3,hF3⟩;have HF3:=qA hLF3;clear hLF3;have HQ3:=qA (zI hk3 (zI hadj3 (zI hrt3 hri3)));clear hk3 hadj3 hrt3 hri3;go_wp2_with fail
        refine(nY hL3 HF3.out u hu).mono ?_;rintro _ w4 ⟨m4,τ4,l4,R4,rfl,hL4,hE4,hF4⟩
        have key:(∃par' d' rt' F', LF (n+1) (refresh (fT τ4 (v+1) (u+1)) (u+1)) F' par' d' rt' /\ (∀x y,Adj par' x y↔Adj par2 x y∨(x=v+1/\y=u+1)∨(x=u+1/\y=v+1))) /\
            (∀x,(refresh (fT τ4 (v+1) (u+1)) (u+1) x).key=(σ2 x).key)/\(fT τ4 (v+1) (u+1) (u+1)).k0≠u+1/\(fT τ4 (v+1) (u+1) (u+1)).k1≠u+1/\InR (n+1) (fT τ4 (v+1) (u+1)):=by
          obtain⟨hk3,hadj3,hrt3,hri3⟩:=HQ3.out;have hne3:rt3 (v+1)≠rt3 (u+1):=fun e=>HRt.out ((hrt3 _ _).1 e);have hin:=hE4.trees _ (List.mem_cons_self) ⟨v+1,by simp[BT.nodes],hne3⟩;obtain⟨R5,hR5⟩:=eB hin;have hlf:=hE4.lf.perm ((List.Perm.cons _ hR5).trans (List.Perm.swap _ _ _));obtain⟨⟨par', d', rt', a1,a2⟩,a3,a4,a5,a6⟩:=hlf.link (a:=v+1) rfl (by omega) hri3 (fun e=>hne3 (by rw[hri3,e]));exact⟨⟨par', d', rt', _,a1,fun x y=>by rw[a2,hadj3]⟩,fun x=>by rw[a3,hE4.key,hk3],a4,a5,a6⟩
        have Key:=qA key;clear key hE4;have d4:=hL4.hd.cell 1;simp only[zJ,zK]at d4;have hfz4:=hL4.nodes.frozen;have a2:=hL4.nodes.c2 (v+1) (by omega);obtain⟨hL5,hF5⟩:=hL4.st2 (Fr.refl [g] w4) (i:=v+1) (by omega) (u+1);have hL5' :aE (w4.setCell ⟨g,(v+1)*9+2,none⟩ (.int .i64 ((u:Int)+1))) pf g (n+1) cap2 (zM τ4 (v+1) (u+1)) ((n:Int)-nc n E):=hL5;have hF5' :Fr [g] w4 (w4.setCell ⟨g,(v+1)*9+2,none⟩ (.int .i64 ((u:Int)+1))):=hF5;have HL5:=qA hL5'; clear hL5 hL5' hF5;have hv2:((v+1:Nat):Int)<((n+1:Nat):Int):=by omega
        have hu2:((u+1:Nat):Int)<((n+1:Nat):Int):=by omega
        go_wp2
        generalize w4.setCell ⟨g,(v+1)*9+2,none⟩ (.int .i64 ((u:Int)+1))=w5 at *;have hL5:=HL5.out;clear HL5 d4 hfz4 a2;have d5:=hL5.hd.cell 1;simp only[zJ,zK]at d5;have hfz5:=hL5.nodes.frozen;have b7:=hL5.nodes.c7 (u+1) (by omega);have b8:=hL5.nodes.c8 (v+1) (by omega);have hwu:IntKind.i64.wrap ((u:Int)+1)=(u:Int)+1:=zG _ (by omega);have hwv:IntKind.i64.wrap ((v:Int)+1)=(v:Int)+1:=zG _ (by omega);have htu:((u:Int)+1).toNat=u+1:=by omega
        have htv:((v:Int)+1).toNat=v+1:=by omega
        have hcu:0<=(u:Int)+1:=by omega
        have hcv:0<=(v:Int)+1:=by omega
        have hcu2:(u:Int)+1<(n:Int)+1:=by omega
        have hcv2:(v:Int)+1<(n:Int)+1:=by omega
        refine bS 21 (fun w' =>aE w' pf g (n+1) cap2 (fT τ4 (v+1) (u+1)) ((n:Int)-nc n E)/\Fr [g] w5 w') (by kernel_rfl) (by kernel_rfl) (by kernel_rfl) ?_;iterate 21 (refine cK (by decide) (fun K hK=>?_);go_simp;refine hK _ ?_;clear hK K)
        refine bL rfl undef (fun w' hw' =>?_) ?_
        · obtain ⟨nq, rfl⟩ := hw'
          go_simp;rw[aID];exact(hL5.eqv (Eqv.drewN w5 nq)).st7 ((Fr.refl [g] w5).drewN nq) (i:=u+1) (by omega) _
        refine cL ?_;rintro w6 ⟨hL6,hF6⟩;clear b7 b8 d5 hfz5;go_wp2_with fail
        refine(lU hL6 u hu Key.out.2.2.2.2 Key.out.2.2.1 Key.out.2.2.2.1).mono ?_;rintro _ w7 ⟨rfl,hL7,hF7⟩;have c7:=hL7.hd.cell 2;simp only[zJ,zK]at c7;have hfz7:=hL7.hd.frozen 2;obtain⟨par', d', rt', F', q1,q2⟩:=Key.out.1;have hAE:∀x y,dZ E v u x y↔Adj par' (x+1) (y+1):=by
          intro x y;rw[q2];unfold dZ;rw[HE2.out x y];simp only[Nat.add_right_cancel_iff]
        have hcnt:=aIQ (n:=n) hfrs.out ⟨par', d', rt', q1.rtd,hAE⟩ HN.out hv hu;have hnc1:=aIP n (dZ E v u);have hed:IntKind.i64.wrap ((n:Int)-nc n E+1)=(n:Int)-nc n (dZ E v u):=by
          rw[show(n:Int)-nc n E+1=(n:Int)-nc n (dZ E v u) by omega];exact zG _ (by omega)
        obtain⟨hL8,hF8⟩:=hL7.edges (hF2.then (hF3.then (hF4.then (hF5'.then (hF6.then hF7))))) ((n:Int)-nc n (dZ E v u));have Hfin:=qA (show LM _ pf g n (dZ E v u) key from⟨cap2,_,F', par', d', rt', hL8,q1,hAE,fun x hx=>by rw[Key.out.2.1];exact HK2.out x hx⟩);have hnq:nc n E=nc n (dZ E v u)+1:=hcnt.symm;rw[hnq]at c7;have hed2:(n:Int)-((nc n (dZ E v u)+1:Nat):Int)+1=(n:Int)-nc n (dZ E v u):=by omega
        clear hL8 q1 q2 hAE hcnt hnq hed Key;generalize nc n (dZ E v u)=z at *;go_wp2
        go_ret;rw[Hlc.out.1,Hlc.out.2];have e:(n:Int)-((z:Int)+1)+1=(n:Int)-z:=by omega
        rw[e];exact⟨rfl,Hfin.out,(hFa.mono (S' :=[pf,g]) (by simp)).trans hF8 (fun q hq=>.inl hq)⟩
  · have hlc:dR n E a b=3:=by
      unfold dR;rw[qC];rintro⟨h1,h2⟩;rcases(show k=0∨k=1 by omega) with rfl|rfl
      · have hbad:inV n a=false:=hbad;rw[h1]at hbad;cases hbad
      · have hbad:inV n b=false:=hbad;rw[h2]at hbad;cases hbad
    have hle:kZ n E a b=E:=by unfold kZ;rw[hlc];simp
    have Hlc:=qA (zI hlc hle);clear hlc hle hbad;go_wp2
    go_ret;rw[Hlc.out.1,Hlc.out.2];exact⟨rfl,HMa.out,hFa.mono (by simp)⟩
end Go.Proofs.YtjdgpcjbgjnahaaGreatDoor
namespace Go.Proofs.YtjdgpcjbgjnahaaGreatDoor
open Go.RowKit
theorem new_no(n:Int)(w:World)(h:n<0∨65536<n):
    Calls Tryz.prog 130 #[.int .i64 n] w fun e w' =>e=.returned (.tuple #[.pointer none,.int .i64 2])/\w' =w:=by
 rcases h with h|h
 {
 go_enter Tryz.func130,Tryz.ntmps130
 go_wp2
 go_ret2;exact⟨rfl,rfl⟩}
 {
 have h0:¬n<0:=by omega
 go_enter Tryz.func130,Tryz.ntmps130
 go_wp2
 go_ret2;exact⟨rfl,rfl⟩}
def nd0:Nd:={ k0:=0,k1:=0,up:=0,flip:=false,key:=0,size:=0,first:=0,light:=0,total:=0 }
def ndv:Value:=.agg #[.int .i64 0,.int .i64 0,.int .i64 0,.bool false,.int .i64 0,.int .i64 0,.int .i64 0,.int .i64 0,.int .i64 0]
theorem Tryz.info251:(Tryz.prog.info? 251).map (fun i=>(i.zero,i.size,i.bytes))=some (some ndv,9,72):=by kernel_rfl
theorem aFZ:ndv.cells=#[.int .i64 0,.int .i64 0,.int .i64 0,.bool false,.int .i64 0,.int .i64 0,.int .i64 0,.int .i64 0,.int .i64 0]:=by kernel_rfl
theorem aCG(N i f:Nat)(hi:i<N)(hf:f<9):(madeCells ndv.cells (N*9))[i*9+f]? =some (fv nd0 f):=by
 rw[aFZ];unfold madeCells;have hlt:i*9+f<N*9:=by omega
 have:(i*9+f)%9=f:=by omega
 simp only[Array.getElem?_map,Array.getElem?_range,hlt,if_true,Option.map_some];show some (_[(i*9+f)%9]!)=_
 rw[this];match f,hf with
 | 0,_=>rfl
 | 1,_=>rfl
 | 2,_=>rfl
 | 3,_=>rfl
 | 4,_=>rfl
 | 5,_=>rfl
 | 6,_=>rfl
 | 7,_=>rfl
 | 8,_=>rfl
def gX(m:Nat):Array Value:=madeCells ndv.cells (m*9)
theorem sZ(n:Nat)(w:World)(hn:n<=1048576):(Instr.makeSlice 247 (.int .i64 n) (.int .i64 n)).run Tryz.prog w=.ok (.slice (some ⟨w.heap.size,0,none⟩) n n) (w.alloc (.cells (gX n) 251)):=by
 obtain⟨i0,hi,hz0,hz1,hz2⟩:=info_parts Tryz.info251;have h:=run_make (P:=Tryz.prog) w 247 251 i0 ndv Tryz.underlying247 hi hz0 .i64 .i64 n n (by omega) (by omega) (by rw[hz2];omega) (by omega);rw[hz1]at h;simp only[zD]at h;exact h
def fI(k:Nat):Tbl:=fun i=>if 0<i/\i<=k then { nd0 with size:=1,first:=i,total:=1 } else nd0
theorem aGA(k:Nat):refresh (fI k) (k+1)=fI (k+1):=by
 have h0:(fI k (k+1)).k0=0/\(fI k (k+1)).k1=0/\fI k (k+1)=nd0:=by {
 have:fI k (k+1)=nd0:=by unfold fI;rw[qC (by omega)]
 rw[this];exact⟨rfl,rfl,rfl⟩};have e:refresh (fI k) (k+1)=dE (fI k) (k+1):=by {
 show aR (aR (dE (fI k) (k+1)) (k+1) (fI k (k+1)).k0) (k+1) (fI k (k+1)).k1=_
 rw[h0.1,h0.2.1];rfl};rw[e];funext i
 unfold dE;by_cases hi:i=k+1
 {
 subst hi;rw[aH,h0.2.2];unfold fI;rw[qD (by omega)];simp[nd0,wrap64]}
 {
 rw[aF hi];unfold fI;by_cases h1:0<i/\i<=k
 · rw[qD h1,qD (by omega)]
 · rw[qC h1,qC (by omega)]}
theorem aIY(k N:Nat)(_hk:k<N):InR N (fI k):=by
 intro i hi;unfold fI;split
 · exact⟨by show 0<N;omega,by show 0<N;omega,by show 0<N;omega,hi⟩
 · exact⟨by show 0<N;omega,by show 0<N;omega,by show 0<N;omega,by show 0<N;omega⟩
theorem aTF(n:Nat)(w:World)(h:n<=65536):
    Calls Tryz.prog 130 #[.int .i64 n] w fun e w' =>∃pf g,e=.returned (.tuple #[.pointer (some ⟨pf,0,none⟩),.int .i64 0])/\LM w' pf g n (fun _ _=>False) (fun _=>0)/\Fr [] w w' /\ w.heap.size<=pf/\w.heap.size<=g:=by
 have hmk:∀W:World,(Instr.makeSlice 247 (.int .i64 ((n:Int)+1)) (.int .i64 ((n:Int)+1))).run Tryz.prog W=.ok (.slice (some ⟨W.heap.size,0,none⟩) (n+1) (n+1)) (W.alloc (.cells (gX (n+1)) 251)):=fun W=>sZ (n+1) W (by omega);have h0:¬((n:Int)<0):=by omega
 have h1:¬(65536<(n:Int)):=by omega
 go_enter Tryz.func130,Tryz.ntmps130
 go_wp2
 obtain⟨W0,hW0⟩:∃W0,(w.alloc (.cells (gX (n+1)) 251)).alloc (.cells #[.pointer (some ⟨w.heap.size+1,0,none⟩),.slice (some ⟨w.heap.size,0,none⟩) (n+1) (n+1),.int .i64 0] 253)=W0:=⟨_,rfl⟩;have hL0:aE W0 (w.heap.size+1) w.heap.size (n+1) (n+1) (fI 0) 0:=by {
 subst hW0;refine⟨?_,?_,by omega,by omega,qK _⟩
 {
 have:=Blk.new (w.alloc (.cells (gX (n+1)) 251)) [.pointer (some ⟨w.heap.size+1,0,none⟩),.slice (some ⟨w.heap.size,0,none⟩) (n+1) (n+1),.int .i64 0] 253;rw[World.size_alloc]at this;exact this}
 {
 refine⟨gX (n+1),?_,by simp[gX,size_madeCells],fun i hi f hf=>?_⟩
 · exact(Below.heap_alloc _ _ _ (by simp)).trans (World.alloc_heap_new w _)
 {
 have:fI 0 i=nd0:=by unfold fI;rw[qC (by omega)]
 rw[this];exact aCG (n+1) i f hi hf}}};have hF0:Fr [] w W0:=by subst hW0;exact((Fr.refl _ _).alloc _).alloc _
 rw[hW0];clear hW0 hmk;go_loopw [22] (fun x wr=>∃k:Nat,k<=n/\x=.int .i64 k/\aE wr (w.heap.size+1) w.heap.size (n+1) (n+1) (fI k) 0/\Fr [] w wr) (fun x _=>n-(intOf x).toNat)
 case atStart=>exact⟨0,qS _,rfl,hL0,hF0⟩
 case round=>
  clear hL0 hF0;obtain⟨k,hk,rfl,hL,hF⟩:=hrel;by_cases hlt:k<n
  {
  have hz:fI k (k+1)=nd0:=by unfold fI;rw[qC (by omega)]
  have HQ:=qA (show(fI k (k+1)).k0≠k+1/\(fI k (k+1)).k1≠k+1 by rw[hz];simp[nd0]);clear hz;go_wp2_with fail
  refine(lU hL k hlt (aIY k (n+1) (by omega)) HQ.out.1 HQ.out.2).mono ?_;rintro _ w2 ⟨rfl,hL2,hF2⟩;rw[aGA]at hL2;go_wp2
  exact⟨⟨k+1,by omega,by go_num,hL2,hF.trans hF2 (fun b hb=>.inr (by simp at hb;omega))⟩,by simp[intOf];omega⟩}
  {
  obtain rfl:k=n:=by omega
  go_wp2
  go_ret2;have hv:∀x,0<x->x<k+1->fI k x={ nd0 with size:=1,first:=x,total:=1 }:=fun x h1 h2=>by unfold fI;rw[qD (by omega)]
  have h00:fI k 0=nd0:=by unfold fI;rw[qC (by omega)]
  have hlf:=LF.new k (fI k) (by rw[h00];simp[nd0]) (fun x h1 h2=>by rw[hv x h1 h2];simp[nd0]);refine⟨w.heap.size+1,w.heap.size,rfl,⟨k+1,fI k,_,_,_,_,?_,hlf,fun v u=>?_,fun v hv' =>?_⟩,hF,by omega,qK _⟩
  · rw[aNC];simpa using hL
  · simp[Adj]
  · rw[hv (v+1) (by omega) (by omega)];rfl}
end Go.Proofs.YtjdgpcjbgjnahaaGreatDoor
namespace Go.Proofs.YtjdgpcjbgjnahaaGreatDoor
open Go.RowKit Classical
noncomputable def xK(E:Nat->Nat->Prop)(a b:Nat):List Nat:=if h:bJ E a b then Classical.choose h else []
noncomputable def tA(n:Nat)(E:Nat->Nat->Prop)(a b:Int):Int:=if mP n E a b then((xK E a.toNat b.toNat).length:Int)-1 else -1
section
variable {E:Nat->Nat->Prop} {a b c:Nat}
theorem tB(h:Frs E){p:List Nat}(hp:bD E a b p):xK E a b=p:=by
 unfold xK;have hc:bJ E a b:=⟨p,hp⟩;rw[dif_pos hc];exact h.unique (Classical.choose_spec hc) hp
end
section
variable {w:World} {pf g n:Nat} {E:Nat->Nat->Prop} {key:Nat->Int} {ed:Int} (h:LG w pf g n E key ed)
include h
theorem aQQ(a b:Int):Calls Tryz.prog 221 #[.pointer (some ⟨pf,0,none⟩),.int .i64 a,.int .i64 b] w fun e w' =>e=.returned (.int .i64 (tA n E a b))/\LG w' pf g n E key ed/\Fr [g] w w' :=by
 have hf:=h.frs;refine(aQN h a b).mono ?_;rintro e w' ⟨x,rfl,hr,h2,h3⟩;refine⟨?_,h2,h3⟩;unfold tA;rcases hr with⟨hn,rfl⟩|⟨v,u,p,rfl,rfl,hv,hu,hp,rfl⟩
 · rw[qC hn]
 {
 have hc:mP n E v u:=⟨by simp[inV];omega,by simp[inV];omega,p,hp⟩;rw[qD hc,zD,zD,tB hf hp]}
end
theorem zS{n:Nat}{E:Nat->Nat->Prop}(h:Frs E){a b:Nat}(ha:a<n)(hb:b<n){p:List Nat}(hp:bD E a b p):tA n E a b=(p.length:Int)-1:=by
 unfold tA;rw[qD ⟨by simp[inV];omega,by simp[inV];omega,p,hp⟩,zD,zD,tB h hp]
theorem aNI{E:Nat->Nat->Prop}{a b:Nat}(h:bJ E a b)(hne:a≠b):∃x,E x b:=by
 obtain⟨p,l,rfl,hw,_,hl⟩:=h;rcases List.eq_nil_or_concat l with rfl|⟨S,x,rfl⟩
 · simp at hl;exact absurd hl hne
 {
 rw[List.concat_eq_append]at *;rw[<-zC,vH]at hl;cases hl;rcases List.eq_nil_or_concat S with rfl|⟨S', y,rfl⟩
 · exact⟨a,hw.1⟩
 {
 rw[List.concat_eq_append,List.append_assoc]at hw;exact⟨y,(aFX.1 hw).2.1⟩}}
theorem nZ{n:Nat}{E:Nat->Nat->Prop}{a b:Nat}(ha:a<n)(hb:b<n)(hne:a≠b)(hc:¬bJ E a b):dR n E a b=0:=by
 unfold dR;rw[qD ⟨by simp[inV];omega,by simp[inV];omega⟩,qC (by omega),zD,zD,qC hc]
theorem aGB{n:Nat}{E:Nat->Nat->Prop}{a b:Nat}(ha:a<n)(hb:b<n)(hne:a≠b)(hc:¬bJ E a b):kZ n E a b=dZ E a b:=by
 unfold kZ;rw[nZ ha hb hne hc];simp
theorem aNJ{w:World}{pf g n:Nat}{E:Nat->Nat->Prop}{key:Nat->Int}(h:LM w pf g n E key)(a b:Nat)(ha:a<n)(hb:b<n)(hne:a≠b)(hc:¬bJ E a b):
    Calls Tryz.prog 214 #[.pointer (some ⟨pf,0,none⟩),.int .i64 a,.int .i64 b] w fun e w' =>e=.returned (.int .i64 0)/\LM w' pf g n (dZ E a b) key/\Fr [pf,g] w w' :=by
 have:=aQP h a b;rw[nZ ha hb hne hc,aGB ha hb hne hc]at this;exact this
end Go.Proofs.YtjdgpcjbgjnahaaGreatDoor
