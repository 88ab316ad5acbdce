/- forest: the first slot of a path of the tree edges. -/
import Derived.Test.YtjdgpcjbgjnahaaGreatDoorE6
import Derived.RangeFuncNested
import Derived.RangeFuncBound
import Derived.RangeFuncCalls
import Derived.RangeFuncLeaves
import Derived.Shelf.Abstract
import Derived.Shelf.RegionOpen
import Derived.OwnWalkIn
import Derived.TacticsInMore
import Derived.LoopNIn
import Derived.LoopIn
import Derived.Test.YtjdgpcjbgjnahaaGreatDoorE1
import Derived.Deep.LoopGhost
set_option maxRecDepth 10000
set_option maxHeartbeats 800000
set_option linter.unusedSimpArgs false
set_option linter.unusedVariables false
/- forest: the plain law of a spanning forest whose edges expire as late as possible. -/
namespace Go.Proofs.YtjdgpcjbgjnahaaGreatDoor
open Classical
abbrev bX:=Nat->Option (Nat×Nat×Int)
def bS(G:bX)(s:Nat)(e:Option (Nat×Nat×Int)):bX:=fun t=>if t=s then e else G t
theorem bE(G:bX)(s:Nat)(e:Option (Nat×Nat×Int)):bS G s e s=e:=by simp[bS]
theorem aJ{G:bX}{s t:Nat}{e:Option (Nat×Nat×Int)}(h:t≠s):bS G s e t=G t:=by simp[bS,h]
inductive Cx (G:bX) (U:Nat->Prop):Nat->Nat->Prop
  | refl (a:Nat):Cx G U a a
  | step {a b c:Nat} (s:Nat) (x:Int):Cx G U a b->U s->(G s=some (b,c,x)∨G s=some (c,b,x))->Cx G U a c
section
variable {G G' :bX} {U U' :Nat->Prop} {a b c p q s m:Nat} {x y:Int}
theorem Cx.trans(h:Cx G U a b)(h' :Cx G U b c):Cx G U a c:=by
 induction h' with
 | refl=>exact h
 | step s x _ h1 h2 ih=>exact .step s x ih h1 h2
theorem Cx.edge(hs:U s)(h:G s=some (a,b,x)):Cx G U a b:=.step s x (.refl a) hs (.inl h)
theorem Cx.edge' (hs:U s)(h:G s=some (a,b,x)):Cx G U b a:=.step s x (.refl b) hs (.inr h)
theorem Cx.symm(h:Cx G U a b):Cx G U b a:=by
 induction h with
 | refl=>exact .refl _
 | step s x _ h1 h2 ih=>{
 rcases h2 with h2|h2
 · exact(Cx.edge' h1 h2).trans ih
 · exact(Cx.edge h1 h2).trans ih}
theorem Cx.bind(h:Cx G U a b)(hs:∀s c d x,U s->G s=some (c,d,x)->Cx G' U' c d):Cx G' U' a b:=by
 induction h with
 | refl=>exact .refl _
 | step s x _ h1 h2 ih=>{
 rcases h2 with h2|h2
 · exact ih.trans (hs _ _ _ _ h1 h2)
 · exact ih.trans (hs _ _ _ _ h1 h2).symm}
theorem Cx.mono(h:Cx G U a b)(hs:∀s e,U s->G s=some e->U' s):Cx G U' a b:=
  h.bind fun s _ _ _x h1 h2=>Cx.edge (hs s _ h1 h2) h2
theorem Cx.mono' (h:Cx G U a b)(hs:∀s e,U s->G s=some e->U' s/\G' s=some e):Cx G' U' a b:=
  h.bind fun s _ _ _x h1 h2=>Cx.edge (hs s _ h1 h2).1 (hs s _ h1 h2).2
theorem Cx.more(h:Cx G U p q)(hu:∀t,U t->U' t∨t=s)(hs:G s=some (a,b,x)):
    Cx G U' p q∨(Cx G U' p a/\Cx G U' b q)∨(Cx G U' p b/\Cx G U' a q):=by
 induction h with
 | refl=>exact .inl (.refl _)
 | @step c d t z _ h1 h2 ih=>{
 rcases hu t h1 with h1|rfl
 {
 have e:Cx G U' c d:=.step t z (.refl _) h1 h2;rcases ih with ih|⟨i1,i2⟩|⟨i1,i2⟩
 · exact .inl (ih.trans e)
 · exact .inr (.inl ⟨i1,i2.trans e⟩)
 · exact .inr (.inr ⟨i1,i2.trans e⟩)}
 {
 rw[hs]at h2;simp only[qI,zE]at h2;rcases h2 with⟨rfl,rfl,rfl⟩|⟨rfl,rfl,rfl⟩
 {
 rcases ih with ih|⟨i1,_⟩|⟨i1,_⟩
 · exact .inr (.inl ⟨ih,.refl _⟩)
 · exact .inr (.inl ⟨i1,.refl _⟩)
 · exact .inl i1}
 {
 rcases ih with ih|⟨i1,_⟩|⟨i1,_⟩
 · exact .inr (.inr ⟨ih,.refl _⟩)
 · exact .inl i1
 · exact .inr (.inr ⟨i1,.refl _⟩)}}}
def bef(x:Int)(s:Nat)(y:Int)(t:Nat):Prop:=x<y∨(x=y/\s<t)
def Aft(G:bX)(s:Nat)(x:Int)(t:Nat):Prop:=∃a b y,G t=some (a,b,y)/\bef x s y t
def aG(G:bX)(s:Nat):Prop:=∃a b x,G s=some (a,b,x)/\¬Cx G (Aft G s x) a b
theorem fL{z:Int}{t u:Nat}(h:bef x s y t)(h' :bef y t z u):bef x s z u:=by unfold bef at *;omega
theorem mS(x:Int)(s:Nat):¬bef x s x s:=by unfold bef;omega
theorem zP{t:Nat}(h:s≠t)(hn:¬bef x s y t):bef y t x s:=by unfold bef at *;omega
def Upw(G:bX)(U:Nat->Prop):Prop:=∀t a b x u,U t->G t=some (a,b,x)->Aft G t x u->U u
theorem aGR{S:Nat}{t u:Nat}{z:Int}{e f:Nat}(hS:∀s e,G s=some e->s<S)(hu:G u=some (e,f,z))(h:bef x t z u):
    ((List.range S).filter fun v=>decide (Aft G u z v)).length<((List.range S).filter fun v=>decide (Aft G t x v)).length:=by
 have key:∀l:List Nat,((l.filter fun v=>decide (Aft G u z v)).length<=(l.filter fun v=>decide (Aft G t x v)).length)/\(u∈l->(l.filter fun v=>decide (Aft G u z v)).length<(l.filter fun v=>decide (Aft G t x v)).length):=by {
 intro l;induction l with
 | nil=>exact⟨qK _,fun h=>by simp at h⟩
 | cons v l ih=>{
 have himp:Aft G u z v->Aft G t x v:=fun⟨a,b,y,h1,h2⟩=>⟨a,b,y,h1,fL h h2⟩;by_cases h1:Aft G u z v
 {
 have h2:=himp h1;refine⟨by simp[h1,h2,ih.1],fun hm=>?_⟩;have hne:u≠v:=by {
 rintro rfl;obtain⟨a,b,y,e1,e2⟩:=h1;rw[hu]at e1;simp only[qI,zE]at e1;rw[e1.2.2]at e2;exact mS _ _ e2};have hm' :u∈l:=by simpa[hne] using hm
 have:=ih.2 hm';simp[h1,h2];exact this}
 {
 by_cases h2:Aft G t x v
 {
 have:=ih.1;constructor
 · simp[h1,h2];omega
 · intro _;simp[h1,h2];omega}
 {
 refine⟨by simp[h1,h2,ih.1],fun hm=>?_⟩;have hne:u≠v:=by {
 rintro rfl;exact h2 ⟨e,f,z,hu,h⟩};have hm' :u∈l:=by simpa[hne] using hm
 have:=ih.2 hm';simp[h1,h2];exact this}}}};exact(key _).2 (List.mem_range.2 (hS _ _ hu))
theorem kru{S:Nat}(hS:∀s e,G s=some e->s<S)(hU:Upw G U)(h:Cx G U a b):Cx G (fun t=>U t/\aG G t) a b:=by
 have key:∀(k t:Nat) (c d:Nat) (z:Int),((List.range S).filter fun v=>decide (Aft G t z v)).length<=k->U t->G t=some (c,d,z)->Cx G (fun t=>U t/\aG G t) c d:=by {
 intro k;induction k with
 | zero=>{
 intro t c d z hk ht hg;by_cases hT:aG G t
 · exact Cx.edge ⟨ht,hT⟩ hg
 {
 have hc:Cx G (Aft G t z) c d:=qQ fun hc=>hT ⟨c,d,z,hg,hc⟩;refine hc.bind fun u e f w hu hgu=>?_;obtain⟨_,_,y,e1,e2⟩:=hu;rw[hgu]at e1;simp only[qI,zE]at e1;rw[<-e1.2.2]at e2;have:=aGR hS hgu e2;omega}}
 | succ k ih=>{
 intro t c d z hk ht hg;by_cases hT:aG G t
 · exact Cx.edge ⟨ht,hT⟩ hg
 {
 have hc:Cx G (Aft G t z) c d:=qQ fun hc=>hT ⟨c,d,z,hg,hc⟩;refine hc.bind fun u e f w hu hgu=>?_;have hUu:=hU t c d z u ht hg hu;obtain⟨_,_,y,e1,e2⟩:=hu;rw[hgu]at e1;simp only[qI,zE]at e1;rw[<-e1.2.2]at e2;have:=aGR hS hgu e2;exact ih u e f w (by omega) hUu hgu}}};exact h.bind fun t c d z h1 h2=>key _ t c d z (qK _) h1 h2
theorem aQL(G:bX):Upw G (fun _=>True):=fun _ _ _ _ _ _ _ _=>trivial
theorem aGS(G:bX)(s:Nat)(x:Int):Upw G (Aft G s x):=by
 rintro t a b y u ⟨a', b', y', h1,h2⟩ h3 ⟨c,d,z,h4,h5⟩;rw[h3]at h1;simp only[qI,zE]at h1;obtain⟨_,_,rfl⟩:=h1;exact⟨c,d,z,h4,fL h2 h5⟩
theorem aMM(hs:G s=some (a,b,x)):Upw G (fun t=>t=s∨Aft G s x t):=by
 rintro t c d y u (rfl|h1) h3 h4
 {
 rw[hs]at h3;simp only[qI,zE]at h3;obtain⟨_,_,rfl⟩:=h3;exact .inr h4}
 · exact .inr (aGS G s x t c d y u h1 h3 h4)
theorem tC{S:Nat}(hS:∀s e,G s=some e->s<S)(h:Cx G U a b):Cx G (aG G) a b:=
  (kru hS (aQL G) (h.mono (fun _ _ _ _=>trivial))).mono (fun _ _ h _=>h.2)
section
variable {S t:Nat} {d:Nat} {z:Int} (hS:∀s e,G s=some e->s<S) (h0:G s=none)
include h0
theorem aMN(h:Aft G t z q)(e:Option (Nat×Nat×Int)):Aft (bS G s e) t z q:=by
 obtain⟨a,b,y,h1,h2⟩:=h;have:q≠s:=by rintro rfl;rw[h0]at h1;cases h1
 exact⟨a,b,y,by rw[aJ this];exact h1,h2⟩
theorem zQ(h:Cx G (Aft G t z) p q)(e:Option (Nat×Nat×Int)):Cx (bS G s e) (Aft (bS G s e) t z) p q:=
  h.mono' fun u f h1 h2=>⟨aMN h0 h1 e,by rw[aJ (fun e1=>by rw[e1,h0]at h2;cases h2)];exact h2⟩
theorem aEU(h:Cx (bS G s (some (a,b,x))) (Aft (bS G s (some (a,b,x))) t z) p q)(hn:¬bef z t x s):Cx G (Aft G t z) p q:=by
 refine h.mono' fun u f h1 h2=>?_;obtain⟨c,d,y,h3,h4⟩:=h1;have hu:u≠s:=by {
 rintro rfl;rw[bE]at h3;simp only[qI,zE]at h3;exact hn (by rw[h3.2.2];exact h4)};rw[aJ hu]at h3 h2;exact⟨⟨c,d,y,h3,h4⟩,h2⟩
omit h0 in
theorem zR(h:Cx (bS G s (some (a,b,x))) (Aft (bS G s (some (a,b,x))) t z) p q):
    Cx G (Aft G t z) p q∨(Cx G (Aft G t z) p a/\Cx G (Aft G t z) b q)∨(Cx G (Aft G t z) p b/\Cx G (Aft G t z) a q):=by
 have h1:=h.more (U' :=fun u=>u≠s/\Aft (bS G s (some (a,b,x))) t z u) (s:=s) (fun u hu=>if e:u=s then .inr e else .inl ⟨e,hu⟩) (bE _ _ _);have back:∀{p q:Nat},Cx (bS G s (some (a,b,x))) (fun u=>u≠s/\Aft (bS G s (some (a,b,x))) t z u) p q->Cx G (Aft G t z) p q:=fun h=>h.mono' fun u f h1 h2=>by
   obtain⟨hu,c,d,y,h3,h4⟩:=h1;rw[aJ hu]at h3 h2;exact⟨⟨c,d,y,h3,h4⟩,h2⟩
 rcases h1 with h1|⟨h1,h2⟩|⟨h1,h2⟩
 · exact .inl (back h1)
 · exact .inr (.inl ⟨back h1,back h2⟩)
 · exact .inr (.inr ⟨back h1,back h2⟩)
theorem rN(ht:t≠s)(h:aG (bS G s (some (a,b,x))) t):aG G t:=by
 obtain⟨c,d,z,h1,h2⟩:=h;rw[aJ ht]at h1;exact⟨c,d,z,h1,fun h=>h2 (zQ h0 h _)⟩
include hS
theorem aQM(hn:¬Cx G (aG G) a b)(t:Nat):aG (bS G s (some (a,b,x))) t↔aG G t∨t=s:=by
 constructor
 {
 intro h;by_cases e:t=s
 · exact .inr e
 · exact .inl (rN h0 e h)}
 {
 rintro(h|rfl)
 {
 obtain⟨c,d,z,h1,h2⟩:=h;have e:t≠s:=by rintro rfl;rw[h0]at h1;cases h1
 refine⟨c,d,z,by rw[aJ e];exact h1,fun h=>?_⟩;have wk:∀{p q:Nat},Cx G (Aft G t z) p q->Cx G (fun _=>True) p q:=fun h=>h.mono (fun _ _ _ _=>trivial);have ed:Cx G (fun _=>True) c d:=Cx.edge (s:=t) trivial h1;rcases zR h with h|⟨h3,h4⟩|⟨h3,h4⟩
 · exact h2 h
 · exact hn (tC hS (((wk h3).symm.trans ed).trans (wk h4).symm))
 · exact hn (tC hS (((wk h4).trans ed.symm).trans (wk h3)))}
 · exact⟨a,b,x,bE _ _ _,fun h=>hn (tC hS (aEU h0 h (mS x t)))⟩}
omit hS in
theorem aMO(hc:Cx G (Aft G s x) a b)(t:Nat):aG (bS G s (some (a,b,x))) t↔aG G t:=by
 constructor
 {
 intro h;by_cases e:t=s
 {
 subst e;obtain⟨c,d,z,h1,h2⟩:=h;rw[bE]at h1;simp only[qI,zE]at h1;obtain⟨rfl,rfl,rfl⟩:=h1;exact absurd (zQ h0 hc _) h2}
 · exact rN h0 e h}
 {
 rintro⟨c,d,z,h1,h2⟩;have e:t≠s:=by rintro rfl;rw[h0]at h1;cases h1
 refine⟨c,d,z,by rw[aJ e];exact h1,fun h=>h2 ?_⟩;by_cases hb:bef z t x s
 {
 have hc' :Cx G (Aft G t z) a b:=hc.mono fun u f ⟨a', b', y,h3,h4⟩ _=>⟨a', b', y,h3,fL hb h4⟩;rcases zR h with h|⟨h3,h4⟩|⟨h3,h4⟩
 · exact h
 · exact(h3.trans hc').trans h4
 · exact(h3.trans hc'.symm).trans h4}
 · exact aEU h0 h hb}
theorem aMP{ma mb:Nat}(hm:G m=some (ma,mb,y))(hc:Cx G (fun t=>aG G t/\(t=m∨Aft G m y t)) a b)(hn:¬Cx G (fun t=>aG G t/\t≠m) a b)(hb:bef y m x s)(t:Nat):
    aG (bS G s (some (a,b,x))) t↔(aG G t/\t≠m)∨t=s:=by
 have hms:m≠s:=by rintro rfl;rw[h0]at hm;cases hm
 constructor
 {
 intro h;by_cases e:t=s
 · exact .inr e
 {
 refine .inl ⟨rN h0 e h,?_⟩;rintro rfl;obtain⟨c,d,z,h1,h2⟩:=h;rw[aJ e,hm]at h1;simp only[qI,zE]at h1;obtain⟨rfl,rfl,rfl⟩:=h1;have es:Cx (bS G s (some (a,b,x))) (Aft (bS G s (some (a,b,x))) t y) a b:=Cx.edge (s:=s) ⟨a,b,x,bE _ _ _,hb⟩ (bE _ _ _);have lift:∀{p q:Nat},Cx G (fun u=>aG G u/\Aft G t y u) p q->Cx (bS G s (some (a,b,x))) (Aft (bS G s (some (a,b,x))) t y) p q:=fun h=>zQ h0 (h.mono fun _ _ h _=>h.2) _;rcases hc.more (U' :=fun u=>aG G u/\Aft G t y u) (s:=t) (fun u hu=>hu.2.elim .inr (fun h=>.inl ⟨hu.1,h⟩)) hm with h|⟨h3,h4⟩|⟨h3,h4⟩
 {
 refine hn (h.mono fun u _ hu _=>⟨hu.1,?_⟩);rintro rfl;obtain⟨_,_,y', e1,e2⟩:=hu.2;rw[hm]at e1;simp only[qI,zE]at e1;rw[<-e1.2.2]at e2;exact mS _ _ e2}
 · exact h2 (((lift h3).symm.trans es).trans (lift h4).symm)
 · exact h2 (((lift h4).trans es.symm).trans (lift h3))}}
 {
 rintro(⟨h,htm⟩|rfl)
 {
 obtain⟨c,d,z,h1,h2⟩:=h;have e:t≠s:=by rintro rfl;rw[h0]at h1;cases h1
 refine⟨c,d,z,by rw[aJ e];exact h1,fun h=>?_⟩;by_cases hb1:bef z t y m
 {
 have hc' :Cx G (Aft G t z) a b:=hc.mono fun u f hu _=>by
   rcases hu.2 with rfl|⟨a', b', y', h3,h4⟩
   · exact⟨ma,mb,y,hm,hb1⟩
   · exact⟨a', b', y', h3,fL hb1 h4⟩
 rcases zR h with h|⟨h3,h4⟩|⟨h3,h4⟩
 · exact h2 h
 · exact h2 ((h3.trans hc').trans h4)
 · exact h2 ((h3.trans hc'.symm).trans h4)}
 {
 have hmt:=zP htm hb1;have up:∀{p q:Nat},Cx G (Aft G t z) p q->Cx G (fun u=>u=t∨Aft G t z u) p q:=fun h=>h.mono fun _ _ h _=>.inr h;have ed:Cx G (fun u=>u=t∨Aft G t z u) c d:=Cx.edge (s:=t) (.inl rfl) h1;have fin:Cx G (fun u=>u=t∨Aft G t z u) a b->False:=fun hab=>by
   refine hn ((kru hS (aMM h1) hab).mono fun u _ hu _=>⟨hu.2,?_⟩);rintro rfl;rcases hu.1 with rfl|⟨_,_,y', e1,e2⟩
   · exact htm rfl
   · rw [hm] at e1; simp only [qI, zE] at e1
     rw[<-e1.2.2]at e2;exact mS _ _ (fL hmt e2)
 rcases zR h with h|⟨h3,h4⟩|⟨h3,h4⟩
 · exact h2 h
 · exact fin (((up h3).symm.trans ed).trans (up h4).symm)
 · exact fin (((up h4).trans ed.symm).trans (up h3))}}
 {
 refine⟨a,b,x,bE _ _ _,fun h=>?_⟩;have h1:=kru hS (aGS G t x) (aEU h0 h (mS x t));refine hn (h1.mono fun u _ hu _=>⟨hu.2,?_⟩);rintro rfl;obtain⟨_,_,y', e1,e2⟩:=hu.1;rw[hm]at e1;simp only[qI,zE]at e1;rw[<-e1.2.2]at e2;exact mS _ _ (fL hb e2)}}
end
theorem aJC{ma mb:Nat}(hm:G m=some (ma,mb,y))(hf:∀t a b z,G t=some (a,b,z)->¬bef z t y m)(t:Nat):aG (bS G m none) t↔aG G t/\t≠m:=by
 have aft:∀{t a b:Nat} {z:Int} (u:Nat),G t=some (a,b,z)->t≠m->(Aft (bS G m none) t z u↔Aft G t z u):=by {
 intro t a b z u ht hne;constructor
 {
 rintro⟨c,d,w,h1,h2⟩;have:u≠m:=by rintro rfl;rw[bE]at h1;cases h1
 rw[aJ this]at h1;exact⟨c,d,w,h1,h2⟩}
 {
 rintro⟨c,d,w,h1,h2⟩;have:u≠m:=by {
 rintro rfl;rw[hm]at h1;simp only[qI,zE]at h1;rw[<-h1.2.2]at h2;exact hf t a b z ht h2};exact⟨c,d,w,by rw[aJ this];exact h1,h2⟩}};have cx:∀{t a b c d:Nat} {z:Int},G t=some (a,b,z)->t≠m->(Cx (bS G m none) (Aft (bS G m none) t z) c d↔Cx G (Aft G t z) c d):=by {
 intro t a b c d z ht hne;constructor
 {
 intro h;refine h.mono' fun u f h1 h2=>⟨(aft u ht hne).1 h1,?_⟩;have:u≠m:=by rintro rfl;rw[bE]at h2;cases h2
 rw[aJ this]at h2;exact h2}
 {
 intro h;refine h.mono' fun u f h1 h2=>?_;have h3:=(aft u ht hne).2 h1;have:u≠m:=by rintro rfl;obtain⟨_,_,_,e1,_⟩:=h3;rw[bE]at e1;cases e1
 exact⟨h3,by rw[aJ this];exact h2⟩}};constructor
 {
 rintro⟨a,b,z,h1,h2⟩;have hne:t≠m:=by rintro rfl;rw[bE]at h1;cases h1
 rw[aJ hne]at h1;exact⟨⟨a,b,z,h1,fun h=>h2 ((cx h1 hne).2 h)⟩,hne⟩}
 {
 rintro⟨⟨a,b,z,h1,h2⟩,hne⟩;exact⟨a,b,z,by rw[aJ hne];exact h1,fun h=>h2 ((cx h1 hne).1 h)⟩}
end
end Go.Proofs.YtjdgpcjbgjnahaaGreatDoor
namespace Go.Proofs.YtjdgpcjbgjnahaaGreatDoor
open Go.RowKit Go.Shelf
attribute [local go_sem] Oper.semAt_some
structure Bx (n₀ g:Nat) (w w' :World):Prop where
  os:w'.os=w.os
  tape:w'.tape=w.tape
  output:w'.output=w.output
  size:w.heap.size<=w'.heap.size
  keep:∀k,k<n₀->k≠g->w'.heap[k]? =w.heap[k]?
section
variable {n₀ g:Nat} {w w' w'' :World}
theorem Bx.refl(n₀ g:Nat)(w:World):Bx n₀ g w w:=⟨rfl,rfl,rfl,qK _,fun _ _ _=>rfl⟩
theorem Bx.trans(h:Bx n₀ g w w')(k:Bx n₀ g w' w''):Bx n₀ g w w'' :=
  ⟨k.os.trans h.os,k.tape.trans h.tape,k.output.trans h.output,zH h.size k.size,fun i hi hn=>(k.keep i hi hn).trans (h.keep i hi hn)⟩
theorem Bx.of_fr(h:Fr [g] w w')(hn:n₀<=w.heap.size):Bx n₀ g w w' :=⟨h.os,h.tape,h.output,h.size,fun k hk hne=>h.keep k (by omega) (by simpa using hne)⟩
theorem Bx.of_below(h:Below n₀ w w'):Bx n₀ g w w' :=⟨h.os,h.tape,h.output,h.size,fun k hk _=>h.block k hk⟩
theorem Bx.fr(h:Bx w.heap.size g w w'):Fr [g] w w' :=⟨h.os,h.tape,h.output,h.size,fun k hk hn=>h.keep k hk (by simpa using hn)⟩
theorem Bx.mono{n:Nat}(h:Bx n₀ g w w')(hn:n<=n₀):Bx n g w w' :=⟨h.os,h.tape,h.output,h.size,fun k hk=>h.keep k (by omega)⟩
theorem Bx.cell{p:Addr}(h:Bx n₀ g w w')(hp:p.block<n₀)(hg:p.block≠g):w'.cell? p=w.cell? p:=World.cell?_of_block (h.keep _ hp hg)
theorem Bx.grown{row:Option Nat}(h:Bx n₀ g w w')(hg:w'.grownBy w'' row)(hn:n₀<=w'.heap.size)(hr:∀k,row=some k->n₀<=k):Bx n₀ g w w'' :=
  h.trans ⟨hg.os,hg.tape,hg.output,hg.size,fun k hk _=>hg.block k (by omega) (fun e=>by have:=hr k e.symm;omega)⟩
end
theorem aXG{n₀ g:Nat}{w:World}(hn:n₀<=w.heap.size)(W:World)(l:Nat)(o o' :Obj)(hl:w.heap.size<=l)(h:W.heap[l]? =some o)(_:o.isCells=false)(_:o.isWalk=false):Bx n₀ g W (W.putObj l o'):=
  (Bx.refl n₀ g W).grown (grownBy_putObj' W l o') (by have:=(qM.1 h).1;omega) (fun k e=>by cases e;omega)
theorem aEV{β:Type}{n₀ g B:Nat}{w₀:World}(hn:n₀<=w₀.heap.size)(hB:n₀<=B):OwnFrom B (fun(_:β) W=>Bx n₀ g w₀ W):=
  fun _ _ _ _ hs hg hr=>hs.grown hg (zH hn hs.size) (fun k e=>zH hB (hr k e).1)
theorem uW{g:Nat}{w w' :World}{arr:Array Value}{t:TypeId}{z:Nat×Nat}(h:Fr [g] w w')(hg:w.heap[g]? =some (.cells arr t z)):KeepsOthers w w' :=
  ⟨h.size,fun k o hk ho=>by
 have hkg:k≠g:=by rintro rfl;rw[hg]at hk;cases hk;cases ho
 exact(h.keep k (qM.1 hk).1 (by simpa using hkg)).trans hk⟩
abbrev Pl(N:Nat):={ x:Nat×Nat // x.2<N }
def bk(N m:Nat)(P:Nat->Nat)(hP:∀i,P i<N)(k:Nat):Pl N:=⟨(m-1-k,P (m-1-k)),hP _⟩
def bks(N m:Nat)(P:Nat->Nat)(hP:∀i,P i<N)(k:Nat):List (Pl N):=(List.range k).map (bk N m P hP)
theorem aMQ(N m:Nat)(P:Nat->Nat)(hP:∀i,P i<N)(k:Nat):bks N m P hP (k+1)=bks N m P hP k++[bk N m P hP k]:=by simp[bks,List.range_succ]
theorem aMR(nf l Bb gp m cap N g B:Nat)(P:Nat->Nat)(hP:∀i,P i<N)(_hN:N<=65537)(hm:m<=65537)(hnf:2<=nf)(hBb:Bb<B)(hgp:gp<B)(hbg:Bb≠g)(hpg:gp≠g)
    (J Jx:List (Pl N)->World->Prop)
    (hY:∀pre x W,J pre W->pre.length<m->YieldAt Fence.wide (nf-1) Tryz.prog l #[.int .i64 x.1.1,.int .i64 x.1.2] W fun e W' =>
      (e=.returned (.bool true)/\J (pre++[x]) W' /\ Bx B g W W')∨(e=.returned (.bool false)/\Jx (pre++[x]) W'))
    (W:World) (hc:W.cell? ⟨Bb,0,none⟩=some (.slice (some ⟨gp,0,none⟩) m cap)) (_hmc:m<=cap) (hp:∀i,i<m->W.cell? ⟨gp,i,none⟩=some (.int .i64 (P i))) (h0:J [] W):
    CallsIn Fence.wide nf Tryz.prog 243 #[.func (.yield l) #[] #[],.pointer (some ⟨Bb,0,none⟩)] W fun e W' =>(∃v,e=.returned v) /\
      ((∃ys,ys=bks N m P hP m/\J ys W')∨(∃pre,True/\Jx pre W')):=by
 have HP:=qA hp;clear hp;refine callsIn_of_wp Tryz.func243 rfl trivial ?_ rfl;simp only[Tryz.ntmps243,List.size_toArray,qZ,List.length_nil,Nat.reduceAdd,Nat.reduceSub,Array.replicate_succ,Array.replicate_zero,List.push_toArray,List.append_toArray,List.nil_append,zC];gi_wp2
 gi_loopw [3] (fun x wr=>∃i:Nat,i<=m/\x=.int .i64 ((i:Int)-1)/\Bx B g W wr/\J (bks N m P hP (m-i)) wr) (fun x _=>(intOf x+1).toNat)
 case atStart=>exact⟨m,qK _,by go_num,Bx.refl _ _ _,by rw[Nat.sub_self];exact h0⟩
 case round=>
  obtain⟨i,hi,rfl,hB,hJ⟩:=hrel;cases i with
  | zero=>{
  rw[show((0:Nat):Int)-1=-1 by rfl];gi_wp2
  go_end0
  exact⟨⟨_,rfl⟩,.inl ⟨_,rfl,hJ⟩⟩}
  | succ j=>{
  rw[show((j+1:Nat):Int)-1=(j:Int) by omega];have rc:=(hB.cell (p:=⟨Bb,0,none⟩) hBb hbg).trans hc;have rp:=(hB.cell (p:=⟨gp,j,none⟩) hgp hpg).trans (HP.out j (by omega));obtain⟨fn,tmps,assign,body,hy,hRd⟩:=hY (bks N m P hP (m-(j+1))) (bk N m P hP (m-(j+1))) wr hJ (by simp[bks];omega);have e0:(bk N m P hP (m-(j+1))).1.1=j:=by simp only[bk];omega
  have e1:(bk N m P hP (m-(j+1))).1.2=P j:=by simp only[bk];rw[show m-1-(m-(j+1))=j by omega]
  rw[e0,e1]at hy;clear e0 e1;have hjm:(j:Int)<m:=by omega
  gi_wp2
  refine⟨fun _=>by omega,?_⟩;refine hRd.mono ?_;rintro e W3 (⟨rfl,hJ3,hk3⟩|⟨rfl,hJx3⟩)
  {
  clear rc rp;gi_wp2
  go_roundw
  case rel=>exact⟨j,by omega,by go_num,hB.trans hk3,by rw[show m-j=(m-(j+1))+1 by omega,aMQ];exact hJ3⟩
  case measure=>simp[intOf]}
  {
  gi_wp2
  refine bodyPost_ret (results_none rfl _ _ _) rfl ?_;exact⟨⟨_,rfl⟩,.inr ⟨_,trivial,hJx3⟩⟩}}
attribute [local go_sem] Oper.semAt_some
theorem aE.below{w w' :World}{pf g N cap n:Nat}{σ:Tbl}{ed:Int}(h:aE w pf g N cap σ ed)(hb:Below n w w')(hp:pf<n)(hg:g<n):aE w' pf g N cap σ ed:=
  ⟨h.hd.of_same (hb.block pf hp),h.nodes.same (hb.block g hg),h.ne,h.le,h.cap⟩
theorem aE.lts{w:World}{pf g N cap:Nat}{σ:Tbl}{ed:Int}(h:aE w pf g N cap σ ed):pf<w.heap.size/\g<w.heap.size:=⟨h.hd.lt,h.nodes.lt⟩
theorem aBW{a:Fm}:∀{c:List Fm},a∈c->a.p∈aZ c
  | b::c,h=>by
    rcases qB.1 h with rfl|h
    · simp[aZ]
    · simp only[aZ,zC,qB,qE];exact .inr (.inr (aBW h))
theorem uX:∀c:List Fm,c.length<=(aZ c).length
  | []=>qK _
  | a::c=>by have:=uX c;simp[aZ];omega
theorem aBX{l:List Nat}{N:Nat}(h:l.Nodup)(hl:∀x∈l,x<N):l.length<=N:=by
 have h1:l ⊆ List.range N:=fun x hx=>List.mem_range.2 (hl x hx);have:=h.length_le_of_subset h1;simpa using this
def aTD:Value->Nat
  | .slice _ n _=>n
  | _=>0
theorem Fr.of_grown{w w' :World}{b:Nat}{row:Option Nat}{o:Obj}(hg:(w.alloc o).grownBy w' row)(hr:∀k,row=some k->b<=k)(hb:b<=w.heap.size):Below b w w' :=
  ((Below.refl b w).alloc hb o).grown hg (by simp;omega) hr
theorem Tryz.linfo3:(Tryz.prog.info? 3).map (fun i=>(i.zero,i.size,i.bytes))=some (some (.int .i64 0),1,8):=by kernel_rfl
theorem aE.grown{w w' :World}{pf g N cap:Nat}{σ:Tbl}{ed:Int}{row:Option Nat}(h:aE w pf g N cap σ ed)(hg:w.grownBy w' row)(hr:∀k,row=some k->k≠pf/\k≠g):aE w' pf g N cap σ ed:=
  ⟨h.hd.of_same (hg.block pf h.hd.lt (fun e=>(hr _ e.symm).1 rfl)),h.nodes.same (hg.block g h.nodes.lt (fun e=>(hr _ e.symm).2 rfl)),h.ne,h.le,h.cap⟩
theorem InR.pushAll{N:Nat}:∀{ps:List Nat} {σ:Tbl},InR N σ->(∀x∈ps,x<N)->InR N (pushAll σ ps)
  | [],_,h,_=>h
  | p::ps,σ,h,hp=>InR.pushAll (ps:=ps) (h.push p (hp p (by simp))) (fun x hx=>hp x (by simp[hx]))
theorem zS(σ:Tbl)(ps:List Nat)(x:Nat):pushAll σ (ps++[x])=push (pushAll σ ps) x:=by simp[pushAll]
theorem wM{w:World}{e:TypeId}{g n cap:Nat}{xs:List Value}(h:w.ownsRow 0 e 1 (.slice (some ⟨g,0,none⟩) n cap) n xs)(hn:0<n):n<=cap/\g<w.heap.size/\∀i,i<n->w.cell? ⟨g,i,none⟩=xs[i]? :=by
 obtain⟨g', cap', e1,h1,h2,_⟩:=bW h hn;simp only[qP,qI,Addr.mk.injEq,and_true,true_and]at e1;obtain⟨rfl,rfl⟩:=e1;refine⟨h1,h2,fun i hi=>?_⟩;obtain⟨g', cap', e1,_,_,h3,_⟩:=bW h hi;simp only[qP,qI,Addr.mk.injEq,and_true,true_and]at e1;obtain⟨rfl,rfl⟩:=e1;exact h3
theorem aQN(N m:Nat)(P:Nat->Nat)(hP:∀i,P i<N)(k:Nat):(bks N m P hP k).map (fun x=>x.1.2)=(List.range k).map (fun k=>P (m-1-k)):=by simp[bks,bk,Function.comp_def]
theorem aJD(P:List Nat):(List.range P.length).map (fun k=>P.getD (P.length-1-k) 0)=P.reverse:=by
 apply List.ext_getElem?;intro j;by_cases h:j<P.length
 {
 rw[List.getElem?_map,List.getElem?_range h,List.getElem?_reverse h];simp only[Option.map_some,List.getD_eq_getElem?_getD];rw[qL (show P.length-1-j<P.length by omega)];rfl}
 · rw[zB (by simp;omega),zB (by simp;omega)]
def aQO(x:Nat):Value:=.int .i64 x
theorem aQP{w:World}{pf g N cap:Nat}{σ:Tbl}{ed:Int}(h:aE w pf g N cap σ ed)(i:Nat)(hR:InR N σ)(c:List Fm)(f:Bool)(l r:BT)(u:Nat)
    (hrep:Rep σ (aW c (.node f l i r)) u) (hnd:(aW c (.node f l i r)).nodes.Nodup) (hO:Out σ u (aW c (.node f l i r)).nodes) (hlt:∀x∈(aW c (.node f l i r)).nodes,x<N):
    Calls Tryz.prog 205 #[.pointer (some ⟨pf,0,none⟩),.int .i64 i] w fun e w' =>e=.returned (.tuple #[]) /\
      ∃σ' l' r', aE w' pf g N cap σ' ed/\Rep σ' (.node false l' i r') u/\(BT.node false l' i r').seq=(aW c (.node f l i r)).seq/\(BT.node false l' i r').nodes.Perm (aW c (.node f l i r)).nodes/\cX σ σ' (aW c (.node f l i r)).nodes/\InR N σ' /\ Fr [g] w w' :=by
 obtain⟨hpf,hg⟩:=h.lts;have hN:=h.le;have HR:=qA hR;clear hR;have hi0:i≠0:=(eZ.1 hrep).1.1.1;have hcl:=aGP hrep hi0 hnd hO;have hPm:∀x∈i::c.map Fm.p,x∈(aW c (.node f l i r)).nodes:=by {
 intro x hx;refine(bH c _).mem_iff.2 ?_;rcases qB.1 hx with rfl|hx
 · simp[BT.nodes]
 {
 rw[qE];right;obtain⟨a,ha,rfl⟩:=qW.1 hx;exact aBW ha}};have hPN:∀x∈i::c.map Fm.p,x<N:=fun x hx=>hlt x (hPm x hx);have hPl:(i::c.map Fm.p).length=c.length+1:=by simp
 have hway:Way (aW c (.node f l i r)) ((c.map Fm.p).reverse++[i]):=aBQ c ⟨rfl,.inl rfl⟩;have hlen:c.length+1<=N:=by {
 have h1:=aBX hnd hlt;have h2:=(bH c (.node f l i r)).length_eq;have h3:=uX c;simp only[zF,BT.nodes,qZ]at h2;omega};generalize hPP:i::c.map Fm.p=P at *;have hP0:P[0]? =some i:=by rw[<-hPP];rfl
 have HPP:=qA hPP;clear hPP;have HC:=qA hcl;clear hcl;have HW:=qA hway;clear hway;have HRep:=qA (zI hrep (zI hnd hO));clear hrep hnd hO;have HPN:=qA hPN;clear hPN;have HPl:=qA hPl;clear hPl;refine(callsIn_wide (n:=9)).1 ?_;refine callsIn_of_wp_marks Tryz.func205 rfl trivial ?_ rfl;simp only[Tryz.ntmps205,List.size_toArray,qZ,List.length_nil,Nat.reduceAdd,Nat.reduceSub,Array.replicate_succ,Array.replicate_zero,List.push_toArray,List.append_toArray,List.nil_append,zC];refine wpIn_wide.2 ?_;go_wp2
 go_step3
 go_wp2
 refine wp_label ?_;go_wp2
 have hL0:aE (w.alloc (.cells #[.pointer (some ⟨pf,0,none⟩)] 146)) pf g N cap σ ed:=h.below ((Below.refl w.heap.size w).alloc (qK _) _) hpf hg;have hB0:Below w.heap.size w (w.alloc (.cells #[.pointer (some ⟨pf,0,none⟩)] 146)):=(Below.refl w.heap.size w).alloc (qK _) _;have hbox:(w.alloc (.cells #[.pointer (some ⟨pf,0,none⟩)] 146)).cell? ⟨w.heap.size,0,none⟩=some (.pointer (some ⟨pf,0,none⟩)):=aC w _ _ _ rfl;have hsz:(w.alloc (.cells #[.pointer (some ⟨pf,0,none⟩)] 146)).heap.size=w.heap.size+1:=by simp
 generalize w.alloc (.cells #[.pointer (some ⟨pf,0,none⟩)] 146)=W0 at *;clear h;go_loopw [4,5] (fun a b wr=>∃k x:Nat,k<=c.length/\Hid (P[k]? =some x)/\b=.int .i64 x/\wr.ownsRow 0 3 1 a k ((P.take k).map aQO)/\Below (w.heap.size+1) W0 wr/\∀q,a.ownBlock=some q->w.heap.size+1<=q) (fun a _ _=>c.length+1-aTD a)
 case atStart=>exact⟨0,i,qS _,qA hP0,rfl,World.ownsRow_nil _ _ _ _,Below.refl _ _,fun q e=>by cases e⟩
 case round=>
  obtain⟨k,x,hk,hx,rfl,hown,hB,hq⟩:=hrel;obtain⟨a9,c9,rfl⟩:=aO hown;have hL:aE wr pf g N cap σ ed:=hL0.below hB (by omega) (by omega);have hxN:x<N:=HPN.out x (List.mem_of_getElem? hx.out);have hS:=qA hB.size;have hnx:∀b:Bool,(bD σ x).2=b->(b=true->∃y,P[k+1]? =some y/\(σ x).up=y/\k+1<=c.length)/\(b=false->k=c.length):=by {
  intro b hb;have hkl:=HPl.out;by_cases e:k=c.length
  {
  refine⟨fun h=>?_,fun _=>e⟩;have:=HC.out.2 x (by show(i::c.map Fm.p)[c.length]? =_;rw[HPP.out,<-e];exact hx.out);rw[hb,h]at this;cases this}
  {
  have hy:P[k+1]? =some (P[k+1]'(by omega)):=qL _;have:=HC.out.1 k x (P[k+1]'(by omega)) (by show(i::c.map Fm.p)[k]? =_;rw[HPP.out];exact hx.out) (by show(i::c.map Fm.p)[k+1]? =_;rw[HPP.out];exact hy);refine⟨fun _=>⟨_,hy,this.2,by omega⟩,fun h=>?_⟩;rw[hb,h]at this;cases this.1}};have Hnx:=qA hnx;clear hnx;go_wp2_with (at_builtin;refine aB rfl _ _ 158 rfl 3 (.int .i64 0) 8 Tryz.underlying158 Tryz.linfo3 rfl (.slice a9 k c9) k _ rfl (hown.alloc _) wr.heap.size (.int .i64 x) rfl (aC _ _ _ _ rfl) rfl (by omega) (by decide) ?_;intro g' cap' w3 hown3 hgrow3 hg3;have hB3:Below (w.heap.size+1) W0 w3:=hB.trans (Fr.of_grown hgrow3 hq (by have:=hB.size;omega));have hb3:=(hB3.cell (p:=⟨w.heap.size,0,none⟩) (by simp)).trans hbox)
  have hL3:aE w3 pf g N cap σ ed:=hL0.below hB3 (by omega) (by omega);have hq3:w.heap.size+1<=g' :=by {
  rcases hg3 with e|e
  · exact hq _ e
  · simp only[World.size_alloc]at e;have:=hS.out;omega};rw[show(P.take k).map aQO++[Value.int .i64 x]=(P.take (k+1)).map aQO by rw[List.take_add_one,hx.out];simp[aQO]]at hown3;clear hown hgrow3 hg3 hL hB hS hq;refine(rM hL3 x hxN HR.out).mono ?_;rintro _ w3 ⟨rfl,rfl⟩;generalize hsd:bD σ x=sx at *;obtain⟨s0,b⟩:=sx;have Hn:=qA (Hnx.out b rfl);clear Hnx;dsimp only
  cases b with
  | false=>{
  have hkc:=Hn.out.2 rfl;subst hkc;clear Hn;rw[List.take_of_length_le (by rw[HPl.out];exact qK _)]at hown3;obtain⟨hcap,hglt,hcells⟩:=wM hown3 (by omega);clear hown3;go_wp2
  have hB4:Below (w.heap.size+1) W0 (w3.alloc (.cells #[.slice (some ⟨g', 0,none⟩) (c.length+1) cap'] 158)):=hB3.alloc (by have:=hB3.size;omega) _;have hc4:=Blk.new w3 [.slice (some ⟨g', 0,none⟩) (c.length+1) cap'] 158;have hr4:∀j,j<c.length+1->(w3.alloc (.cells #[.slice (some ⟨g', 0,none⟩) (c.length+1) cap'] 158)).cell? ⟨g', j,none⟩=some (.int .i64 (P.getD j 0)):=by {
  intro j hj;rw[World.cell?_of_block (Below.heap_alloc w3 _ g' hglt),hcells j hj];simp only[List.getElem?_map,List.getD_eq_getElem?_getD];rw[qL (show j<P.length by rw[HPl.out];omega)];rfl};have hs4:(w3.alloc (.cells #[.slice (some ⟨g', 0,none⟩) (c.length+1) cap'] 158)).heap.size=w3.heap.size+1:=by simp
  generalize w3.alloc (.cells #[.slice (some ⟨g', 0,none⟩) (c.length+1) cap'] 158)=W1 at *;have hs3:=hB3.size;have hL4:aE W1 pf g N cap σ ed:=hL0.below hB4 (by omega) (by omega);have hb4:=(hB4.cell (p:=⟨w.heap.size,0,none⟩) (by simp)).trans hbox;have hPd:∀j,P.getD j 0<N:=by {
  intro j;rw[List.getD_eq_getElem?_getD];cases e:P[j]? with
  | none=>simp;omega
  | some y=>exact HPN.out y (List.mem_of_getElem? e)};clear hcells hb3 hL3 hx;refine(wpIn_wide (n:=9)).1 ?_
  refine' wpIn_rangeFunc_ownF (n := 9) rfl (by decide) (α := Pl N) (gf := 243) (lb := #[.pointer (some ⟨w3.heap.size, 0, none⟩)]) rfl trivial (enters_of Tryz.func243 (by kernel_rfl) rfl)
    (encs:=fun x=>#[.int .i64 x.1.1,.int .i64 x.1.2]) (Kp:=Bx W1.heap.size g) (S:=fun ys=>ys=bks N (c.length+1) (fun j=>P.getD j 0) hPd (c.length+1)) (Sp:=fun _=>True) (N:=c.length+1) (w0:=W1)
    (fun l J Jx W hW _ _ hY h0=>aMR 8 l w3.heap.size g' (c.length+1) cap' N g W1.heap.size (fun j=>P.getD j 0) hPd hN (by omega) (by decide) (by omega) (by omega) (by omega) (by omega) J Jx hY W ((hW.cell (p:=⟨w3.heap.size,0,none⟩) (by show w3.heap.size<_;omega)).trans (hc4.cell 0)) hcap (fun j hj=>(hW.cell (p:=⟨g', j,none⟩) (by show g' < _;omega)).trans (hr4 j hj)) h0)
    (fun h k=>h.trans k) (aXG (qK _)) (Below.refl _ _) (fun _=>rfl)
    (fun pre W=>(aE W pf g N cap (pushAll σ (pre.map (fun x=>x.1.2))) ed/\W.cell? ⟨w.heap.size,0,none⟩=some (.pointer (some ⟨pf,0,none⟩)))/\Bx W1.heap.size g W1 W)
    (fun _ _ _=>False)
    (OwnFrom.and (fun s A B row hs hg hr=>⟨hs.1.grown hg (fun k e=>by have:=(hr k e).1;omega),(World.cell?_of_block (hg.block w.heap.size (iT (a:=⟨w.heap.size,0,none⟩) hs.2) (fun e=>by have:=(hr w.heap.size e.symm).1;omega))).trans hs.2⟩) (aEV (qK _) (qK _)))
    (fun c s A B row hs hg hr=>hs) ⟨⟨hL4,hb4⟩,Bx.refl _ _ _⟩ _ ?assign ?body ?done ?stop
  case assign=>
   intro l x W K hK;gi_wp2
   exact hK
  case body=>
   rintro l pre x W ⟨⟨hLp,hbp⟩,hBp⟩ _;obtain⟨⟨x1,x2⟩,hx2⟩:=x;dsimp only at hx2
   gi_wp2_with (refine⟨trivial,?_⟩;gi_at_call 227;refine(CallsIn.inRound l (callsIn_wide.2 (aUA hLp x2 hx2 (HR.out.pushAll (fun y hy=>by obtain⟨z,_,rfl⟩:=qW.1 hy;exact z.2))))).mono ?_;rintro e w' ⟨rfl,hLq,hFq⟩)
   obtain⟨arr,hga,_⟩:=hLp.nodes;refine⟨uW hFq hga,Bx.of_fr hFq hBp.size,⟨?_,hFq.cell hbp (by show w.heap.size∉[g];simp;omega)⟩,hBp.trans (Bx.of_fr hFq hBp.size)⟩;rw[List.map_append,List.map_cons,List.map_nil,zS];exact hLq
  case stop=>
   rintro D c pre W hD _ hf hK;exact hf.elim
  case done=>
   rintro D ys W hD rfl ⟨⟨hLd,hbd⟩,hBd⟩ hK;rw[aQN,<-HPl.out,aJD,show P.reverse=(c.map Fm.p).reverse++[i] by rw[<-HPP.out];simp]at hLd;have hsp:∃c' l' r', sV N σ (pushAll σ ((c.map Fm.p).reverse++[i])) u i (aW c (.node f l i r)) c' l' r' :=by {
   obtain⟨c', l', r', a1,a2,a3,a4,a5⟩:=sE (c:=[]) (t:=aW c (.node f l i r)) HRep.out.1 HRep.out.2.1 (fun _ h=>by cases h) HW.out;exact⟨c', l', r', a1,a2,a3,a4,a5,HR.out.pushAll (fun x hx=>HPN.out x (by rw[<-HPP.out];simp at hx;simp;rcases hx with h|h;exact .inr h;exact .inl h))⟩};obtain⟨c1,l1,r1,hS1⟩:=hsp;have HS1:=qA hS1;clear hS1;generalize pushAll σ ((c.map Fm.p).reverse++[i])=τ1 at *;have hBw:Bx w.heap.size g w W:=(Bx.of_below (hB0.trans (hB4.mono (by omega)))).trans (hBd.mono (by omega));clear hc4 hr4 hL4 hb4 hBd hPd hB4 hB3 hglt;go_wp2
   go_loopg [] (c1.length+1) (fun k wr=>∃τ c1 l1 r1,Hid (c1.length<k/\sV N σ τ u i (aW c (.node f l i r)) c1 l1 r1)/\aE wr pf g N cap τ ed/\Bx w.heap.size g w wr/\wr.cell? ⟨w.heap.size,0,none⟩=some (.pointer (some ⟨pf,0,none⟩))/\wr.heap[D]? =some (.deferred (some [])))
   case atStart=>exact⟨τ1,c1,l1,r1,qA ⟨Nat.lt_succ_self _,HS1.out⟩,hLd,hBw,hbd,hK⟩
   case round=>
    clear hLd hbd hBw hK HS1;obtain⟨τ,c2,l2,r2,HS,hLr,hBr,hbr,hKr⟩:=hrel;have hiN:i<N:=hlt i ((bH c _).mem_iff.2 (by simp[BT.nodes]));have hi2:(i:Int)<N:=by omega
    have d1:=hLr.hd.cell 1;simp only[zJ,zK]at d1;have hDg:D≠g:=by omega
    have hwg:w.heap.size≠g:=by omega
    cases c2 with
    | nil=>{
    have hsd:(bD τ i).2=false:=(aGP HS.out.2.rep hi0 (HS.out.2.nd HRep.out.2.1) (HS.out.2.out HRep.out.2.2)).2 i rfl;go_wp2_with fail
    refine(rM hLr i hiN HS.out.2.inR).mono ?_;rintro _ wx ⟨rfl,rfl⟩;rw[hsd];go_wp2
    rw[Exit.noGoto_ret];refine⟨by simp,.inl ⟨_,_,rfl,run_takeDeferred hKr,?_⟩⟩;refine⟨.tuple #[],results_none rfl _ _ _,rfl,τ,l2,r2,?_,HS.out.2.rep,HS.out.2.seq,HS.out.2.perm,HS.out.2.rot,HS.out.2.inR,?_⟩
    · exact hLr.grown (grownBy_putObj' _ D (.deferred none)) (fun k e=>by cases e;omega)
    · exact(hBr.grown (grownBy_putObj' _ D (.deferred none)) hBr.size (fun k e=>by cases e;omega)).fr}
    | cons a c3=>{
    obtain⟨hs1,hu1⟩:=uU HS.out.2.rep hi0 (HS.out.2.nd HRep.out.2.1);change bD τ i=_ at hs1;change (τ i).up=_ at hu1;have hpN:a.p<N:=hu1▸(HS.out.2.inR i hiN).2.2.1;have hp2:(a.p:Int)<N:=by omega
    have hp0:a.p≠0:=(eZ.1 HS.out.2.rep).2.1.1;have a2:=hLr.nodes.c2 i hiN;rw[hu1]at a2;have S1:=qA (rM hLr i hiN HS.out.2.inR);rw[hs1]at S1;have S2:=qA (rM hLr a.p hpN HS.out.2.inR);clear hs1 hu1;cases c3 with
    | nil=>{
    have hsd:(bD τ a.p).2=false:=(aGP HS.out.2.rep hi0 (HS.out.2.nd HRep.out.2.1) (HS.out.2.out HRep.out.2.2)).2 a.p rfl;rw[hsd]at S2;have HZ:=qA (HS.out.2.zig HRep.out.2.1 HRep.out.2.2 hiN);clear hsd;go_wp2_with fail
    refine S1.out.mono ?_;rintro _ wx ⟨rfl,rfl⟩;go_wp2_with fail
    refine S2.out.mono ?_;rintro _ wx ⟨rfl,rfl⟩;go_wp2_with fail
    refine(lJ hLr i hiN HS.out.2.inR HZ.out.1.1 HZ.out.1.2.1 HZ.out.1.2.2.1 HZ.out.1.2.2.2).mono ?_;rintro _ wy ⟨rfl,hLy,hFy⟩;go_wp2
    obtain⟨hz,l3,r3,hS3⟩:=HZ.out;go_roundg 1
    case measure=>have:=HS.out.1;simp at this;omega
    case rel=>exact⟨_,[],l3,r3,qA ⟨by simp,hS3⟩,hLy,hBr.trans (Bx.of_fr hFy hBr.size),hFy.cell hbr (by simpa using hwg),(hFy.keep D (qM.1 hKr).1 (by simpa using hDg)).trans hKr⟩}
    | cons b c4=>{
    obtain⟨hs1,_⟩:=uU (c:=c4) (a:=b) (t:=a.fill (.node false l2 i r2)) HS.out.2.rep (by rw[jL];exact hp0) (HS.out.2.nd HRep.out.2.1);rw[jL]at hs1;rw[hs1]at S2;clear hs1;by_cases hab:a.s=b.s
    {
    have hb:((sd a.s:Int) == (sd b.s:Int))=true:=by rw[hab];exact beq_self_eq_true _
    obtain⟨z1,a', z2⟩:=HS.out.2.zigp hab HRep.out.2.1 HRep.out.2.2 hpN;obtain⟨z3,z4⟩:=z2.zig HRep.out.2.1 HRep.out.2.2 hiN;have HZ1:=qA z1;clear z1;have HZ2:=qA z2;clear z2;have HZ3:=qA z3;clear z3;have HZ4:=qA z4;clear z4;clear hab;go_wp2_with fail
    refine S1.out.mono ?_;rintro _ wx ⟨rfl,rfl⟩;go_wp2_with fail
    refine S2.out.mono ?_;rintro _ wx ⟨rfl,rfl⟩;go_wp2_with fail
    refine(lJ hLr a.p hpN HS.out.2.inR HZ1.out.1 HZ1.out.2.1 HZ1.out.2.2.1 HZ1.out.2.2.2).mono ?_;rintro _ wy ⟨rfl,hLy,hFy⟩;have hby:=hFy.cell hbr (by simpa using hwg);go_wp2_with fail
    refine(lJ hLy i hiN HZ2.out.inR HZ3.out.1 HZ3.out.2.1 HZ3.out.2.2.1 HZ3.out.2.2.2).mono ?_;rintro _ wz ⟨rfl,hLz,hFz⟩;go_wp2
    obtain⟨l3,r3,hS3⟩:=HZ4.out;go_roundg (c4.length+1)
    case measure=>have:=HS.out.1;simp at this;omega
    case rel=>
     have hF2:=hFy.then hFz;exact⟨_,c4,l3,r3,qA ⟨by simp,hS3⟩,hLz,hBr.trans (Bx.of_fr hF2 hBr.size),hF2.cell hbr (by simpa using hwg),(hF2.keep D (qM.1 hKr).1 (by simpa using hDg)).trans hKr⟩}
    {
    have hb:((sd a.s:Int) == (sd b.s:Int))=false:=by cases h1:a.s<;>cases h2:b.s<;>simp_all [sd]
    obtain⟨z1,l5,r5,z2⟩:=HS.out.2.zig HRep.out.2.1 HRep.out.2.2 hiN;obtain⟨z3,z4⟩:=z2.zig HRep.out.2.1 HRep.out.2.2 hiN;have HZ1:=qA z1;clear z1;have HZ2:=qA z2;clear z2;have HZ3:=qA z3;clear z3;have HZ4:=qA z4;clear z4;clear hab;go_wp2_with fail
    refine S1.out.mono ?_;rintro _ wx ⟨rfl,rfl⟩;go_wp2_with fail
    refine S2.out.mono ?_;rintro _ wx ⟨rfl,rfl⟩;go_wp2_with fail
    refine(lJ hLr i hiN HS.out.2.inR HZ1.out.1 HZ1.out.2.1 HZ1.out.2.2.1 HZ1.out.2.2.2).mono ?_;rintro _ wy ⟨rfl,hLy,hFy⟩;have hby:=hFy.cell hbr (by simpa using hwg);go_wp2_with fail
    refine(lJ hLy i hiN HZ2.out.inR HZ3.out.1 HZ3.out.2.1 HZ3.out.2.2.1 HZ3.out.2.2.2).mono ?_;rintro _ wz ⟨rfl,hLz,hFz⟩;go_wp2
    obtain⟨l3,r3,hS3⟩:=HZ4.out;go_roundg (c4.length+1)
    case measure=>have:=HS.out.1;simp at this;omega
    case rel=>
     have hF2:=hFy.then hFz;exact⟨_,c4,l3,r3,qA ⟨by simp,hS3⟩,hLz,hBr.trans (Bx.of_fr hF2 hBr.size),hF2.cell hbr (by simpa using hwg),(hF2.keep D (qM.1 hKr).1 (by simpa using hDg)).trans hKr⟩}}}}
  | true=>{
  obtain⟨y,hy1,hy2,hy3⟩:=Hn.out.1 rfl;have a2:=hL3.nodes.c2 x hxN;rw[hy2]at a2;have d1:=hL3.hd.cell 1;simp only[zJ,zK]at d1;have hx2:(x:Int)<N:=by omega
  go_wp2
  go_roundw
  case rel=>exact⟨k+1,y,hy3,qA hy1,rfl,hown3,hB3,fun q e=>by cases e;exact hq3⟩
  case measure=>simp[aTD];omega}
end Go.Proofs.YtjdgpcjbgjnahaaGreatDoor
namespace Go.Proofs.YtjdgpcjbgjnahaaGreatDoor
open Go.RowKit
theorem aGT{w:World}{pf g N cap:Nat}{σ:Tbl}{ed:Int}(h:aE w pf g N cap σ ed){par d rt:Nat->Nat}{t:BT}{u:Nat}{R:Fst}(hF:LF N σ ((t,u)::R) par d rt)(i:Nat)(hi:i∈t.nodes):
    Calls Tryz.prog 205 #[.pointer (some ⟨pf,0,none⟩),.int .i64 i] w fun e w' =>e=.returned (.tuple #[]) /\
      ∃σ' l' r', aE w' pf g N cap σ' ed/\Rep σ' (.node false l' i r') u/\(BT.node false l' i r').seq=t.seq/\(BT.node false l' i r').nodes.Perm t.nodes/\cX σ σ' t.nodes/\InR N σ' /\ Fr [g] w w' :=by
 obtain⟨c,f,l,r,rfl⟩:=aER hi;have hnd:=hF.nd;rw[aV,qN]at hnd;exact aQP h i hF.inR c f l r u (hF.rep (aW c (.node f l i r),u) (by simp)) hnd.1 hF.outs (fun x hx=>(hF.lt (p:=(aW c (.node f l i r),u)) (by simp) hx).2)
theorem uY{w:World}{pf g N cap:Nat}{σ:Tbl}{ed:Int}(h:aE w pf g N cap σ ed){par d rt:Nat->Nat}{F:Fst}(hF:LF N σ F par d rt)(i:Nat)(hi0:0<i)(hi:i<N):
    Calls Tryz.prog 169 #[.pointer (some ⟨pf,0,none⟩),.int .i64 i] w fun e w' =>∃m τ l R,e=.returned (.int .i64 (m:Nat))/\aE w' pf g N cap τ ed/\zN N σ F par d rt i m τ l R/\Fr [g] w w' :=by
 have hN:=h.le;have HX:=qA (XI.start hF hi hi0);clear hF;go_enter Tryz.func169,Tryz.ntmps169
 go_wp2
 go_loopg [5,6] (d i+1) (fun k a b wr=>∃(τ:Tbl) (B:BT) (j:Nat) (R:Fst),a=.int .i64 B.root/\b=.int .i64 j/\aE wr pf g N cap τ ed/\Fr [g] w wr/\Hid (XI N σ F par d rt i τ B j R)/\(j≠0->d j<k))
 case atStart=>exact⟨σ,.nil,i,F,rfl,rfl,h,Fr.refl _ _,HX,fun _=>Nat.lt_succ_self _⟩
 case round=>
  clear h HX;obtain⟨τ,B,j,R,rfl,rfl,hL,hFr,HX,hk⟩:=hrel;by_cases hj:j=0
  {
  subst hj;obtain⟨hiB,_⟩:=HX.out.done (by omega);go_wp2_with fail
  refine(aGT hL HX.out.lf i hiB).mono ?_;rintro _ w2 ⟨rfl,τ2,l2,r2,hL2,q1,q2,q3,q4,q5,hF2⟩;have HE:=qA (HX.out.exposed (by omega) q1 q2 q3 q4);clear q1 q2 q3 q4 q5;go_wp2
  go_ret;exact⟨B.root,τ2,l2,R,rfl,hL2,HE.out,hFr.then hF2⟩}
  {
  obtain⟨t,u,R2,hR2,hjt⟩:=HX.out.split hj;have HR2:=qA hR2;clear hR2;have hb0:((j:Int) == 0)=false:=qR.2 (by omega);have hjN:j<N:=HX.out.lf.up (B,j) (by simp);have hj2:(j:Int)<N:=by omega
  have hbN:B.root<N:=by {
  by_cases e:B.root=0
  · rw[e];omega
  · exact(HX.out.lf.lt (p:=(B,j)) (by simp) (BT.root_mem e)).2};have hb2:(B.root:Int)<N:=by omega
  have Hk:=qA hk;clear hk;have Hj:=qA hj;clear hj;go_wp2_with fail
  refine(aGT hL (HX.out.lf2 HR2.out) j hjt).mono ?_;rintro _ w2 ⟨rfl,τ2,l2,r2,hL2,q1,q2,q3,q4,q5,hF2⟩;have HE:=qA (HX.out.next Hj.out HR2.out hjt q1 q2 q3 q4);have HI:=qA q5;have hk1:=(q5 j hjN).2.1;have hk1' :((τ2 j).k1:Int)<N:=by omega
  clear q1 q2 q3 q4 q5;have a7:=hL2.nodes.c7 j hjN;have a1:=hL2.nodes.c1 j hjN;have a8:=hL2.nodes.c8 (τ2 j).k1 hk1;have b8:=hL2.nodes.c8 B.root hbN;have d1:=hL2.hd.cell 1;simp only[zJ,zK]at d1;have hfz:=hL2.nodes.frozen;generalize hbr:B.root=br at *;have Hbr:=qA hbr;clear hbr;go_wp2
  refine bF 28 (fun w' =>aE w' pf g N cap (aMF τ2 j br) ed/\Fr [g] w2 w') (by kernel_rfl) (by kernel_rfl) (by kernel_rfl) ?_;iterate 28 (refine bM (by decide) (fun K hK=>?_);go_simp;refine hK _ ?_;clear hK K)
  refine aU rfl undef (fun w' hw' =>?_) ?_
  {
  obtain⟨nq,rfl⟩:=hw';go_simp;rw[aLY,aLY];exact(hL2.eqv (Eqv.drewN w2 nq)).st7 ((Fr.refl [g] w2).drewN nq) hjN _};refine bN ?_;rintro w3 ⟨hL3,hF3⟩;clear a7 a1 a8 b8 d1 hfz;have hk3:=hL3.nodes.c1 j hjN;have hfz3:=hL3.nodes.frozen;obtain⟨hL4,hF4⟩:=hL3.st1 (Fr.refl [g] w3) hjN br;have HL4:=qA (show aE (w3.setCell ⟨g,j*9+1,none⟩ (.int .i64 br)) pf g N cap (nJ τ2 j br) ed from hL4);clear hL4;go_wp2_with fail
  refine(eB HL4.out j hjN HE.out.2.1.2.2.2 HE.out.2.1.2.1 HE.out.2.1.2.2.1).mono ?_;rintro _ w5 ⟨rfl,hL5,hF5⟩;change aE w5 pf g N cap (xstep τ2 j br) ed at hL5;have e2:=hL5.nodes.c2 j hjN;rw[HE.out.2.2.2]at e2;have d5:=hL5.hd.cell 1;simp only[zJ,zK]at d5;clear hfz3 hk3 HL4;go_wp2
  go_roundg (if u=0 then 0 else d u+1)
  case measure=>
   have:=Hk.out Hj.out;by_cases e:u=0
   · rw[qD e];omega
   · rw[qC e];have:=HE.out.2.2.1 e;omega
  case rel=>refine⟨_,_,u,_,rfl,rfl,hL5,hFr.then (hF2.then (hF3.then (hF4.then hF5))),qA HE.out.1,fun e=>by rw[qC e];exact Nat.lt_succ_self _⟩}
theorem aMS{w:World}{pf g N cap:Nat}{σ:Tbl}{ed:Int}(h:aE w pf g N cap σ ed){par d rt:Nat->Nat}{F:Fst}(hF:LF N σ F par d rt)(i:Nat)(hi0:0<i)(hi:i<N):
    Calls Tryz.prog 224 #[.pointer (some ⟨pf,0,none⟩),.int .i64 i] w fun e w' =>e=.returned (.tuple #[])/\∃τ l R par' d' rt', aE w' pf g N cap τ ed/\LF N τ ((.node true l i .nil,0)::R) par' d' rt' /\ (∀x,(τ x).key=(σ x).key) /\
      (∀x y,Adj par' x y↔Adj par x y)/\(∀x y,rt' x=rt' y↔rt x=rt y)/\rt' i=i/\Fr [g] w w' :=by
 have hN:=h.le;have hi2:(i:Int)<N:=by omega
 go_enter Tryz.func224,Tryz.ntmps224
 go_wp2_with fail
 refine(uY h hF i hi0 hi).mono ?_;rintro _ w2 ⟨m,τ,l,R,rfl,hL2,hE,hF2⟩;obtain⟨par', d', rt', q1,q2,q3,q4,q5⟩:=hE.lf.lead;have HE:=qA hE.key;have Q:=qA (zI q1 (zI q2 (zI q3 q4)));clear q1 q2 q3 q4 q5 hE h hF;have d1:=hL2.hd.cell 1;simp only[zJ,zK]at d1;have a3:=hL2.nodes.c3 i hi;have hfz:=hL2.nodes.frozen;obtain⟨hL3,hF3⟩:=hL2.st3 hF2 hi true;go_wp2
 go_end0
 refine⟨rfl,_,l,R,par', d', rt', hL3,Q.out.1,fun x=>?_,Q.out.2.1,Q.out.2.2.1,Q.out.2.2.2,hF3⟩;rw[<-HE.out x];by_cases e:x=i
 · subst e;rw[aM]
 · rw[aI e]
structure rO (N:Nat) (σ:Tbl) (par rt:Nat->Nat) (i j:Nat) (τ:Tbl) (l:BT) (R:Fst) (par' d' rt' :Nat->Nat):Prop where
  lf:LF N τ ((.node false l j .nil,0)::R) par' d' rt'
  key:∀x,(τ x).key=(σ x).key
  adj:∀x y,Adj par' x y↔Adj par x y
  rts:∀x y,rt' x=rt' y↔rt x=rt y
  rti:rt' i=i
  path:rt i=rt j->bP (Adj par) i j (l.seq++[j])
theorem aUE{w:World}{pf g N cap:Nat}{σ:Tbl}{ed:Int}(h:aE w pf g N cap σ ed){par d rt:Nat->Nat}{F:Fst}(hF:LF N σ F par d rt)(i j:Nat)(hi0:0<i)(hi:i<N)(hj0:0<j)(hj:j<N):
    Calls Tryz.prog 202 #[.pointer (some ⟨pf,0,none⟩),.int .i64 i,.int .i64 j] w fun e w' =>e=.returned (.tuple #[])/\∃τ l R par' d' rt', aE w' pf g N cap τ ed/\rO N σ par rt i j τ l R par' d' rt' /\ Fr [g] w w' :=by
 go_enter Tryz.func202,Tryz.ntmps202
 go_wp2_with fail
 refine(aMS h hF i hi0 hi).mono ?_;rintro _ w2 ⟨rfl,τ,l,R,par', d', rt', hL2,hF', hkey,hadj,hrt,hri,hFr2⟩;have HF' :=qA hF'; clear hF';have Q:=qA (zI hkey (zI hadj (zI hrt hri)));clear hkey hadj hrt hri h hF;go_wp2_with fail
 refine(uY hL2 HF'.out j hj0 hj).mono ?_;rintro _ w3 ⟨m,τ3,l3,R3,rfl,hL3,hE,hFr3⟩;have HE:=qA hE;clear hE;go_wp2
 go_end0
 obtain⟨hkey,hadj,hrt,hri⟩:=Q.out;have hE:=HE.out;refine⟨rfl,τ3,l3,R3,par', d', rt', hL3,⟨hE.lf,fun x=>(hE.key x).trans (hkey x),hadj,hrt,hri,fun e=>?_⟩,hFr2.then hFr3⟩;obtain⟨hn,hz,hc⟩:=hE.lf.top_seq;have hjm:j∈l3.seq++[j]:=by simp
 have hl:(l3.seq++[j]).getLast? =some j:=xJ _ _;generalize l3.seq++[j]=s at *;cases s with
 | nil=>cases hjm
 | cons y s=>{
 have hy:y=i:=by rw[<-dI hE.lf.rt0 hE.lf.rt1 hc hz j hjm,(hrt j i).2 e.symm,hri]
 subst hy;have:bP (Adj par') y j (y::s):=⟨s,rfl,aMJ (hz y (by simp)) (fun x hx=>hz x (by simp[hx])) hc.2,hn,hl⟩;exact this.mono (fun x y=>(hadj x y).1)}
def LG(w:World)(pf g n:Nat)(E:Nat->Nat->Prop)(key:Nat->Int)(ed:Int):Prop:=
  ∃cap σ F par d rt,aE w pf g (n+1) cap σ ed/\LF (n+1) σ F par d rt/\(∀v u,E v u↔Adj par (v+1) (u+1))/\∀v,v<n->(σ (v+1)).key=key v
theorem LG.frs{w:World}{pf g n:Nat}{E:Nat->Nat->Prop}{key:Nat->Int}{ed:Int}(h:LG w pf g n E key ed):Frs E:=by
 obtain⟨cap,σ,F,par,d,rt,_,h2,h3,_⟩:=h;exact⟨par,d,rt,h2.rtd,h3⟩
theorem LG.lts{w:World}{pf g n:Nat}{E:Nat->Nat->Prop}{key:Nat->Int}{ed:Int}(h:LG w pf g n E key ed):pf<w.heap.size/\g<w.heap.size/\n<=65536:=by
 obtain⟨cap,σ,F,par,d,rt,h1,_⟩:=h;have:=h1.le;exact⟨h1.lts.1,h1.lts.2,by omega⟩
theorem LG.fr{w w' :World}{pf g n:Nat}{E:Nat->Nat->Prop}{key:Nat->Int}{ed:Int}{S:List Nat}(h:LG w pf g n E key ed)(hf:Fr S w w')(hp:pf∉S)(hg:g∉S):LG w' pf g n E key ed:=by
 obtain⟨cap,σ,F,par,d,rt,h1,h2⟩:=h;exact⟨cap,σ,F,par,d,rt,⟨hf.blk h1.hd hp,h1.nodes.same (hf.keep g h1.nodes.lt hg),h1.ne,h1.le,h1.cap⟩,h2⟩
@[go_sem] theorem eq_lct(a:Addr)(w:World):(binOp .eql 146 (.pointer (some a)) (.pointer (some a))).run Tryz.prog w=.ok (.bool true) w:=by
 obtain⟨j,hj⟩:=qV.1 (show(Tryz.prog.info? 253).isSome=true by kernel_rfl);exact run_eql_ptr_same w a Tryz.underlying146 hj
theorem zT{w:World}{pf:Nat}(hc:w.cell? ⟨pf,0,none⟩=some (.pointer (some ⟨pf,0,none⟩))):
    Calls Tryz.prog 162 #[.pointer (some ⟨pf,0,none⟩)] w fun e w' =>e=.returned (.bool true)/\w' =w:=by
 go_enter Tryz.func162,Tryz.ntmps162
 go_wp2
 go_ret;exact⟨rfl,rfl⟩
def inV(n:Nat)(v:Int):Bool:=decide (0<=v)&&decide (v<n)
theorem aBY{w:World}{pf g n cap:Nat}{σ:Tbl}{ed:Int}(h:aE w pf g (n+1) cap σ ed)(v:Int):
    Calls Tryz.prog 204 #[.pointer (some ⟨pf,0,none⟩),.int .i64 v] w fun e w' =>e=.returned (.bool (inV n v))/\w' =w:=by
 have c0:=h.hd.cell 0;have c1:=h.hd.cell 1;have hN:=h.le;simp only[zJ,zK]at c0 c1;have hV:=qA (zT c0);by_cases h1:0<=v
 {
 by_cases h2:v<n
 {
 have e:inV n v=true:=by simp[inV,h1,h2]
 rw[e];clear e;go_enter Tryz.func204,Tryz.ntmps204
 go_wp2_with (go_at_call 162;refine hV.out.mono ?_;rintro e w' ⟨rfl,rfl⟩)
 go_ret;exact⟨rfl,rfl⟩}
 {
 have e:inV n v=false:=by simp[inV,h2]
 rw[e];clear e;have d2:decide (v<(n:Int))=false:=qF h2;go_enter Tryz.func204,Tryz.ntmps204
 go_wp2_with (go_at_call 162;refine hV.out.mono ?_;rintro e w' ⟨rfl,rfl⟩)
 go_ret;exact⟨rfl,rfl⟩}}
 {
 have e:inV n v=false:=by simp[inV,h1]
 rw[e];clear e;go_enter Tryz.func204,Tryz.ntmps204
 go_wp2_with (go_at_call 162;refine hV.out.mono ?_;rintro e w' ⟨rfl,rfl⟩)
 go_ret;exact⟨rfl,rfl⟩}
theorem dD{n:Nat}{v:Int}(h:inV n v=true):∃k:Nat,v=k/\k<n:=by
 simp only[inV,qX,decide_eq_true_eq]at h;exact⟨v.toNat,by omega,by omega⟩
def nT(n:Nat)(E:Nat->Nat->Prop)(a b:Int):Prop:=inV n a=true/\inV n b=true/\bV E a.toNat b.toNat
theorem aUF{N:Nat}{σ:Tbl}{F:Fst}{par d rt:Nat->Nat}(h:LF N σ F par d rt){t:BT}{b:Nat}(hm:(t,0)∈F)(hb:t.root=b)(hb0:b≠0){a:Nat}(ha:0<a)(haN:a<N)(hne:a≠b)(hr:rt a=rt b):(σ a).up≠0:=by
 intro e0;obtain⟨p,hp,hap⟩:=bR.1 ((h.mem a).2 ⟨ha,haN⟩);have hk:=(h.rep p hp).kids hap;have hbt:b∈t.nodes:=hb▸BT.root_mem (by rw[hb];exact hb0);by_cases hpt:b∈p.1.nodes
 {
 -- the same tree: a is no root
 rcases hk.2.2.1 with e|e
 {
 obtain⟨R,hR⟩:=eH hm;have h' :=h.perm hR;have hp' :=hR.mem_iff.1 hp;rcases qB.1 hp' with e2|e2
 · rw[e2]at e;exact hne (e.trans hb)
 · exact h'.disj e2 b hbt hpt}
 · rw[e0]at e;have:=(h.lt hp e).1;omega}
 {
 rcases hk.2.2.1 with e|e
 {
 have hu:p.2=0:=(hk.2.2.2.1 e).symm.trans e0;have c1:=h.ch _ hm;have c2:=h.ch _ hp;rw[hu]at c2;have z1:=h.seq0 hm;have z2:=h.seq0 hp;have sx:=cP.2 hbt;have sy:=cP.2 hap;dsimp only at c1 z1
 cases hs1:t.seq with
 | nil=>rw[hs1]at sx;cases sx
 | cons x s1=>{
 cases hs2:p.1.seq with
 | nil=>rw[hs2]at sy;cases sy
 | cons y s2=>{
 have mx:x∈t.nodes:=cP.1 (by rw[hs1];simp);have my:y∈p.1.nodes:=cP.1 (by rw[hs2];simp);rw[hs1]at c1 z1 sx;rw[hs2]at c2 z2 sy;have ra:=dI h.rt0 h.rt1 c1 z1 b sx;have rb:=dI h.rt0 h.rt1 c2 z2 a sy;have hxy:x=y:=by rw[<-ra,<-hr,rb]
 obtain⟨R,hR⟩:=eH hm;have h' :=h.perm hR;rcases qB.1 (hR.mem_iff.1 hp) with e2|e2
 · rw[e2]at hpt;exact hpt hbt
 · exact h'.disj e2 x mx (hxy▸my)}}}
 · rw[e0]at e;have:=(h.lt hp e).1;omega}
theorem pH{w:World}{pf g n cap:Nat}{σ:Tbl}{ed:Int}(h:aE w pf g (n+1) cap σ ed){par d rt:Nat->Nat}{F:Fst}(hF:LF (n+1) σ F par d rt)(v:Nat)(hv:v<n):
    Calls Tryz.prog 169 #[.pointer (some ⟨pf,0,none⟩),.int .i64 ((v:Int)+1)] w fun e w' =>∃m τ l R,e=.returned (.int .i64 (m:Nat))/\aE w' pf g (n+1) cap τ ed/\zN (n+1) σ F par d rt (v+1) m τ l R/\Fr [g] w w' :=
  uY h hF (v+1) (by omega) (by omega)
theorem lP{w:World}{pf g n:Nat}{E:Nat->Nat->Prop}{key:Nat->Int}{ed:Int}(h:LG w pf g n E key ed)(a b:Int):
    Calls Tryz.prog 201 #[.pointer (some ⟨pf,0,none⟩),.int .i64 a,.int .i64 b] w fun e w' =>∃r:Bool,e=.returned (.bool r)/\(r=true↔nT n E a b)/\LG w' pf g n E key ed/\Fr [g] w w' :=by
 have H:=qA h;obtain⟨cap,σ,F,par,d,rt,hL,hF,hE,hk⟩:=h;have HF:=qA hF;clear hF;have HE:=qA hE;clear hE;have HK:=qA hk;clear hk;have hN:=hL.le;cases hva:inV n a with
 | false=>{
 have HR:=qA (show ¬nT n E a b from fun e=>by rw[e.1]at hva;cases hva);have A1:=aBY hL a;rw[hva]at A1;have HA:=qA A1;clear A1 hva;go_enter Tryz.func201,Tryz.ntmps201
 go_wp2_with fail
 refine HA.out.mono ?_;rintro _ w ⟨rfl,rfl⟩;go_wp2
 go_ret;exact⟨false,rfl,by simp[HR.out],H.out,Fr.refl _ _⟩}
 | true=>{
 have A1:=aBY hL a;rw[hva]at A1;have HA:=qA A1;clear A1;cases hvb:inV n b with
 | false=>{
 have HR:=qA (show ¬nT n E a b from fun e=>by rw[e.2.1]at hvb;cases hvb);have B1:=aBY hL b;rw[hvb]at B1;have HB:=qA B1;clear B1 hva hvb;go_enter Tryz.func201,Tryz.ntmps201
 go_wp2_with fail
 refine HA.out.mono ?_;rintro _ w ⟨rfl,rfl⟩;go_wp2_with fail
 refine HB.out.mono ?_;rintro _ w ⟨rfl,rfl⟩;go_wp2
 go_ret;exact⟨false,rfl,by simp[HR.out],H.out,Fr.refl _ _⟩}
 | true=>{
 have B1:=aBY hL b;rw[hvb]at B1;have HB:=qA B1;clear B1;obtain⟨v,rfl,hv⟩:=dD hva;obtain⟨u,rfl,hu⟩:=dD hvb;have HC:=qA (show nT n E v u↔bV E v u from⟨fun e=>e.2.2,fun e=>⟨hva,hvb,e⟩⟩);clear hva hvb;by_cases hvu:v=u
 {
 subst hvu;go_enter Tryz.func201,Tryz.ntmps201
 go_wp2_with fail
 refine HA.out.mono ?_;rintro _ w ⟨rfl,rfl⟩;go_wp2_with fail
 refine HB.out.mono ?_;rintro _ w ⟨rfl,rfl⟩;go_wp2
 go_ret;refine⟨true,rfl,?_,H.out,Fr.refl _ _⟩;simp only[true_iff];exact HC.out.2 (bV.refl E v)}
 {
 have hb:((v:Int) == (u:Int))=false:=qR.2 (by omega);have Hne:=qA hvu;clear hvu;go_enter Tryz.func201,Tryz.ntmps201
 go_wp2_with fail
 refine HA.out.mono ?_;rintro _ w ⟨rfl,rfl⟩;go_wp2_with fail
 refine HB.out.mono ?_;rintro _ w ⟨rfl,rfl⟩;go_wp2_with fail
 refine(pH hL HF.out v (by omega)).mono ?_;rintro _ w2 ⟨m1,τ1,l1,R1,rfl,hL1,hE1,hF1⟩;have HE1:=qA hE1;clear hE1;go_wp2_with fail
 refine(pH hL1 HE1.out.lf u (by omega)).mono ?_;rintro _ w3 ⟨m2,τ2,l2,R2,rfl,hL2,hE2,hF2⟩;have HE2:=qA hE2;clear hE2;have a2:=hL2.nodes.c2 (v+1) (by omega);have d1:=hL2.hd.cell 1;simp only[zJ,zK]at d1;have hv2:((v+1:Nat):Int)<((n+1:Nat):Int):=by omega
 have hres:((τ2 (v+1)).up≠0)↔bV E v u:=by {
 rw[gQ HF.out.rtd HE.out];constructor
 {
 intro e;apply qQ;intro hc;have h1:=HE2.out.frame (v+1) hc;rw[h1,(HE1.out.lf.rep _ (List.mem_cons_self)).1.2.1]at e;exact e rfl}
 {
 intro e;exact aUF HE2.out.lf (List.mem_cons_self) rfl (by simp[BT.root]) (by omega) (by omega) (by simp only[BT.root];have:=Hne.out;omega) e}};have Hres:=qA hres;clear hres;have hFr:Fr [g] w w3:=hF1.then hF2;have hLG:LG w3 pf g n E key ed:=⟨cap,τ2,_,par,d,rt,hL2,HE2.out.lf,HE.out,fun x hx=>by rw[HE2.out.key,HE1.out.key];exact HK.out x hx⟩;have HLG:=qA hLG;clear hLG;by_cases hup:(τ2 (v+1)).up=0
 {
 rw[hup]at a2;have Hup:=qA hup;clear hup;go_wp2
 go_ret;exact⟨false,rfl,by simp only[Bool.false_eq_true,false_iff];exact fun e=>Hres.out.2 (HC.out.1 e) Hup.out,HLG.out,hFr⟩}
 {
 have hb0:(((τ2 (v+1)).up:Int) != 0)=true:=bne_iff_ne.2 (by omega);have Hup:=qA hup;clear hup;go_wp2
 go_ret;exact⟨true,rfl,by simp only[true_iff];exact HC.out.2 (Hres.out.1 Hup.out),HLG.out,hFr⟩}}}}
theorem aEW{w:World}{pf g n cap:Nat}{σ:Tbl}{ed:Int}(h:aE w pf g (n+1) cap σ ed){par d rt:Nat->Nat}{F:Fst}(hF:LF (n+1) σ F par d rt)(v u:Nat)(hv:v<n)(hu:u<n):
    Calls Tryz.prog 202 #[.pointer (some ⟨pf,0,none⟩),.int .i64 ((v:Int)+1),.int .i64 ((u:Int)+1)] w fun e w' =>e=.returned (.tuple #[])/\∃τ l R par' d' rt', aE w' pf g (n+1) cap τ ed/\rO (n+1) σ par rt (v+1) (u+1) τ l R par' d' rt' /\ Fr [g] w w' :=
  aUE h hF (v+1) (u+1) (by omega) (by omega) (by omega) (by omega)
theorem rO.lg{w:World}{pf g n cap:Nat}{σ τ:Tbl}{E:Nat->Nat->Prop}{key:Nat->Int}{ed:Int}{par rt par' d' rt' :Nat->Nat}{i j:Nat}{l:BT}{R:Fst}(h:rO (n+1) σ par rt i j τ l R par' d' rt')(hL:aE w pf g (n+1) cap τ ed)
    (hE:∀v u,E v u↔Adj par (v+1) (u+1)) (hk:∀v,v<n->(σ (v+1)).key=key v):LG w pf g n E key ed:=
  ⟨cap,τ,_,par', d', rt', hL,h.lf,fun v u=>(hE v u).trans (h.adj _ _).symm,fun v hv=>by rw[h.key];exact hk v hv⟩
theorem rO.at{n:Nat}{σ τ:Tbl}{E:Nat->Nat->Prop}{par rt par' d' rt' :Nat->Nat}{v u:Nat}{l:BT}{R:Fst}(h:rO (n+1) σ par rt (v+1) (u+1) τ l R par' d' rt')
    (hE:∀v u,E v u↔Adj par (v+1) (u+1)) (hr:rt (v+1)=rt (u+1)):∃p,bP E v u p/\p.map (· + 1)=l.seq++[u+1]/\(∀x∈p,x<n):=by
 obtain⟨h1,h2⟩:=pF hE (h.path hr);refine⟨_,h1,h2,fun x hx=>?_⟩;have:x+1∈l.seq++[u+1]:=by rw[<-h2];exact qW.2 ⟨x,hx,rfl⟩
 have hm:x+1∈(BT.node false l (u+1) .nil).nodes:=by rw[<-cP];simpa[BT.seq] using this
 have:=(h.lf.lt (List.mem_cons_self) hm).2;omega
def LM(w:World)(pf g n:Nat)(E:Nat->Nat->Prop)(key:Nat->Int):Prop:=LG w pf g n E key ((n:Int)-nc n E)
theorem aUG{w:World}{pf g n:Nat}{E:Nat->Nat->Prop}{key:Nat->Int}{ed:Int}(h:LG w pf g n E key ed)(a b:Int):
    Calls Tryz.prog 221 #[.pointer (some ⟨pf,0,none⟩),.int .i64 a,.int .i64 b] w fun e w' =>∃x:Int,e=.returned (.int .i64 x)/\((¬nT n E a b/\x=-1)∨∃(v u:Nat) (p:List Nat),a=v/\b=u/\v<n/\u<n/\bP E v u p/\x=(p.length:Int)-1)/\LG w' pf g n E key ed/\Fr [g] w w' :=by
 go_enter Tryz.func221,Tryz.ntmps221
 go_wp2_with fail
 refine(lP h a b).mono ?_;rintro _ w2 ⟨r,rfl,hr,h2,hF2⟩;have HR:=qA hr;clear hr;cases r with
 | false=>{
 have H2:=qA h2;clear h2 h;go_wp2
 go_ret;exact⟨-1,rfl,.inl ⟨fun e=>(by have:=HR.out.2 e;cases this),rfl⟩,H2.out,hF2⟩}
 | true=>{
 obtain⟨va,vb,hc⟩:=HR.out.1 rfl;obtain⟨v,rfl,hv⟩:=dD va;obtain⟨u,rfl,hu⟩:=dD vb;clear va vb HR h;obtain⟨cap,σ,F,par,d,rt,hL,hF,hE,hk⟩:=h2;have hrt:=(gQ hF.rtd hE).1 hc;have HF:=qA hF;clear hF;have HE:=qA hE;clear hE;have HK:=qA hk;clear hk;have hN:=hL.le;go_wp2_with fail
 refine(aEW hL HF.out v u hv hu).mono ?_;rintro _ w3 ⟨rfl,τ,l,R,par', d', rt', hL3,hP,hF3⟩;obtain⟨p,hp1,hp2,hp3⟩:=hP.at HE.out hrt;have hpl:(τ (u+1)).size=(p.length:Int)/\p.length<=n/\0<p.length:=by {
 have h1:=(hP.lf.rep _ (List.mem_cons_self)).2.2.2.1;have h2:(BT.node false l (u+1) .nil).nodes.length=p.length:=by {
 rw[<-(BT.seq_perm _).length_eq];have:=congrArg List.length hp2;simpa[BT.seq] using this.symm};have h3:=aBX hp1.nd hp3;have h4:0<p.length:=List.length_pos_iff.2 hp1.ne;refine⟨?_,h3,h4⟩;rw[h1,h2];unfold wrap64;omega};obtain⟨q1,q2,q3⟩:=hpl;have a5:=hL3.nodes.c5 (u+1) (by omega);rw[q1]at a5;have HP:=qA hP;clear hP;have Hp:=qA hp1;clear hp1 hp2 hp3 q1;have d1:=hL3.hd.cell 1;simp only[zJ,zK]at d1;have hu2:((u+1:Nat):Int)<((n+1:Nat):Int):=by omega
 go_wp2
 go_ret;exact⟨_,rfl,.inr ⟨v,u,p,rfl,rfl,hv,hu,Hp.out,rfl⟩,HP.out.lg hL3 HE.out HK.out,hF2.then hF3⟩}
def tD(key:Nat->Int)(p:List Nat)(m:Nat):Prop:=m∈p/\∀x∈p,x≠m->key m<key x∨(key m=key x/\m<x)
theorem aXH{w:World}{pf g n:Nat}{E:Nat->Nat->Prop}{key:Nat->Int}{ed:Int}(h:LG w pf g n E key ed)(a b:Int):Calls Tryz.prog 166 #[.pointer (some ⟨pf,0,none⟩),.int .i64 a,.int .i64 b] w fun e w' =>((¬nT n E a b/\e=.returned (.tuple #[.int .i64 0,.bool false]))∨∃(v u:Nat) (p:List Nat) (m:Nat),a=v/\b=u/\v<n/\u<n/\bP E v u p/\(∀x∈p,x<n)/\tD key p m/\e=.returned (.tuple #[.int .i64 m,.bool true]))/\LG w' pf g n E key ed/\Fr [g] w w' :=by
 go_enter Tryz.func166,Tryz.ntmps166
 go_wp2_with fail
 refine(lP h a b).mono ?_;rintro _ w2 ⟨r,rfl,hr,h2,hF2⟩;have HR:=qA hr;clear hr;cases r with
 | false=>{
 have H2:=qA h2;clear h2 h;go_wp2
 go_ret2;exact⟨.inl ⟨fun e=>(by have:=HR.out.2 e;cases this),rfl⟩,H2.out,hF2⟩}
 | true=>{
 obtain⟨va,vb,hc⟩:=HR.out.1 rfl;obtain⟨v,rfl,hv⟩:=dD va;obtain⟨u,rfl,hu⟩:=dD vb;clear va vb HR h;obtain⟨cap,σ,F,par,d,rt,hL,hF,hE,hk⟩:=h2;have hrt:=(gQ hF.rtd hE).1 hc;have HF:=qA hF;clear hF;have HE:=qA hE;clear hE;have HK:=qA hk;clear hk;have hN:=hL.le;go_wp2_with fail
 refine(aEW hL HF.out v u hv hu).mono ?_;rintro _ w3 ⟨rfl,τ,l,R,par', d', rt', hL3,hP,hF3⟩;obtain⟨p,hp1,hp2,hp3⟩:=hP.at HE.out hrt;have hbest:∃m,(τ (u+1)).first=m+1/\m<n/\tD key p m:=by {
 have h1:=(hP.lf.rep _ (List.mem_cons_self)).2.2.2.2.2;have hmem:∀x,x∈(BT.node false l (u+1) .nil).nodes↔x∈p.map (· + 1):=by intro x;rw[<-cP,hp2];simp[BT.seq]
 have hkey:∀x,x<n->(τ (x+1)).key=key x:=fun x hx=>by rw[hP.key];exact HK.out x hx
 obtain⟨m,hm,e⟩:=qW.1 ((hmem _).1 h1.1);refine⟨m,e.symm,hp3 m hm,hm,fun x hx hne=>?_⟩;have:=h1.2 (x+1) ((hmem _).2 (qW.2 ⟨x,hx,rfl⟩)) (by rw[<-e];omega);rw[<-e]at this;unfold bO at this;rw[hkey m (hp3 m hm),hkey x (hp3 x hx)]at this;simp only[Bool.or_eq_true,qX,decide_eq_true_eq]at this;omega};obtain⟨m,q1,q2,q3⟩:=hbest;have a6:=hL3.nodes.c6 (u+1) (by omega);rw[q1]at a6;have HP:=qA hP;clear hP;have Hp:=qA (zI hp1 (zI hp3 q3));clear hp1 hp2 hp3 q1 q3;have d1:=hL3.hd.cell 1;simp only[zJ,zK]at d1;have hu2:((u+1:Nat):Int)<((n+1:Nat):Int):=by omega
 have hw1:((m+1:Nat):Int)-1=m:=by omega
 go_wp2
 go_ret2;exact⟨.inr ⟨v,u,p,m,rfl,rfl,hv,hu,Hp.out.1,Hp.out.2.1,Hp.out.2.2,rfl⟩,HP.out.lg hL3 HE.out HK.out,hF2.then hF3⟩}
end Go.Proofs.YtjdgpcjbgjnahaaGreatDoor
namespace Go.Proofs.YtjdgpcjbgjnahaaGreatDoor
open Go.RowKit Classical
theorem zU{w:World}{pf g n cap:Nat}{σ:Tbl}{ed:Int}(h:aE w pf g (n+1) cap σ ed)(b m:Nat)(f:Nat->Int)(hm:m<=100)(hb:∀k,k<m->w.cell? ⟨b,k,none⟩=some (.int .i64 (f k))):
    Calls Tryz.prog 168 #[.pointer (some ⟨pf,0,none⟩),.slice (some ⟨b,0,none⟩) m m] w fun e w' =>((e=.returned (.int .i64 0)/\∀k,k<m->inV n (f k)=true)∨(e=.returned (.int .i64 3)/\∃k,k<m/\inV n (f k)=false))/\w' =w:=by
 have c0:=h.hd.cell 0;simp only[zJ]at c0;have hV:=qA (zT c0);clear c0;have HB:=qA hb;clear hb;go_enter Tryz.func168,Tryz.ntmps168
 go_wp2_with fail
 refine hV.out.mono ?_;rintro _ w ⟨rfl,rfl⟩;go_wp2
 go_loopw [12] (fun x wr=>∃k:Nat,k<=m/\x=.int .i64 k/\wr=w/\∀j,j<k->inV n (f j)=true) (fun x _=>m-(intOf x).toNat)
 case atStart=>exact⟨0,qS _,rfl,rfl,fun j hj=>by omega⟩
 case round=>
  obtain⟨k,hk,rfl,rfl,hall⟩:=hrel;have Hall:=qA hall;clear hall;by_cases hlt:k<m
  {
  have hc:=HB.out k hlt;have hA:=aBY h (f k);cases hv:inV n (f k) with
  | true=>{
  rw[hv]at hA;have HA:=qA hA;clear hA;have Hv:=qA hv;clear hv;go_wp2_with fail
  refine HA.out.mono ?_;rintro _ w0 ⟨rfl,rfl⟩;go_wp2
  exact⟨⟨k+1,by omega,by go_num,trivial,fun j hj=>by
    by_cases e:j=k
    · rw[e];exact Hv.out
    · exact Hall.out j (by omega)⟩,by simp[intOf];omega⟩}
  | false=>{
  rw[hv]at hA;have HA:=qA hA;clear hA;have Hv:=qA hv;clear hv;go_wp2_with fail
  refine HA.out.mono ?_;rintro _ w0 ⟨rfl,rfl⟩;go_wp2
  go_ret;exact⟨.inr ⟨rfl,k,hlt,Hv.out⟩,rfl⟩}}
  {
  go_wp2
  go_ret;exact⟨.inl ⟨rfl,fun j hj=>Hall.out j (by omega)⟩,rfl⟩}
theorem aUH{w:World}{pf g n cap:Nat}{σ:Tbl}{ed:Int}(h:aE w pf g (n+1) cap σ ed){par d rt:Nat->Nat}{F:Fst}(hF:LF (n+1) σ F par d rt)(v:Nat)(hv:v<n):
    Calls Tryz.prog 224 #[.pointer (some ⟨pf,0,none⟩),.int .i64 ((v:Int)+1)] w fun e w' =>e=.returned (.tuple #[])/\∃τ l R par' d' rt', aE w' pf g (n+1) cap τ ed/\LF (n+1) τ ((.node true l (v+1) .nil,0)::R) par' d' rt' /\ (∀x,(τ x).key=(σ x).key) /\
      (∀x y,Adj par' x y↔Adj par x y)/\(∀x y,rt' x=rt' y↔rt x=rt y)/\rt' (v+1)=v+1/\Fr [g] w w' :=aMS h hF (v+1) (by omega) (by omega)
theorem mT{w:World}{pf g n cap:Nat}{σ:Tbl}{ed:Int}(h:aE w pf g (n+1) cap σ ed)(v:Nat)(hv:v<n)(hR:InR (n+1) σ)(h0:(σ (v+1)).k0≠v+1)(h1:(σ (v+1)).k1≠v+1):
    Calls Tryz.prog 167 #[.pointer (some ⟨pf,0,none⟩),.int .i64 ((v:Int)+1)] w fun e w' =>e=.returned (.tuple #[])/\aE w' pf g (n+1) cap (refresh σ (v+1)) ed/\Fr [g] w w' :=eB h (v+1) (by omega) hR h0 h1
theorem aE.edges{w w0:World}{pf g N cap:Nat}{σ:Tbl}{ed:Int}(h:aE w pf g N cap σ ed)(hF:Fr [g] w0 w)(e:Int):
    aE (w.setCell ⟨pf,2,none⟩ (.int .i64 e)) pf g N cap σ e/\Fr [pf,g] w0 (w.setCell ⟨pf,2,none⟩ (.int .i64 e)):=by
 refine⟨⟨?_,h.nodes.same (Below.heap_setCell _ _ _ _ (fun e=>h.ne e.symm)),h.ne,h.le,h.cap⟩,(hF.mono (S' :=[pf,g]) (fun b hb=>.inl (by simp at hb;simp[hb]))).setCell _ _ (.inl (by simp))⟩;have:=h.hd.set 2 (.int .i64 e);simpa using this
noncomputable def eA(n:Nat)(E:Nat->Nat->Prop)(a b:Int):Int:=
  if inV n a=true/\inV n b=true then(if a=b then 9 else if bV E a.toNat b.toNat then 6 else 0) else 3
noncomputable def lQ(n:Nat)(E:Nat->Nat->Prop)(a b:Int):Nat->Nat->Prop:=if eA n E a b=0 then eD E a.toNat b.toNat else E
theorem aUI{w:World}{pf g n:Nat}{E:Nat->Nat->Prop}{key:Nat->Int}(h:LM w pf g n E key)(a b:Int):
    Calls Tryz.prog 214 #[.pointer (some ⟨pf,0,none⟩),.int .i64 a,.int .i64 b] w fun e w' =>e=.returned (.int .i64 (eA n E a b))/\LM w' pf g n (lQ n E a b) key/\Fr [pf,g] w w' :=by
  have H:=qA h;have hfrs:=qA (LG.frs h);obtain⟨hp1,hg1,hn1⟩:=LG.lts h;obtain⟨cap,σ,F,par,d,rt,hL,hF,hE,hk⟩:=h;clear hF hE hk;have hLa:aE (w.alloc (.cells #[.int .i64 a,.int .i64 b] 3)) pf g (n+1) cap σ ((n:Int)-nc n E):=hL.below ((Below.refl _ w).alloc (qK _) _) hp1 hg1;have hblk:=Blk.new w [.int .i64 a,.int .i64 b] 3;have hFa:Fr [] w (w.alloc (.cells #[.int .i64 a,.int .i64 b] 3)):=(Fr.refl _ _).alloc _;have HMa:=qA (LG.fr H.out hFa (by simp) (by simp));have hCk:=zU hLa w.heap.size 2 (fun k=>if k=0 then a else b) (by decide) (fun k hk=>by
    rw[hblk.cell];rcases(show k=0∨k=1 by omega) with rfl|rfl<;>rfl)
  have HCk:=qA hCk;clear hCk hblk;clear hLa hL;go_enter Tryz.func214,Tryz.ntmps214
  go_wp2_with fail
  refine HCk.out.mono ?_;rintro _ w1 ⟨hcode,rfl⟩;clear HCk;generalize w.alloc (.cells #[.int .i64 a,.int .i64 b] 3)=w1 at *;rcases hcode with⟨rfl,hall⟩|⟨rfl,k,hk,hbad⟩
  · have va : inV n a = true := hall 0 (by decide)
    have vb:inV n b=true:=hall 1 (by decide);clear hall;by_cases hab:a=b
    · have hlc : eA n E a b = 9 := by unfold eA; rw [qD ⟨va, vb⟩, qD hab]
      have hle:lQ n E a b=E:=by unfold lQ;rw[hlc];simp
      have Hlc:=qA (zI hlc hle);clear hlc hle;have hb:(a == b)=true:=beq_iff_eq.2 hab;clear va vb hab;go_wp2
      go_ret;rw[Hlc.out.1,Hlc.out.2];exact⟨rfl,HMa.out,hFa.mono (by simp)⟩
    · have hb : (a == b) = false := qR.2 hab
      have HL0:=qA (zI va (zI vb hab));clear hab;go_wp2_with fail
      refine(lP HMa.out a b).mono ?_;rintro _ w2 ⟨r,rfl,hr,hM2,hF2⟩;cases r with
      | true=>
        obtain⟨_,_,hc⟩:=hr.1 rfl;have hlc:eA n E a b=6:=by unfold eA;rw[qD ⟨va,vb⟩,qC HL0.out.2.2,qD hc]
        have hle:lQ n E a b=E:=by unfold lQ;rw[hlc];simp
        have Hlc:=qA (zI hlc hle);clear hlc hle hr;have HM2:=qA hM2;clear hM2 va vb hc;go_wp2
        go_ret;rw[Hlc.out.1,Hlc.out.2];exact⟨rfl,HM2.out,(hFa.mono (S' :=[pf,g]) (by simp)).trans hF2 (fun q hq=>.inl (by simp at hq;simp[hq]))⟩
      | false=>
        have hnc:¬bV E a.toNat b.toNat:=fun e=>by have:=hr.2 ⟨va,vb,e⟩;cases this
        have hlc:eA n E a b=0:=by unfold eA;rw[qD ⟨va,vb⟩,qC HL0.out.2.2,qC hnc]
        have hle:lQ n E a b=eD E a.toNat b.toNat:=by unfold lQ;rw[hlc];simp
        have Hlc:=qA (zI hlc hle);clear hlc hle hr;obtain⟨v,rfl,hv⟩:=dD va;obtain⟨u,rfl,hu⟩:=dD vb;simp only[zD]at hnc Hlc;have HN:=qA hnc;clear va vb HL0;obtain⟨cap2,σ2,F2,par2,d2,rt2,hL2,hLF2,hE2,hk2⟩:=hM2;have hrt:rt2 (v+1)≠rt2 (u+1):=fun e=>hnc ((gQ hLF2.rtd hE2).2 e);clear hnc;have HF2:=qA hLF2;clear hLF2;have HE2:=qA hE2;clear hE2;have HK2:=qA hk2;clear hk2;have HRt:=qA hrt;clear hrt;have hN:=hL2.le;go_wp2_with fail
        refine(aUH hL2 HF2.out v hv).mono ?_;rintro _ w3 ⟨rfl,τ3,l3,R3,par3,d3,rt3,hL3,hLF3,hk3,hadj3,hrt3,hri3,hF3⟩;have HF3:=qA hLF3;clear hLF3;have HQ3:=qA (zI hk3 (zI hadj3 (zI hrt3 hri3)));clear hk3 hadj3 hrt3 hri3;go_wp2_with fail
        refine(pH hL3 HF3.out u hu).mono ?_;rintro _ w4 ⟨m4,τ4,l4,R4,rfl,hL4,hE4,hF4⟩
        have key:(∃par' d' rt' F', LF (n+1) (refresh (fY τ4 (v+1) (u+1)) (u+1)) F' par' d' rt' /\ (∀x y,Adj par' x y↔Adj par2 x y∨(x=v+1/\y=u+1)∨(x=u+1/\y=v+1))) /\
            (∀x,(refresh (fY τ4 (v+1) (u+1)) (u+1) x).key=(σ2 x).key)/\(fY τ4 (v+1) (u+1) (u+1)).k0≠u+1/\(fY τ4 (v+1) (u+1) (u+1)).k1≠u+1/\InR (n+1) (fY τ4 (v+1) (u+1)):=by
          obtain⟨hk3,hadj3,hrt3,hri3⟩:=HQ3.out;have hne3:rt3 (v+1)≠rt3 (u+1):=fun e=>HRt.out ((hrt3 _ _).1 e);have hin:=hE4.trees _ (List.mem_cons_self) ⟨v+1,by simp[BT.nodes],hne3⟩;obtain⟨R5,hR5⟩:=eH hin;have hlf:=hE4.lf.perm ((List.Perm.cons _ hR5).trans (List.Perm.swap _ _ _));obtain⟨⟨par', d', rt', a1,a2⟩,a3,a4,a5,a6⟩:=hlf.link (a:=v+1) rfl (by omega) hri3 (fun e=>hne3 (by rw[hri3,e]));exact⟨⟨par', d', rt', _,a1,fun x y=>by rw[a2,hadj3]⟩,fun x=>by rw[a3,hE4.key,hk3],a4,a5,a6⟩
        have Key:=qA key;clear key hE4;have d4:=hL4.hd.cell 1;simp only[zJ,zK]at d4;have hfz4:=hL4.nodes.frozen;have a2:=hL4.nodes.c2 (v+1) (by omega);obtain⟨hL5,hF5⟩:=hL4.st2 (Fr.refl [g] w4) (i:=v+1) (by omega) (u+1);have hL5' :aE (w4.setCell ⟨g,(v+1)*9+2,none⟩ (.int .i64 ((u:Int)+1))) pf g (n+1) cap2 (aBT τ4 (v+1) (u+1)) ((n:Int)-nc n E):=hL5;have hF5' :Fr [g] w4 (w4.setCell ⟨g,(v+1)*9+2,none⟩ (.int .i64 ((u:Int)+1))):=hF5;have HL5:=qA hL5'; clear hL5 hL5' hF5;have hv2:((v+1:Nat):Int)<((n+1:Nat):Int):=by omega
        have hu2:((u+1:Nat):Int)<((n+1:Nat):Int):=by omega
        go_wp2
        generalize w4.setCell ⟨g,(v+1)*9+2,none⟩ (.int .i64 ((u:Int)+1))=w5 at *;have hL5:=HL5.out;clear HL5 d4 hfz4 a2;have d5:=hL5.hd.cell 1;simp only[zJ,zK]at d5;have hfz5:=hL5.nodes.frozen;have b7:=hL5.nodes.c7 (u+1) (by omega);have b8:=hL5.nodes.c8 (v+1) (by omega);have hwu:IntKind.i64.wrap ((u:Int)+1)=(u:Int)+1:=zG _ (by omega);have hwv:IntKind.i64.wrap ((v:Int)+1)=(v:Int)+1:=zG _ (by omega);have htu:((u:Int)+1).toNat=u+1:=by omega
        have htv:((v:Int)+1).toNat=v+1:=by omega
        have hcu:0<=(u:Int)+1:=by omega
        have hcv:0<=(v:Int)+1:=by omega
        have hcu2:(u:Int)+1<(n:Int)+1:=by omega
        have hcv2:(v:Int)+1<(n:Int)+1:=by omega
        refine bF 21 (fun w' =>aE w' pf g (n+1) cap2 (fY τ4 (v+1) (u+1)) ((n:Int)-nc n E)/\Fr [g] w5 w') (by kernel_rfl) (by kernel_rfl) (by kernel_rfl) ?_;iterate 21 (refine bM (by decide) (fun K hK=>?_);go_simp;refine hK _ ?_;clear hK K)
        refine aU rfl undef (fun w' hw' =>?_) ?_
        · obtain ⟨nq, rfl⟩ := hw'
          go_simp;rw[aLY];exact(hL5.eqv (Eqv.drewN w5 nq)).st7 ((Fr.refl [g] w5).drewN nq) (i:=u+1) (by omega) _
        refine bN ?_;rintro w6 ⟨hL6,hF6⟩;clear b7 b8 d5 hfz5;go_wp2_with fail
        refine(mT hL6 u hu Key.out.2.2.2.2 Key.out.2.2.1 Key.out.2.2.2.1).mono ?_;rintro _ w7 ⟨rfl,hL7,hF7⟩;have c7:=hL7.hd.cell 2;simp only[zJ,zK]at c7;have hfz7:=hL7.hd.frozen 2;obtain⟨par', d', rt', F', q1,q2⟩:=Key.out.1;have hAE:∀x y,eD E v u x y↔Adj par' (x+1) (y+1):=by
          intro x y;rw[q2];unfold eD;rw[HE2.out x y];simp only[Nat.add_right_cancel_iff]
        have hcnt:=aML (n:=n) hfrs.out ⟨par', d', rt', q1.rtd,hAE⟩ HN.out hv hu;have hnc1:=aMK n (eD E v u);have hed:IntKind.i64.wrap ((n:Int)-nc n E+1)=(n:Int)-nc n (eD E v u):=by
          rw[show(n:Int)-nc n E+1=(n:Int)-nc n (eD E v u) by omega];exact zG _ (by omega)
        obtain⟨hL8,hF8⟩:=hL7.edges (hF2.then (hF3.then (hF4.then (hF5'.then (hF6.then hF7))))) ((n:Int)-nc n (eD E v u));have Hfin:=qA (show LM _ pf g n (eD E v u) key from⟨cap2,_,F', par', d', rt', hL8,q1,hAE,fun x hx=>by rw[Key.out.2.1];exact HK2.out x hx⟩);have hnq:nc n E=nc n (eD E v u)+1:=hcnt.symm;rw[hnq]at c7;have hed2:(n:Int)-((nc n (eD E v u)+1:Nat):Int)+1=(n:Int)-nc n (eD E v u):=by omega
        clear hL8 q1 q2 hAE hcnt hnq hed Key;generalize nc n (eD E v u)=z at *;go_wp2
        go_ret;rw[Hlc.out.1,Hlc.out.2];have e:(n:Int)-((z:Int)+1)+1=(n:Int)-z:=by omega
        rw[e];exact⟨rfl,Hfin.out,(hFa.mono (S' :=[pf,g]) (by simp)).trans hF8 (fun q hq=>.inl hq)⟩
  · have hlc:eA n E a b=3:=by
      unfold eA;rw[qC];rintro⟨h1,h2⟩;rcases(show k=0∨k=1 by omega) with rfl|rfl
      · have hbad:inV n a=false:=hbad;rw[h1]at hbad;cases hbad
      · have hbad:inV n b=false:=hbad;rw[h2]at hbad;cases hbad
    have hle:lQ n E a b=E:=by unfold lQ;rw[hlc];simp
    have Hlc:=qA (zI hlc hle);clear hlc hle hbad;go_wp2
    go_ret;rw[Hlc.out.1,Hlc.out.2];exact⟨rfl,HMa.out,hFa.mono (by simp)⟩
end Go.Proofs.YtjdgpcjbgjnahaaGreatDoor
namespace Go.Proofs.YtjdgpcjbgjnahaaGreatDoor
open Go.RowKit
theorem new_no(n:Int)(w:World)(h:n<0∨65536<n):
    Calls Tryz.prog 130 #[.int .i64 n] w fun e w' =>e=.returned (.tuple #[.pointer none,.int .i64 2])/\w' =w:=by
 rcases h with h|h
 {
 go_enter Tryz.func130,Tryz.ntmps130
 go_wp2
 go_ret2;exact⟨rfl,rfl⟩}
 {
 have h0:¬n<0:=by omega
 go_enter Tryz.func130,Tryz.ntmps130
 go_wp2
 go_ret2;exact⟨rfl,rfl⟩}
def nd0:Nd:={ k0:=0,k1:=0,up:=0,flip:=false,key:=0,size:=0,first:=0,light:=0,total:=0 }
def ndv:Value:=.agg #[.int .i64 0,.int .i64 0,.int .i64 0,.bool false,.int .i64 0,.int .i64 0,.int .i64 0,.int .i64 0,.int .i64 0]
theorem Tryz.info251:(Tryz.prog.info? 251).map (fun i=>(i.zero,i.size,i.bytes))=some (some ndv,9,72):=by kernel_rfl
theorem xL:ndv.cells=#[.int .i64 0,.int .i64 0,.int .i64 0,.bool false,.int .i64 0,.int .i64 0,.int .i64 0,.int .i64 0,.int .i64 0]:=by kernel_rfl
theorem aEX(N i f:Nat)(hi:i<N)(hf:f<9):(madeCells ndv.cells (N*9))[i*9+f]? =some (fv nd0 f):=by
 rw[xL];unfold madeCells;have hlt:i*9+f<N*9:=by omega
 have:(i*9+f)%9=f:=by omega
 simp only[Array.getElem?_map,Array.getElem?_range,hlt,if_true,Option.map_some];show some (_[(i*9+f)%9]!)=_
 rw[this];match f,hf with
 | 0,_=>rfl
 | 1,_=>rfl
 | 2,_=>rfl
 | 3,_=>rfl
 | 4,_=>rfl
 | 5,_=>rfl
 | 6,_=>rfl
 | 7,_=>rfl
 | 8,_=>rfl
def iH(m:Nat):Array Value:=madeCells ndv.cells (m*9)
theorem uZ(n:Nat)(w:World)(hn:n<=1048576):(Instr.makeSlice 247 (.int .i64 n) (.int .i64 n)).run Tryz.prog w=.ok (.slice (some ⟨w.heap.size,0,none⟩) n n) (w.alloc (.cells (iH n) 251)):=by
 obtain⟨i0,hi,hz0,hz1,hz2⟩:=info_parts Tryz.info251;have h:=run_make (P:=Tryz.prog) w 247 251 i0 ndv Tryz.underlying247 hi hz0 .i64 .i64 n n (by omega) (by omega) (by rw[hz2];omega) (by omega);rw[hz1]at h;simp only[zD]at h;exact h
def fP(k:Nat):Tbl:=fun i=>if 0<i/\i<=k then { nd0 with size:=1,first:=i,total:=1 } else nd0
theorem aJE(k:Nat):refresh (fP k) (k+1)=fP (k+1):=by
 have h0:(fP k (k+1)).k0=0/\(fP k (k+1)).k1=0/\fP k (k+1)=nd0:=by {
 have:fP k (k+1)=nd0:=by unfold fP;rw[qC (by omega)]
 rw[this];exact⟨rfl,rfl,rfl⟩};have e:refresh (fP k) (k+1)=dP (fP k) (k+1):=by {
 show aY (aY (dP (fP k) (k+1)) (k+1) (fP k (k+1)).k0) (k+1) (fP k (k+1)).k1=_
 rw[h0.1,h0.2.1];rfl};rw[e];funext i
 unfold dP;by_cases hi:i=k+1
 {
 subst hi;rw[aM,h0.2.2];unfold fP;rw[qD (by omega)];simp[nd0,wrap64]}
 {
 rw[aI hi];unfold fP;by_cases h1:0<i/\i<=k
 · rw[qD h1,qD (by omega)]
 · rw[qC h1,qC (by omega)]}
theorem aMT(k N:Nat)(_hk:k<N):InR N (fP k):=by
 intro i hi;unfold fP;split
 · exact⟨by show 0<N;omega,by show 0<N;omega,by show 0<N;omega,hi⟩
 · exact⟨by show 0<N;omega,by show 0<N;omega,by show 0<N;omega,by show 0<N;omega⟩
theorem aXI(n:Nat)(w:World)(h:n<=65536):
    Calls Tryz.prog 130 #[.int .i64 n] w fun e w' =>∃pf g,e=.returned (.tuple #[.pointer (some ⟨pf,0,none⟩),.int .i64 0])/\LM w' pf g n (fun _ _=>False) (fun _=>0)/\Fr [] w w' /\ w.heap.size<=pf/\w.heap.size<=g:=by
 have hmk:∀W:World,(Instr.makeSlice 247 (.int .i64 ((n:Int)+1)) (.int .i64 ((n:Int)+1))).run Tryz.prog W=.ok (.slice (some ⟨W.heap.size,0,none⟩) (n+1) (n+1)) (W.alloc (.cells (iH (n+1)) 251)):=fun W=>uZ (n+1) W (by omega);have h0:¬((n:Int)<0):=by omega
 have h1:¬(65536<(n:Int)):=by omega
 go_enter Tryz.func130,Tryz.ntmps130
 go_wp2
 obtain⟨W0,hW0⟩:∃W0,(w.alloc (.cells (iH (n+1)) 251)).alloc (.cells #[.pointer (some ⟨w.heap.size+1,0,none⟩),.slice (some ⟨w.heap.size,0,none⟩) (n+1) (n+1),.int .i64 0] 253)=W0:=⟨_,rfl⟩;have hL0:aE W0 (w.heap.size+1) w.heap.size (n+1) (n+1) (fP 0) 0:=by {
 subst hW0;refine⟨?_,?_,by omega,by omega,qK _⟩
 {
 have:=Blk.new (w.alloc (.cells (iH (n+1)) 251)) [.pointer (some ⟨w.heap.size+1,0,none⟩),.slice (some ⟨w.heap.size,0,none⟩) (n+1) (n+1),.int .i64 0] 253;rw[World.size_alloc]at this;exact this}
 {
 refine⟨iH (n+1),?_,by simp[iH,size_madeCells],fun i hi f hf=>?_⟩
 · exact(Below.heap_alloc _ _ _ (by simp)).trans (World.alloc_heap_new w _)
 {
 have:fP 0 i=nd0:=by unfold fP;rw[qC (by omega)]
 rw[this];exact aEX (n+1) i f hi hf}}};have hF0:Fr [] w W0:=by subst hW0;exact((Fr.refl _ _).alloc _).alloc _
 rw[hW0];clear hW0 hmk;go_loopw [22] (fun x wr=>∃k:Nat,k<=n/\x=.int .i64 k/\aE wr (w.heap.size+1) w.heap.size (n+1) (n+1) (fP k) 0/\Fr [] w wr) (fun x _=>n-(intOf x).toNat)
 case atStart=>exact⟨0,qS _,rfl,hL0,hF0⟩
 case round=>
  clear hL0 hF0;obtain⟨k,hk,rfl,hL,hF⟩:=hrel;by_cases hlt:k<n
  {
  have hz:fP k (k+1)=nd0:=by unfold fP;rw[qC (by omega)]
  have HQ:=qA (show(fP k (k+1)).k0≠k+1/\(fP k (k+1)).k1≠k+1 by rw[hz];simp[nd0]);clear hz;go_wp2_with fail
  refine(mT hL k hlt (aMT k (n+1) (by omega)) HQ.out.1 HQ.out.2).mono ?_;rintro _ w2 ⟨rfl,hL2,hF2⟩;rw[aJE]at hL2;go_wp2
  exact⟨⟨k+1,by omega,by go_num,hL2,hF.trans hF2 (fun b hb=>.inr (by simp at hb;omega))⟩,by simp[intOf];omega⟩}
  {
  obtain rfl:k=n:=by omega
  go_wp2
  go_ret2;have hv:∀x,0<x->x<k+1->fP k x={ nd0 with size:=1,first:=x,total:=1 }:=fun x h1 h2=>by unfold fP;rw[qD (by omega)]
  have h00:fP k 0=nd0:=by unfold fP;rw[qC (by omega)]
  have hlf:=LF.new k (fP k) (by rw[h00];simp[nd0]) (fun x h1 h2=>by rw[hv x h1 h2];simp[nd0]);refine⟨w.heap.size+1,w.heap.size,rfl,⟨k+1,fP k,_,_,_,_,?_,hlf,fun v u=>?_,fun v hv' =>?_⟩,hF,by omega,qK _⟩
  · rw[aQK];simpa using hL
  · simp[Adj]
  · rw[hv (v+1) (by omega) (by omega)];rfl}
end Go.Proofs.YtjdgpcjbgjnahaaGreatDoor
namespace Go.Proofs.YtjdgpcjbgjnahaaGreatDoor
open Go.RowKit Classical
noncomputable def zV(E:Nat->Nat->Prop)(a b:Nat):List Nat:=if h:bV E a b then Classical.choose h else []
noncomputable def vA(n:Nat)(E:Nat->Nat->Prop)(a b:Int):Int:=if nT n E a b then((zV E a.toNat b.toNat).length:Int)-1 else -1
section
variable {E:Nat->Nat->Prop} {a b c:Nat}
theorem vB(h:Frs E){p:List Nat}(hp:bP E a b p):zV E a b=p:=by
 unfold zV;have hc:bV E a b:=⟨p,hp⟩;rw[dif_pos hc];exact h.unique (Classical.choose_spec hc) hp
end
section
variable {w:World} {pf g n:Nat} {E:Nat->Nat->Prop} {key:Nat->Int} {ed:Int} (h:LG w pf g n E key ed)
include h
theorem aUJ(a b:Int):Calls Tryz.prog 221 #[.pointer (some ⟨pf,0,none⟩),.int .i64 a,.int .i64 b] w fun e w' =>e=.returned (.int .i64 (vA n E a b))/\LG w' pf g n E key ed/\Fr [g] w w' :=by
 have hf:=h.frs;refine(aUG h a b).mono ?_;rintro e w' ⟨x,rfl,hr,h2,h3⟩;refine⟨?_,h2,h3⟩;unfold vA;rcases hr with⟨hn,rfl⟩|⟨v,u,p,rfl,rfl,hv,hu,hp,rfl⟩
 · rw[qC hn]
 {
 have hc:nT n E v u:=⟨by simp[inV];omega,by simp[inV];omega,p,hp⟩;rw[qD hc,zD,zD,vB hf hp]}
end
theorem aBZ{n:Nat}{E:Nat->Nat->Prop}(h:Frs E){a b:Nat}(ha:a<n)(hb:b<n){p:List Nat}(hp:bP E a b p):vA n E a b=(p.length:Int)-1:=by
 unfold vA;rw[qD ⟨by simp[inV];omega,by simp[inV];omega,p,hp⟩,zD,zD,vB h hp]
theorem aQQ{E:Nat->Nat->Prop}{a b:Nat}(h:bV E a b)(hne:a≠b):∃x,E x b:=by
 obtain⟨p,l,rfl,hw,_,hl⟩:=h;rcases List.eq_nil_or_concat l with rfl|⟨S,x,rfl⟩
 · simp at hl;exact absurd hl hne
 {
 rw[List.concat_eq_append]at *;rw[<-zC,xJ]at hl;cases hl;rcases List.eq_nil_or_concat S with rfl|⟨S', y,rfl⟩
 · exact⟨a,hw.1⟩
 {
 rw[List.concat_eq_append,List.append_assoc]at hw;exact⟨y,(aJB.1 hw).2.1⟩}}
theorem pI{n:Nat}{E:Nat->Nat->Prop}{a b:Nat}(ha:a<n)(hb:b<n)(hne:a≠b)(hc:¬bV E a b):eA n E a b=0:=by
 unfold eA;rw[qD ⟨by simp[inV];omega,by simp[inV];omega⟩,qC (by omega),zD,zD,qC hc]
theorem aJF{n:Nat}{E:Nat->Nat->Prop}{a b:Nat}(ha:a<n)(hb:b<n)(hne:a≠b)(hc:¬bV E a b):lQ n E a b=eD E a b:=by
 unfold lQ;rw[pI ha hb hne hc];simp
theorem aQR{w:World}{pf g n:Nat}{E:Nat->Nat->Prop}{key:Nat->Int}(h:LM w pf g n E key)(a b:Nat)(ha:a<n)(hb:b<n)(hne:a≠b)(hc:¬bV E a b):
    Calls Tryz.prog 214 #[.pointer (some ⟨pf,0,none⟩),.int .i64 a,.int .i64 b] w fun e w' =>e=.returned (.int .i64 0)/\LM w' pf g n (eD E a b) key/\Fr [pf,g] w w' :=by
 have:=aUI h a b;rw[pI ha hb hne hc,aJF ha hb hne hc]at this;exact this
noncomputable def gR(n:Nat)(E:Nat->Nat->Prop)(a b:Int):Int:=
  if inV n a=true/\inV n b=true then(if E a.toNat b.toNat then 0 else 5) else 3
noncomputable def zW(n:Nat)(E:Nat->Nat->Prop)(a b:Int):Nat->Nat->Prop:=if gR n E a b=0 then jA E a.toNat b.toNat else E
theorem aMU{n:Nat}{E:Nat->Nat->Prop}(h:Frs E){v u:Nat}(hv:v<n)(hu:u<n):vA n E v u=1↔E v u:=by
 constructor
 {
 intro e;by_cases hc:nT n E v u
 {
 obtain⟨_,_,p,hp⟩:=hc;simp only[zD]at hp;rw[aBZ h hv hu hp]at e;obtain⟨l,rfl,hw,_,hl⟩:=hp;have hlen:l.length=1:=by simp at e;omega
 match l,hlen with
 | [x],_=>{
 simp at hl;subst hl;exact hw.1}}
 · unfold vA at e;rw[qC hc]at e;cases e}
 {
 intro e;rw[aBZ h hv hu (h.edge e)];rfl}
theorem aXJ{w:World}{pf g n:Nat}{E:Nat->Nat->Prop}{key:Nat->Int}(h:LM w pf g n E key)(a b:Int):
    Calls Tryz.prog 198 #[.pointer (some ⟨pf,0,none⟩),.int .i64 a,.int .i64 b] w fun e w' =>e=.returned (.int .i64 (gR n E a b))/\LM w' pf g n (zW n E a b) key/\Fr [pf,g] w w' :=by
 have H:=qA h;have hfrs:=qA (LG.frs h);obtain⟨hp1,hg1,hn1⟩:=LG.lts h;obtain⟨cap,σ,F,par,d,rt,hL,hF,hE,hk⟩:=h;clear hF hE hk;have hLa:aE (w.alloc (.cells #[.int .i64 a,.int .i64 b] 3)) pf g (n+1) cap σ ((n:Int)-nc n E):=hL.below ((Below.refl _ w).alloc (qK _) _) hp1 hg1;have hblk:=Blk.new w [.int .i64 a,.int .i64 b] 3;have hFa:Fr [] w (w.alloc (.cells #[.int .i64 a,.int .i64 b] 3)):=(Fr.refl _ _).alloc _;have HMa:=qA (LG.fr H.out hFa (by simp) (by simp));have hCk:=zU hLa w.heap.size 2 (fun k=>if k=0 then a else b) (by decide) (fun k hk=>by
   rw[hblk.cell];rcases(show k=0∨k=1 by omega) with rfl|rfl<;>rfl)
 have HCk:=qA hCk;clear hCk hblk;clear hLa hL;go_enter Tryz.func198,Tryz.ntmps198
 go_wp2_with fail
 refine HCk.out.mono ?_;rintro _ w1 ⟨hcode,rfl⟩;clear HCk;generalize w.alloc (.cells #[.int .i64 a,.int .i64 b] 3)=w1 at *;rcases hcode with⟨rfl,hall⟩|⟨rfl,k,hk,hbad⟩
 {
 have va:inV n a=true:=hall 0 (by decide);have vb:inV n b=true:=hall 1 (by decide);clear hall;obtain⟨v,rfl,hv⟩:=dD va;obtain⟨u,rfl,hu⟩:=dD vb;have hd1:=aMU (n:=n) hfrs.out hv hu;go_wp2_with fail
 refine(aUJ HMa.out (v:Int) (u:Int)).mono ?_;rintro _ w2 ⟨rfl,hM2,hF2⟩;by_cases he:E v u
 {
 have hlc:gR n E v u=0:=by unfold gR;rw[qD ⟨va,vb⟩,zD,zD,qD he]
 have hle:zW n E v u=jA E v u:=by unfold zW;rw[hlc,qD rfl,zD,zD]
 have Hlc:=qA (zI hlc hle);clear hlc hle;have Hd:=qA (hd1.2 he);rw[Hd.out];have He:=qA he;clear va vb hd1;obtain⟨cap2,σ2,F2,par2,d2,rt2,hL2,hLF2,hE2,hk2⟩:=hM2;have hrt:rt2 (v+1)=rt2 (u+1):=(gQ hLF2.rtd hE2).1 (dX hfrs.out he);have HF2:=qA hLF2;clear hLF2;have HE2:=qA hE2;clear hE2;have HK2:=qA hk2;clear hk2;clear he;have hN:=hL2.le;go_wp2_with fail
 refine(aEW hL2 HF2.out v u hv hu).mono ?_;rintro _ w3 ⟨rfl,τ,l,R,par', d', rt', hL3,hP,hF3⟩;obtain⟨p,hp1', hp2', _⟩:=hP.at HE2.out hrt;have hpe:p=[v,u]:=hfrs.out.unique hp1' (hfrs.out.edge He.out);have hls:l.seq=[v+1]:=by {
 rw[hpe]at hp2';simp only[List.map_cons,List.map_nil]at hp2';have e:[v+1]++[u+1]=l.seq++[u+1]:=hp2';exact(List.append_cancel_right e).symm};have HCt:=qA (hP.lf.cut hls);have HPk:=qA (zI hP.key hP.adj);clear hP hp1' hp2' hpe hls hrt;have d3:=hL3.hd.cell 1;simp only[zJ,zK]at d3;have hfz3:=hL3.nodes.frozen;have a2:=hL3.nodes.c2 (v+1) (by omega);obtain⟨hL4,hF4⟩:aE (w3.setCell ⟨g,(v+1)*9+2,none⟩ (.int .i64 0)) pf g (n+1) cap2 (τ.upd (v+1) { τ (v+1) with up:=0 }) ((n:Int)-nc n E)/\Fr [g] w3 (w3.setCell ⟨g,(v+1)*9+2,none⟩ (.int .i64 0)):=hL3.st2 (Fr.refl [g] w3) (i:=v+1) (by omega) 0;have hv2:((v+1:Nat):Int)<((n+1:Nat):Int):=by omega
 have hu2:((u+1:Nat):Int)<((n+1:Nat):Int):=by omega
 have d4:=hL4.hd.cell 1;simp only[zJ,zK]at d4;have hfz4:=hL4.nodes.frozen;have b0:=hL4.nodes.c0 (u+1) (by omega);obtain⟨hL5,hF5⟩:=hL4.st0 hF4 (i:=u+1) (by omega) 0;have HL5:Hid (aE ((w3.setCell ⟨g,(v+1)*9+2,none⟩ (.int .i64 0)).setCell ⟨g,(u+1)*9,none⟩ (.int .i64 0)) pf g (n+1) cap2 (iS τ (v+1) (u+1)) ((n:Int)-nc n E)/\Fr [g] w3 ((w3.setCell ⟨g,(v+1)*9+2,none⟩ (.int .i64 0)).setCell ⟨g,(u+1)*9,none⟩ (.int .i64 0))):=qA (zI hL5 hF5);clear hL5 hF5 hL4 hF4;go_wp2_with fail
 refine(mT HL5.out.1 u hu HCt.out.2.2.2.2 HCt.out.2.2.1 HCt.out.2.2.2.1).mono ?_;rintro _ w6 ⟨rfl,hL6,hF6⟩;have hF36:Fr [g] w3 w6:=HL5.out.2.then hF6;clear HL5 d3 hfz3 a2 d4 hfz4 b0;have c6:=hL6.hd.cell 2;simp only[zJ,zK]at c6;have hfz6:=hL6.hd.frozen 2;obtain⟨par3,d3', rt3,F3,q1,q2⟩:=HCt.out.1;have hDE:∀x y,jA E v u x y↔Adj par3 (x+1) (y+1):=by {
 intro x y;rw[q2,HPk.out.2];unfold jA;rw[HE2.out x y];simp only[Nat.add_right_cancel_iff]};have hcnt:=aUD (n:=n) hfrs.out ⟨par3,d3', rt3,q1.rtd,hDE⟩ He.out hv hu;have hnc1:=aMK n (jA E v u);obtain⟨hL8,hF8⟩:=hL6.edges (hF2.then (hF3.then hF36)) ((n:Int)-nc n (jA E v u));have Hfin:=qA (show LM _ pf g n (jA E v u) key from⟨cap2,_,F3,par3,d3', rt3,hL8,q1,hDE,fun x hx=>by rw[HCt.out.2.1,HPk.out.1];exact HK2.out x hx⟩);have he2:(n:Int)-nc n E-1=(n:Int)-nc n (jA E v u):=by omega
 have He2:=qA he2;clear hL8 q1 q2 hDE hcnt he2 HCt;have hncE:=aMK n E;generalize nc n E=z1 at *;generalize nc n (jA E v u)=z2 at *;go_wp2
 go_ret;rw[Hlc.out.1,Hlc.out.2,He2.out];exact⟨rfl,Hfin.out,(hFa.mono (S' :=[pf,g]) (by simp)).trans hF8 (fun q hq=>.inl hq)⟩}
 {
 have hlc:gR n E v u=5:=by unfold gR;rw[qD ⟨va,vb⟩,zD,zD,qC he]
 have hle:zW n E v u=E:=by unfold zW;rw[hlc];simp
 have Hlc:=qA (zI hlc hle);clear hlc hle;have hne:(vA n E v u != 1)=true:=bne_iff_ne.2 (fun e=>he (hd1.1 e));have HM2:=qA hM2;clear va vb hd1 he hM2;go_wp2
 go_ret;rw[Hlc.out.1,Hlc.out.2];exact⟨rfl,HM2.out,(hFa.mono (S' :=[pf,g]) (by simp)).trans hF2 (fun q hq=>.inl (by simp at hq;simp[hq]))⟩}}
 {
 have hlc:gR n E a b=3:=by {
 unfold gR;rw[qC];rintro⟨h1,h2⟩;rcases(show k=0∨k=1 by omega) with rfl|rfl
 · have hbad:inV n a=false:=hbad;rw[h1]at hbad;cases hbad
 · have hbad:inV n b=false:=hbad;rw[h2]at hbad;cases hbad};have hle:zW n E a b=E:=by unfold zW;rw[hlc];simp
 have Hlc:=qA (zI hlc hle);clear hlc hle hbad;go_wp2
 go_ret;rw[Hlc.out.1,Hlc.out.2];exact⟨rfl,HMa.out,hFa.mono (by simp)⟩}
end Go.Proofs.YtjdgpcjbgjnahaaGreatDoor
namespace Go.Proofs.YtjdgpcjbgjnahaaGreatDoor
open Classical
def TE(S:Nat)(G:bX)(T:Nat->Prop)(v u:Nat):Prop:=
  ∃s a b x,G s=some (a,b,x)/\T s/\((v=s/\(u=S+a∨u=S+b))∨(u=s/\(v=S+a∨v=S+b)))
section
variable {S:Nat} {G:bX} {T W:Nat->Prop} {a b:Nat} {p:List Nat}
theorem aQS{v u:Nat}(h:TE S G T v u):TE S G T u v:=by
 obtain⟨s,a,b,x,h1,h2,h3⟩:=h;exact⟨s,a,b,x,h1,h2,h3.symm⟩
theorem zX{T' :Nat->Prop}(ht:∀s,T s->T' s){v u:Nat}(h:TE S G T v u):TE S G T' v u:=by
 obtain⟨s,a,b,x,h1,h2,h3⟩:=h;exact⟨s,a,b,x,h1,ht s h2,h3⟩
theorem aCA(hS:∀s e,G s=some e->s<S):∀{l:List Nat} {v:Nat},Wk (TE S G T) v l->(∀y∈v::l,y<S->W y) ->
    ((S<=v->Cx G (fun t=>T t/\W t) a (v-S))/\(v<S->∃c d x,G v=some (c,d,x)/\Cx G (fun t=>T t/\W t) a c/\Cx G (fun t=>T t/\W t) a d)) ->
    ∀y∈v::l,(S<=y->Cx G (fun t=>T t/\W t) a (y-S))/\(y<S->∃c d x,G y=some (c,d,x)/\Cx G (fun t=>T t/\W t) a c/\Cx G (fun t=>T t/\W t) a d)
  | [],v,_,_,hv,y,hy=>by simp at hy;subst hy;exact hv
  | z::l,v,⟨h1,h2⟩,hW,hv,y,hy=>by
    rcases qB.1 hy with rfl|hy
    · exact hv
    refine aCA hS h2 (fun y hy=>hW y (by simp at hy ⊢;exact .inr hy)) ?_ y hy;obtain⟨s,c,d,x,hg,ht,h3⟩:=h1;have hs:=hS s _ hg;rcases h3 with⟨rfl,h3⟩|⟨rfl,h3⟩
    · obtain ⟨c', d', x', hg', h4, h5⟩ := hv.2 hs
      rw[hg]at hg'; simp only[qI,zE]at hg';obtain⟨rfl,rfl,rfl⟩:=hg';rcases h3 with rfl|rfl
      · exact⟨fun _=>by rw[Nat.add_sub_cancel_left];exact h4,fun e=>by omega⟩
      · exact⟨fun _=>by rw[Nat.add_sub_cancel_left];exact h5,fun e=>by omega⟩
    · have hw := hW z (by simp) hs
      have ed:Cx G (fun t=>T t/\W t) c d:=Cx.edge (s:=z) ⟨ht,hw⟩ hg;refine⟨fun e=>by omega,fun _=>⟨c,d,x,hg,?_⟩⟩;rcases h3 with rfl|rfl
      · have h4 := hv.1 (by omega)
        rw[Nat.add_sub_cancel_left]at h4;exact⟨h4,h4.trans ed⟩
      · have h4 := hv.1 (by omega)
        rw[Nat.add_sub_cancel_left]at h4;exact⟨h4.trans ed.symm,h4⟩
theorem aGU(hS:∀s e,G s=some e->s<S)(hp:bP (TE S G T) (S+a) (S+b) p)(hW:∀y∈p,y<S->W y):Cx G (fun t=>T t/\W t) a b:=by
 obtain⟨l,rfl,h2,_,h4⟩:=hp;have hb:S+b∈(S+a)::l:=List.mem_of_getLast? h4;have:=(aCA hS h2 hW ⟨fun _=>by rw[Nat.add_sub_cancel_left];exact .refl a,fun e=>by omega⟩ _ hb).1 (by omega);rw[Nat.add_sub_cancel_left]at this;exact this
theorem vC(_hS:∀s e,G s=some e->s<S)(hp:bP (TE S G T) (S+a) (S+b) p){m:Nat}(hm:m∈p)(hms:m<S):∃c d x,G m=some (c,d,x)/\T m:=by
 obtain⟨l,rfl,h2,_,h4⟩:=hp;have key:∀{l:List Nat} {v:Nat},Wk (TE S G T) v l->m∈l->∃c d x,G m=some (c,d,x)/\T m:=by {
 intro l;induction l with
 | nil=>intro v _ h;simp at h
 | cons z l ih=>{
 intro v ⟨h1,h2⟩ hm;rcases qB.1 hm with rfl|hm
 {
 obtain⟨s,c,d,x,hg,ht,h3⟩:=h1;rcases h3 with⟨_,h3⟩|⟨rfl,_⟩
 · omega
 · exact⟨c,d,x,hg,ht⟩}
 · exact ih h2 hm}};rcases qB.1 hm with rfl|hm
 · omega
 · exact key h2 hm
theorem aUK(hp:bP (TE S G T) (S+a) (S+b) p)(hS:∀s e,G s=some e->s<S)(hab:a≠b):∃s,s∈p/\s<S:=by
 obtain⟨l,rfl,h2,_,h4⟩:=hp;cases l with
 | nil=>simp at h4;exact absurd h4 hab
 | cons z l=>{
 refine⟨z,by simp,?_⟩;obtain⟨s,c,d,x,hg,_,h3⟩:=h2.1;have:=hS s _ hg;rcases h3 with⟨h3,_⟩|⟨rfl,_⟩
 · omega
 · exact this}
theorem tE(hf:Frs (TE S G T))(h:Cx G T a b):bV (TE S G T) (S+a) (S+b):=by
 induction h with
 | refl=>exact bV.refl _ _
 | @step c d s x _ h1 h2 ih=>{
 refine hf.ctrans ih ?_;rcases h2 with h2|h2
 · exact hf.ctrans (dX hf ⟨s,c,d,x,h2,h1,.inr ⟨rfl,.inl rfl⟩⟩) (dX hf ⟨s,c,d,x,h2,h1,.inl ⟨rfl,.inr rfl⟩⟩)
 · exact hf.ctrans (dX hf ⟨s,d,c,x,h2,h1,.inr ⟨rfl,.inr rfl⟩⟩) (dX hf ⟨s,d,c,x,h2,h1,.inl ⟨rfl,.inl rfl⟩⟩)}
theorem aUL(hS:∀s e,G s=some e->s<S)(hf:Frs (TE S G T)):bV (TE S G T) (S+a) (S+b)↔Cx G T a b:=
  ⟨fun⟨_,hp⟩=>(aGU (W:=fun _=>True) hS hp (fun _ _ _=>trivial)).mono (fun _ _ h _=>h.1),tE hf⟩
theorem aMV(hf:Frs (TE S G T)){m:Nat}(hf' :Frs (TE S G (fun t=>T t/\t≠m)))(hp:bP (TE S G T) (S+a) (S+b) p)(hm:m∈p)(hms:m<S):¬Cx G (fun t=>T t/\t≠m) a b:=by
 intro h;obtain⟨q,hq⟩:=tE hf' h;have e:=hf.unique hp (hq.mono (fun x y=>zX (fun s h=>h.1)));rw[e]at hm;obtain⟨l,rfl,h2,_,_⟩:=hq;have key:∀{l:List Nat} {v:Nat},Wk (TE S G (fun t=>T t/\t≠m)) v l->m∈l->False:=by {
 intro l;induction l with
 | nil=>intro v _ h;simp at h
 | cons z l ih=>{
 intro v ⟨h1,h2⟩ hm;rcases qB.1 hm with rfl|hm
 {
 obtain⟨s,c,d,x,hg,ht,h3⟩:=h1;rcases h3 with⟨_,h3⟩|⟨rfl,_⟩
 · omega
 · exact ht.2 rfl}
 · exact ih h2 hm}};rcases qB.1 hm with rfl|hm
 · omega
 · exact key h2 hm
theorem aUM{s:Nat}{x:Int}(hg:G s=some (a,b,x)):eD (eD (TE S G T) s (S+a)) s (S+b)=TE S G (fun t=>T t∨t=s):=by
 refine xK fun v u=>?_;unfold eD;constructor
 {
 rintro((h|⟨rfl,rfl⟩|⟨rfl,rfl⟩)|⟨rfl,rfl⟩|⟨rfl,rfl⟩)
 · exact zX (fun _=>.inl) h
 · exact⟨v,a,b,x,hg,.inr rfl,.inl ⟨rfl,.inl rfl⟩⟩
 · exact⟨u,a,b,x,hg,.inr rfl,.inr ⟨rfl,.inl rfl⟩⟩
 · exact⟨v,a,b,x,hg,.inr rfl,.inl ⟨rfl,.inr rfl⟩⟩
 · exact⟨u,a,b,x,hg,.inr rfl,.inr ⟨rfl,.inr rfl⟩⟩}
 {
 rintro⟨t,c,d,y,h1,h2|rfl,h3⟩
 · exact .inl (.inl ⟨t,c,d,y,h1,h2,h3⟩)
 {
 rw[hg]at h1;simp only[qI,zE]at h1;obtain⟨rfl,rfl,rfl⟩:=h1;rcases h3 with⟨rfl,rfl|rfl⟩|⟨rfl,rfl|rfl⟩<;>simp}}
theorem aUN(hS:∀s e,G s=some e->s<S){s:Nat}{x:Int}(hg:G s=some (a,b,x)):jA (jA (TE S G T) s (S+a)) s (S+b)=TE S G (fun t=>T t/\t≠s):=by
 have hs:=hS s _ hg;refine xK fun v u=>?_;unfold jA;constructor
 {
 rintro⟨⟨⟨t,c,d,y,h1,h2,h3⟩,n1,n2⟩,n3,n4⟩;refine⟨t,c,d,y,h1,⟨h2,?_⟩,h3⟩;rintro rfl;rw[hg]at h1;simp only[qI,zE]at h1;obtain⟨rfl,rfl,rfl⟩:=h1;rcases h3 with⟨rfl,rfl|rfl⟩|⟨rfl,rfl|rfl⟩
 · exact n1 ⟨rfl,rfl⟩
 · exact n3 ⟨rfl,rfl⟩
 · exact n2 ⟨rfl,rfl⟩
 · exact n4 ⟨rfl,rfl⟩}
 {
 rintro⟨t,c,d,y,h1,⟨h2,hne⟩,h3⟩;have ht:=hS t _ h1;exact⟨⟨⟨t,c,d,y,h1,h2,h3⟩,by omega,by omega⟩,by omega,by omega⟩}
theorem vD{G' :bX}{T' :Nat->Prop}(h1:∀s,T s↔T' s)(h2:∀s,T s->G s=G' s):TE S G T=TE S G' T' :=by
 refine xK fun v u=>?_;constructor
 {
 rintro⟨t,c,d,y,e1,e2,e3⟩;exact⟨t,c,d,y,by rw[<-h2 t e2];exact e1,(h1 t).1 e2,e3⟩}
 {
 rintro⟨t,c,d,y,e1,e2,e3⟩;have:=(h1 t).2 e2;exact⟨t,c,d,y,by rw[h2 t this];exact e1,this,e3⟩}
theorem aUO{s v:Nat}(hT:¬T s)(hs:s<S):¬TE S G T v s:=by
 rintro⟨t,c,d,y,h1,h2,⟨_,h3⟩|⟨rfl,_⟩⟩
 · omega
 · exact hT h2
theorem aCB{s v:Nat}(hT:¬T s)(hs:s<S)(hv:v≠s)(hf:Frs (TE S G T)):¬bV (TE S G T) s v:=by
 intro h;obtain⟨x,hx⟩:=aQQ (hf.csymm h) (fun e=>hv e);exact aUO hT hs hx
theorem aQT:TE S (fun _=>none) T=fun _ _=>False:=by
 refine xK fun v u=>?_;simp[TE]
end
structure GW (S V:Nat) (G:bX):Prop where
  slot:∀s e,G s=some e->s<S
  ends : ∀ s a b x, G s = some (a, b, x) -> a < V /\ b < V /\ a ≠ b
  rng:∀s a b x,G s=some (a,b,x)-> -9223372036854775808<=x/\x<=9223372036854775807
structure aTE (S V:Nat) (G:bX) (T:Nat->Prop) (key:Nat->Int):Prop where
  slot:∀s a b x,G s=some (a,b,x)->T s->key s=x
  vert:∀v,v<V->key (S+v)=9223372036854775807
section
variable {S V:Nat} {G:bX} {a b m:Nat} {p:List Nat} {key:Nat->Int}
theorem GW.no(S V:Nat):GW S V (fun _=>none):=⟨fun _ _ h=>(by cases h),fun _ _ _ _ h=>(by cases h),fun _ _ _ _ h=>(by cases h)⟩
theorem GW.put(h:GW S V G){s:Nat}{x:Int}(hs:s<S)(ha:a<V)(hb:b<V)(hab:a≠b)(hx:-9223372036854775808<=x/\x<=9223372036854775807):GW S V (bS G s (some (a,b,x))):=by
 have key:∀t e,bS G s (some (a,b,x)) t=some e->(t=s/\e=(a,b,x))∨G t=some e:=by {
 intro t e ht;by_cases h1:t=s
 · subst h1;rw[bE]at ht;cases ht;exact .inl ⟨rfl,rfl⟩
 · rw[aJ h1]at ht;exact .inr ht};refine⟨fun t e ht=>?_,fun t c d y ht=>?_,fun t c d y ht=>?_⟩
 {
 rcases key _ _ ht with⟨rfl,_⟩|h1
 · exact hs
 · exact h.slot _ _ h1}
 {
 rcases key _ _ ht with⟨rfl,e⟩|h1
 · cases e;exact⟨ha,hb,hab⟩
 · exact h.ends _ _ _ _ h1}
 {
 rcases key _ _ ht with⟨rfl,e⟩|h1
 · cases e;exact hx
 · exact h.rng _ _ _ _ h1}
theorem GW.del(h:GW S V G)(s:Nat):GW S V (bS G s none):=by
 have key:∀t e,bS G s none t=some e->G t=some e:=by {
 intro t e ht;by_cases h1:t=s
 · subst h1;rw[bE]at ht;cases ht
 · rw[aJ h1]at ht;exact ht};exact⟨fun t e ht=>h.slot _ _ (key _ _ ht),fun t c d y ht=>h.ends _ _ _ _ (key _ _ ht),fun t c d y ht=>h.rng _ _ _ _ (key _ _ ht)⟩
theorem vE(h:GW S V G)(hk:aTE S V G (aG G) key)(hp:bP (TE S G (aG G)) (S+a) (S+b) p)(hab:a≠b)(hf:tD key p m)(hn:∀x∈p,x<S+V):
    ∃ma mb y,m<S/\G m=some (ma,mb,y)/\aG G m/\Cx G (fun t=>aG G t/\(t=m∨Aft G m y t)) a b:=by
 have hms:m<S:=by {
 apply qQ;intro hms;obtain⟨s,hs,hsS⟩:=aUK hp h.slot hab;obtain⟨c,d,x,hg,ht⟩:=vC h.slot hp hs hsS;have h1:=hk.slot s c d x hg ht;have h2:=hk.vert (m-S) (by have:=hn m hf.1;omega);rw[show S+(m-S)=m by omega]at h2;have h3:=h.rng s c d x hg;rcases hf.2 s hs (by omega) with e|⟨_,e⟩<;>omega};obtain⟨ma,mb,y,hg,ht⟩:=vC h.slot hp hf.1 hms;refine⟨ma,mb,y,hms,hg,ht,aGU h.slot hp fun t htp htS=>?_⟩;by_cases e:t=m
 · exact .inl e
 obtain⟨c,d,x,hg', ht'⟩:=vC h.slot hp htp htS;have h1:=hk.slot t c d x hg' ht';have h2:=hk.slot m ma mb y hg ht;refine .inr ⟨c,d,x,hg', ?_⟩;rw[<-h1,<-h2];rcases hf.2 t htp e with e1|⟨e1,e2⟩
 · exact .inl e1
 · exact .inr ⟨e1,e2⟩
end
noncomputable def cF(S:Nat)(T:Nat->Prop):Nat:=((List.range S).filter fun s=>decide (T s)).length
theorem mU(S:Nat)(T:Nat->Prop):cF S T<=S:=by
 unfold cF;have:=List.length_filter_le (fun s=>decide (T s)) (List.range S);simpa using this
theorem dY{S:Nat}{T T' :Nat->Prop}(h:∀s,T s↔T' s):cF S T=cF S T' :=by
 have:T=T' :=funext fun s=>propext (h s);rw[this]
theorem pJ{S:Nat}{T T' :Nat->Prop}{m:Nat}(hm:m<S)(ht:T m)(hn:¬T' m)(h:∀x,x≠m->(T' x↔T x)):cF S T' + 1=cF S T:=by
 unfold cF;exact gW (P:=fun s=>decide (T s)) (P' :=fun s=>decide (T' s)) (m:=m) List.nodup_range (List.mem_range.2 hm) (by simp[ht]) (by simp[hn]) (fun x _ hx=>by simp[h x hx])
theorem iI{S:Nat}{T:Nat->Prop}{m:Nat}(hm:m<S)(ht:T m):cF S (fun t=>T t/\t≠m)+1=cF S T:=
  pJ hm ht (fun h=>h.2 rfl) (fun _ hx=>⟨fun h=>h.1,fun h=>⟨h,hx⟩⟩)
theorem aMW{S:Nat}{T:Nat->Prop}{m:Nat}(hm:m<S)(ht:¬T m):cF S (fun t=>T t∨t=m)=cF S T+1:=by
 have:=iI (T:=fun t=>T t∨t=m) hm (.inr rfl);rw[<-this,dY (T:=fun t=>(T t∨t=m)/\t≠m) (T' :=T)];intro s;constructor
 {
 rintro⟨h|h,h2⟩
 · exact h
 · exact absurd h h2}
 {
 intro h;exact⟨.inl h,by rintro rfl;exact ht h⟩}
theorem rP(S:Nat):cF S (fun _=>False)=0:=by simp[cF]
end Go.Proofs.YtjdgpcjbgjnahaaGreatDoor
