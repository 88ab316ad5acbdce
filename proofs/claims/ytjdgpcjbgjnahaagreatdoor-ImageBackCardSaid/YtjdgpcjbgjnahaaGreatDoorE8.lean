/- The heap: New. -/
import Derived.Test.YtjdgpcjbgjnahaaGreatDoorE7
import Derived.Test.YtjdgpcjbgjnahaaGreatDoorE5
import Derived.Test.YtjdgpcjbgjnahaaGreatDoorE1
import Derived.Deep.RegionHeld3
import Derived.Test.YtjdgpcjbgjnahaaGreatDoorE4
import Derived.StillTailTactics
import Derived.Deep.Upon
import Derived.Deep.RegionLaw
set_option maxRecDepth 10000
set_option maxHeartbeats 800000
set_option linter.unusedSimpArgs false
set_option linter.unusedVariables false
/- forest: how many vertices, slots and classes the tree edges have. -/
namespace Go.Proofs.YtjdgpcjbgjnahaaGreatDoor
open Classical
def xM(G:bX)(T:Nat->Prop):Prop:=∀m c d x,T m->G m=some (c,d,x)->¬Cx G (fun t=>T t/\t≠m) c d
section
variable {S V:Nat} {G:bX} {T T' U:Nat->Prop} {a b c d m:Nat} {x y:Int}
theorem xM.sub(h:xM G T)(hs:∀t,T' t->T t):xM G T' :=fun m c d x h1 h2 h3=>
  h m c d x (hs m h1) h2 (h3.mono fun t _ ht _=>⟨hs t ht.1,ht.2⟩)
theorem aJG{P Q:Nat->Prop}(S:Nat)(h:∀s,P s->Q s):cF S P<=cF S Q:=by
 unfold cF;generalize List.range S=l;induction l with
 | nil=>simp
 | cons v l ih=>{
 by_cases h1:P v
 {
 have h2:=h v h1;simp[h1,h2];exact ih}
 {
 by_cases h2:Q v
 · simp[h1,h2];omega
 · simp[h1,h2];exact ih}}
theorem lS{P:Nat->Prop}{S:Nat}(h:cF S P=0):∀s,s<S->¬P s:=by
 intro s hs hp;unfold cF at h;have h1:s∈(List.range S).filter fun s=>decide (P s):=zA.2 ⟨List.mem_range.2 hs,by simp[hp]⟩;rw[List.length_eq_zero_iff.1 h]at h1;simp at h1
theorem aCC(hS:∀s e,G s=some e->s<S):∀(k:Nat) (P:Nat->Prop),cF S P<=k->(∀s,P s->∃e,G s=some e)->(∃s,P s)->∃s a b x,P s/\G s=some (a,b,x)/\∀t,P t->t≠s->Aft G s x t:=by
 intro k;induction k with
 | zero=>{
 rintro P hk hg ⟨s,hs⟩;obtain⟨e,he⟩:=hg s hs;exact absurd hs (lS (by omega) s (hS s e he))}
 | succ k ih=>{
 rintro P hk hg ⟨s,hs⟩;obtain⟨⟨a,b,x⟩,he⟩:=hg s hs;by_cases hne:∃t,P t/\t≠s
 {
 have hd:=iI (T:=P) (hS s _ he) hs;obtain⟨u,c,d,y,⟨hu,hus⟩,hgu,hall⟩:=ih (fun t=>P t/\t≠s) (by omega) (fun t ht=>hg t ht.1) hne;by_cases hb:bef x s y u
 {
 refine⟨s,a,b,x,hs,he,fun t ht hts=>?_⟩;by_cases htu:t=u
 · subst htu;exact⟨c,d,y,hgu,hb⟩
 {
 obtain⟨e1,e2,z,h1,h2⟩:=hall t ⟨ht,hts⟩ htu;exact⟨e1,e2,z,h1,fL hb h2⟩}}
 {
 refine⟨u,c,d,y,hu,hgu,fun t ht htu=>?_⟩;by_cases hts:t=s
 · subst hts;exact⟨a,b,x,he,zP (fun e=>htu e) hb⟩
 · exact hall t ⟨ht,hts⟩ htu}}
 · refine⟨s,a,b,x,hs,he,fun t ht hts=>absurd ⟨t,ht,hts⟩ hne⟩}
theorem aJH(hS:∀s e,G s=some e->s<S):∀(k:Nat) (T:Nat->Prop),cF S T<=k->(∀t,T t->aG G t)->xM G T:=by
 intro k;induction k with
 | zero=>{
 intro T hk hT m c d x hm hg _;exact lS (by omega) m (hS m _ hg) hm}
 | succ k ih=>{
 intro T hk hT m c d x hm hg hc;obtain⟨s,a,b,z,hs,hgs,hall⟩:=aCC hS (k+1) T hk (fun t ht=>by obtain⟨_,_,_,h,_⟩:=hT t ht;exact⟨_,h⟩) ⟨m,hm⟩;have hd:=iI (T:=T) (hS s _ hgs) hs;have I:=ih (fun t=>T t/\t≠s) (by omega) (fun t ht=>hT t ht.1);obtain⟨a', b', z', hgs', hnc⟩:=hT s hs;rw[hgs]at hgs'; simp only[qI,zE]at hgs';obtain⟨rfl,rfl,rfl⟩:=hgs';have lift:∀{p q:Nat},Cx G (fun t=>T t/\t≠s) p q->Cx G (Aft G s z) p q:=fun h=>h.mono fun t _ ht _=>hall t ht.1 ht.2;by_cases hms:m=s
 {
 subst hms;rw[hg]at hgs;simp only[qI,zE]at hgs;obtain⟨rfl,rfl,rfl⟩:=hgs;exact hnc (lift hc)}
 {
 have ed:Cx G (fun t=>T t/\t≠s) c d:=Cx.edge (s:=m) ⟨hm,hms⟩ hg;have wk:∀{p q:Nat},Cx G (fun t=>(T t/\t≠s)/\t≠m) p q->Cx G (fun t=>T t/\t≠s) p q:=fun h=>h.mono fun t _ ht _=>ht.1;rcases hc.more (U' :=fun t=>(T t/\t≠s)/\t≠m) (s:=s) (fun u hu=>if e:u=s then .inr e else .inl ⟨⟨hu.1,e⟩,hu.2⟩) hgs with h|⟨h1,h2⟩|⟨h1,h2⟩
 · exact I m c d x ⟨hm,hms⟩ hg h
 · exact hnc (lift (((wk h1).symm.trans ed).trans (wk h2).symm))
 · exact hnc (lift (((wk h2).trans ed.symm).trans (wk h1)))}}
theorem aEY(hS:∀s e,G s=some e->s<S):xM G (aG G):=aJH hS _ _ (qK _) (fun _ h=>h)
theorem aQU(hg:G m=some (c,d,x))(hm:T m)(p q:Nat):Cx G T p q↔Cx G (fun t=>T t/\t≠m) p q∨(Cx G (fun t=>T t/\t≠m) p c/\Cx G (fun t=>T t/\t≠m) d q)∨(Cx G (fun t=>T t/\t≠m) p d/\Cx G (fun t=>T t/\t≠m) c q):=by
 constructor
 {
 intro h;exact h.more (fun u hu=>if e:u=m then .inr e else .inl ⟨hu,e⟩) hg}
 {
 have wk:∀{p q:Nat},Cx G (fun t=>T t/\t≠m) p q->Cx G T p q:=fun h=>h.mono fun t _ ht _=>ht.1;have ed:Cx G T c d:=Cx.edge (s:=m) hm hg;rintro(h|⟨h1,h2⟩|⟨h1,h2⟩)
 · exact wk h
 · exact((wk h1).trans ed).trans (wk h2)
 · exact((wk h1).trans ed.symm).trans (wk h2)}
def pK(G:bX)(T:Nat->Prop)(v:Nat):Prop:=∀u,u<v->¬Cx G T v u
theorem aJI(hc:c<V)(hd:d<V)(hg:G m=some (c,d,x))(hm:T m)(hn:¬Cx G (fun t=>T t/\t≠m) c d):cF V (pK G T)+1=cF V (pK G fun t=>T t/\t≠m):=by
 have hcx:=fun p q=>aQU hg hm p q;generalize hR:(fun p q=>Cx G (fun t=>T t/\t≠m) p q)=R at *;have tr:∀{p q r},R p q->R q r->R p r:=by rw[<-hR];intro p q r h1 h2;exact Cx.trans h1 h2
 have sy:∀{p q},R p q->R q p:=by rw[<-hR];intro p q h1;exact Cx.symm h1
 have rf:∀p,R p p:=by rw[<-hR];intro p;exact .refl p
 have eR:∀p q,Cx G (fun t=>T t/\t≠m) p q↔R p q:=by rw[<-hR];intro p q;exact Iff.rfl
 simp only[eR]at hcx hn;have eL:cF V (pK G fun t=>T t/\t≠m)=cF V (fun v=>∀u,u<v->¬R v u):=dY fun v=>by unfold pK;simp only[eR]
 have eL' :cF V (pK G T)=cF V (fun v=>∀u,u<v->¬(R v u∨(R v c/\R d u)∨(R v d/\R c u))):=dY fun v=>by unfold pK;simp only[hcx]
 rw[eL,eL'];clear eL eL' eR hcx hR;have key:∀{a b fa fb:Nat},fa<fb->R a fa->R b fb->(∀u,u<fa->¬R fa u)->(∀u,u<fb->¬R fb u)->b<V->fb<=b->cF V (fun v=>∀u,u<v->¬(R v u∨(R v a/\R b u)∨(R v b/\R a u)))+1=cF V (fun v=>∀u,u<v->¬R v u):=by {
 intro a b fa fb hlt hca hcb hfa hfb hbn hfbb;refine pJ (m:=fb) (by omega) hfb ?_ ?_
 {
 intro hf;exact hf fa hlt (.inr (.inr ⟨sy hcb,hca⟩))}
 {
 intro v hv;refine⟨fun hf u hu hc=>hf u hu (.inl hc),fun hf u hu hc=>?_⟩;rcases hc with e|⟨e1,e2⟩|⟨e1,e2⟩
 · exact hf u hu e
 {
 have hxfa:R v fa:=tr e1 hca;have h1:v=fa:=by {
 rcases Nat.lt_trichotomy v fa with q|q|q
 · exact absurd (sy hxfa) (hfa v q)
 · exact q
 · exact absurd hxfa (hf fa q)};have:¬u<fb:=fun q=>hfb u q (tr (sy hcb) e2);omega}
 {
 have hxfb:R v fb:=tr e1 hcb;rcases Nat.lt_trichotomy v fb with q|q|q
 · exact absurd (sy hxfb) (hfb v q)
 · exact absurd q hv
 · exact absurd hxfb (hf fb q)}}};obtain⟨fa,ha1,ha2,ha3⟩:=pG (P:=fun k=>R c k) (rf c);obtain⟨fb,hb1,hb2,hb3⟩:=pG (P:=fun k=>R d k) (rf d);have hne:fa≠fb:=by rintro rfl;exact hn (tr ha2 (sy hb2))
 have hfa:∀u,u<fa->¬R fa u:=fun k hk hc=>ha3 k hk (tr ha2 hc);have hfb:∀u,u<fb->¬R fb u:=fun k hk hc=>hb3 k hk (tr hb2 hc);rcases Nat.lt_or_gt_of_ne hne with q|q
 · exact key q ha2 hb2 hfa hfb hd hb1
 {
 rw[<-key q hb2 ha2 hfb hfa hc ha1];congr 1
 exact dY fun v=>⟨fun h u hu e=>h u hu (e.elim .inl (fun e=>e.elim (fun e=>.inr (.inr e)) (fun e=>.inr (.inl e)))),fun h u hu e=>h u hu (e.elim .inl (fun e=>e.elim (fun e=>.inr (.inr e)) (fun e=>.inr (.inl e))))⟩}
theorem aMX(hG:GW S V G):∀(k:Nat) (T:Nat->Prop),cF S T<=k->(∀t,T t->∃e,G t=some e)->xM G T->cF V (pK G T)+cF S T=V:=by
 have all:cF V (fun _=>True)=V:=by {
 unfold cF;rw[List.filter_eq_self.2 (fun _ _=>by simp),List.length_range]};intro k;induction k with
 | zero=>{
 intro T hk hT hI;have h0:∀s,¬T s:=fun s hs=>by obtain⟨e,he⟩:=hT s hs;exact lS (by omega) s (hG.slot s e he) hs
 have:cF V (pK G T)=V:=by {
 refine(dY (T' :=fun _=>True) (fun v=>⟨fun _=>trivial,fun _ u hu hc=>?_⟩)).trans all;cases hc with
 | refl=>exact absurd hu (Nat.lt_irrefl _)
 | step s x _ h1 _=>exact h0 s h1};omega}
 | succ k ih=>{
 intro T hk hT hI;by_cases hm:∃m,T m
 {
 obtain⟨m,hm⟩:=hm;obtain⟨⟨c,d,x⟩,hg⟩:=hT m hm;have hd:=iI (T:=T) (hG.slot m _ hg) hm;have hen:=hG.ends m c d x hg;have:=aJI hen.1 hen.2.1 hg hm (hI m c d x hm hg);have:=ih (fun t=>T t/\t≠m) (by omega) (fun t ht=>hT t ht.1) (hI.sub fun t ht=>ht.1);omega}
 {
 have h0:∀s,¬T s:=fun s hs=>hm ⟨s,hs⟩;exact ih T (by rw[dY (T' :=fun _=>False) (fun s=>⟨fun h=>h0 s h,fun h=>h.elim⟩),rP];omega) hT hI}}
theorem aJJ(hG:GW S V G):cF V (pK G (aG G))+cF S (aG G)=V:=
  aMX hG _ _ (qK _) (fun _t ⟨_a,_b,_x,h,_⟩=>⟨_,h⟩) (aEY hG.slot)
theorem Frs.sub{E E' :Nat->Nat->Prop}(h:Frs E)(hs:∀v u,E' v u->E v u)(sy:∀v u,E' v u->E' u v):Frs E' :=by
 obtain⟨par,d,rt,hR,hE⟩:=h;have hp:∀x,(if x≠0/\par x≠0/\E' (x-1) (par x-1) then par x else 0)≠0->(if x≠0/\par x≠0/\E' (x-1) (par x-1) then par x else 0)=par x/\par x≠0/\E' (x-1) (par x-1):=by {
 intro x hx;by_cases h:x≠0/\par x≠0/\E' (x-1) (par x-1)
 · exact⟨qD h,h.2.1,h.2.2⟩
 · exact absurd (qC h) hx};obtain⟨rt', hR'⟩:=aSY (par:=fun x=>if x≠0/\par x≠0/\E' (x-1) (par x-1) then par x else 0) (d:=d) (fun x hx=>by
   have:=hp x hx;show d (if x≠0/\par x≠0/\E' (x-1) (par x-1) then par x else 0)<d x
   rw[this.1];exact hR.dep x this.2.1)
 refine⟨_,d,rt', hR', fun v u=>⟨fun e=>?_,fun e=>?_⟩⟩
 {
 obtain⟨h1,h2,h3⟩:=(hE v u).1 (hs v u e);refine⟨h1,h2,h3.imp (fun q=>?_) (fun q=>?_)⟩
 {
 show(if v+1≠0/\par (v+1)≠0/\E' (v+1-1) (par (v+1)-1) then par (v+1) else 0)=u+1
 rw[q,qD ⟨by omega,by omega,by simpa using e⟩]}
 {
 show(if u+1≠0/\par (u+1)≠0/\E' (u+1-1) (par (u+1)-1) then par (u+1) else 0)=v+1
 rw[q,qD ⟨by omega,by omega,by simpa using sy _ _ e⟩]}}
 {
 obtain⟨h1,h2,h3⟩:=e;rcases h3 with q|q
 {
 have:=hp (v+1) (by show(if v+1≠0/\par (v+1)≠0/\E' (v+1-1) (par (v+1)-1) then par (v+1) else 0)≠0;rw[show(if v+1≠0/\par (v+1)≠0/\E' (v+1-1) (par (v+1)-1) then par (v+1) else 0)=u+1 from q];omega);have e1:par (v+1)=u+1:=this.1.symm.trans q;have:=this.2.2;rw[e1]at this;simpa using this}
 {
 have:=hp (u+1) (by show(if u+1≠0/\par (u+1)≠0/\E' (u+1-1) (par (u+1)-1) then par (u+1) else 0)≠0;rw[show(if u+1≠0/\par (u+1)≠0/\E' (u+1-1) (par (u+1)-1) then par (u+1) else 0)=v+1 from q];omega);have e1:par (u+1)=v+1:=this.1.symm.trans q;have:=this.2.2;rw[e1]at this;exact sy _ _ (by simpa using this)}}
theorem aMY(h:Frs (TE S G T))(hs:∀t,T' t->T t):Frs (TE S G T'):=h.sub (fun _ _=>zX hs) (fun _ _=>aQS)
def kG(G:bX)(r:Int)(t:Nat):Prop:=∃a b x,G t=some (a,b,x)/\r<=x
def oK(G:bX)(r:Int)(t:Nat):Prop:=∃a b x,G t=some (a,b,x)/\r<x
def dZ(G:bX)(a b:Nat)(r:Int):Prop:=Cx G (kG G r) a b/\¬Cx G (oK G r) a b
theorem aJK{r r' :Int}(h:dZ G a b r)(h' :dZ G a b r'):r=r' :=by
 have key:∀{r r' :Int},dZ G a b r->dZ G a b r' -> ¬r<r' :=fun h h' hlt=>
   h.2 (h'.1.mono fun t _ ⟨c,d,x,h1,h2⟩ _=>⟨c,d,x,h1,by omega⟩)
 have:=key h h';have:=key h' h;omega
theorem aCD{ma mb:Nat}(hS:∀s e,G s=some e->s<S)(hm:G m=some (ma,mb,y))(hc:Cx G (fun t=>aG G t/\(t=m∨Aft G m y t)) a b)(hn:¬Cx G (fun t=>aG G t/\t≠m) a b):dZ G a b y:=by
 refine⟨hc.mono fun t _ ht _=>?_,fun h=>?_⟩
 {
 rcases ht.2 with rfl|⟨c,d,z,h1,h2⟩
 · exact⟨ma,mb,y,hm,Int.le_refl _⟩
 · exact⟨c,d,z,h1,by unfold bef at h2;omega⟩}
 {
 have hu:Upw G (oK G y):=by {
 rintro t c d z u ⟨c', d', z', h1,h2⟩ h3 ⟨e,f,v,h4,h5⟩;rw[h3]at h1;simp only[qI,zE]at h1;obtain⟨_,_,rfl⟩:=h1;exact⟨e,f,v,h4,by unfold bef at h5;omega⟩};refine hn ((kru hS hu h).mono fun t _ ht _=>⟨ht.2,?_⟩);rintro rfl;obtain⟨_,_,z,h1,h2⟩:=ht.1;rw[hm]at h1;simp only[qI,zE]at h1;omega}
noncomputable def vF(G:bX)(a b:Nat):Int:=if h:∃r,dZ G a b r then Classical.choose h else 0
theorem xN{r:Int}(h:dZ G a b r):vF G a b=r:=by
 have hx:∃r,dZ G a b r:=⟨r,h⟩;unfold vF;rw[dif_pos hx];exact aJK (Classical.choose_spec hx) h
def xO(G:bX)(m:Nat):Prop:=∃a b x,G m=some (a,b,x)/\∀t c d z,G t=some (c,d,z)->¬bef z t x m
theorem aQV{m' :Nat}(h:xO G m)(h' :xO G m'):m=m' :=by
 obtain⟨a,b,x,h1,h2⟩:=h;obtain⟨a', b', x', h1', h2'⟩:=h';have:=h2 m' a' b' x' h1';have:=h2' m a b x h1;unfold bef at *;omega
noncomputable def pM(G:bX):Option Nat:=if h:∃m,xO G m then some (Classical.choose h) else none
theorem aGV(h:xO G m):pM G=some m:=by
 have hx:∃m,xO G m:=⟨m,h⟩;unfold pM;rw[dif_pos hx];exact congrArg some (aQV (Classical.choose_spec hx) h)
theorem aJL(h:∀s,G s=none):pM G=none:=by
 unfold pM;rw[dif_neg];rintro⟨m,a,b,x,h1,_⟩;rw[h m]at h1;cases h1
noncomputable def wN(G:bX):bX:=match pM G with
  | none=>G
  | some m=>bS G m none
end
end Go.Proofs.YtjdgpcjbgjnahaaGreatDoor
namespace Go.Proofs.YtjdgpcjbgjnahaaGreatDoor
open Go.RowKit
section
variable {s:Sm} {Q:Nat->Option Int} {G:Nat->Option (Nat×Nat×Int)} {i:Nat} {x:Int}
theorem aQW(hl:Lk s Q G)(hok:s.Ok)(hq:Q i=some x)(hm:∀j y,Q j=some y->¬(y<x∨(y=x/\j<i))):xO G i:=by
 obtain⟨e,he,hs,hx⟩:=(hl.q i x).1 hq;obtain⟨a,ha⟩:=qV.1 (fS hok he (x:=e.u) (by simp[Lv.at]));obtain⟨b,hb⟩:=qV.1 (fS hok he (x:=e.v) (by simp[Lv.at]));refine⟨a,b,x,(hl.g i a b x).2 ⟨e,he,hs,ha,hb,hx⟩,fun t c d z ht hbef=>?_⟩;obtain⟨e', he', hs', _,_,hx'⟩:=(hl.g t c d z).1 ht;exact hm t z ((hl.q t z).2 ⟨e', he', hs', hx'⟩) hbef
theorem aQX(hl:Lk s Q G)(hok:s.Ok)(hq:Q i=some x)(hm:∀j y,Q j=some y->¬(y<x∨(y=x/\j<i))):pM G=some i/\wN G=fun j=>if j=i then none else G j:=by
 have h1:=aGV (aQW hl hok hq hm);refine⟨h1,?_⟩;unfold wN;rw[h1];rfl
end
end Go.Proofs.YtjdgpcjbgjnahaaGreatDoor
namespace Go.Proofs.YtjdgpcjbgjnahaaGreatDoor
def elt(a b:Nat×Int):Prop:=a.2<b.2∨(a.2=b.2/\a.1<b.1)
instance (a b:Nat×Int):Decidable (elt a b):=by unfold elt;exact inferInstance
theorem kH(a:Nat×Int):¬elt a a:=by unfold elt;omega
theorem rQ{a b c:Nat×Int}(h:elt a b)(k:elt b c):elt a c:=by unfold elt at *;omega
theorem oL{a b c:Nat×Int}(h:¬elt a b)(k:¬elt b c):¬elt a c:=by unfold elt at *;omega
theorem rR{a b:Nat×Int}(h:elt a b):¬elt b a:=by unfold elt at *;omega
def gX(e:Nat->Nat×Int)(p q:Nat):Nat->Nat×Int:=fun x=>if x=p then e q else if x=q then e p else e x
theorem fH(e:Nat->Nat×Int)(p q:Nat):gX e p q p=e q:=by simp[gX]
theorem kI(e:Nat->Nat×Int)(p q:Nat):gX e p q q=e p:=by
 unfold gX;split
 · rename_i h;rw[h]
 · simp
theorem eJ{e:Nat->Nat×Int}{p q x:Nat}(h1:x≠p)(h2:x≠q):gX e p q x=e x:=by simp[gX,h1,h2]
theorem aMZ{e:Nat->Nat×Int}{n p q:Nat}(hp:p<n)(hq:q<n)(y:Nat×Int):(∃x,x<n/\gX e p q x=y)↔∃x,x<n/\e x=y:=by
 constructor
 {
 rintro⟨x,hx,rfl⟩;by_cases h1:x=p
 · exact⟨q,hq,by rw[h1,fH]⟩
 {
 by_cases h2:x=q
 · exact⟨p,hp,by rw[h2,kI]⟩
 · exact⟨x,hx,by rw[eJ h1 h2]⟩}}
 {
 rintro⟨x,hx,rfl⟩;by_cases h1:x=p
 · exact⟨q,hq,by rw[h1,kI]⟩
 {
 by_cases h2:x=q
 · exact⟨p,hp,by rw[h2,fH]⟩
 · exact⟨x,hx,eJ h1 h2⟩}}
def lU(e:Nat->Nat×Int)(n:Nat)(x:Nat×Int):Nat->Nat×Int:=fun k=>if k=n then x else e k
theorem fM(e:Nat->Nat×Int)(n:Nat)(x:Nat×Int):lU e n x n=x:=by simp[lU]
theorem dJ{e:Nat->Nat×Int}{n k:Nat}{x:Nat×Int}(h:k≠n):lU e n x k=e k:=by simp[lU,h]
section
variable {n p:Nat} {e:Nat->Nat×Int}
def Hp(n:Nat)(e:Nat->Nat×Int):Prop:=∀k,0<k->k<n->¬elt (e k) (e ((k-1)/2))
def UpI(n:Nat)(e:Nat->Nat×Int)(p:Nat):Prop:=
  (∀k,0<k->k<n->k≠p->¬elt (e k) (e ((k-1)/2)))/\(0<p->∀c,0<c->c<n->(c-1)/2=p->¬elt (e c) (e ((p-1)/2)))
def DnI(n:Nat)(e:Nat->Nat×Int)(p:Nat):Prop:=
  (∀k,0<k->k<n->(k-1)/2≠p->¬elt (e k) (e ((k-1)/2)))/\(0<p->∀c,0<c->c<n->(c-1)/2=p->¬elt (e c) (e ((p-1)/2)))
theorem aQY(h:UpI n e p)(hd:¬(0<p/\elt (e p) (e ((p-1)/2)))):Hp n e:=by
 intro k h0 hk;by_cases hkp:k=p
 · subst hkp;exact fun he=>hd ⟨h0,he⟩
 · exact h.1 k h0 hk hkp
theorem aQZ(h:UpI n e p)(h0:0<p)(hp:p<n)(he:elt (e p) (e ((p-1)/2))):UpI n (gX e p ((p-1)/2)) ((p-1)/2):=by
 obtain⟨q,hq⟩:∃q,q=(p-1)/2:=⟨_,rfl⟩;rw[<-hq]at he ⊢;have hqp:q<p:=by omega
 constructor
 {
 intro k hk0 hk hkq;by_cases hkp:k=p
 {
 subst hkp;rw[<-hq,fH,kI];exact rR he}
 {
 rw[eJ hkp hkq];by_cases e1:(k-1)/2=p
 {
 rw[e1,fH];have:=h.2 h0 k hk0 hk e1;rw[<-hq]at this;exact this}
 {
 by_cases e2:(k-1)/2=q
 {
 rw[e2,kI];have h1:=h.1 k hk0 hk hkp;rw[e2]at h1;exact fun hl=>h1 (rQ hl he)}
 · rw[eJ e1 e2];exact h.1 k hk0 hk hkp}}}
 {
 intro hq0 c hc0 hc hcq;have hn:(q-1)/2≠p:=by omega
 have hn2:(q-1)/2≠q:=by omega
 rw[eJ hn hn2];have hqq:=h.1 q hq0 (by omega) (by omega);by_cases hcp:c=p
 · subst hcp;rw[fH];exact hqq
 {
 rw[eJ hcp (by omega)];have h1:=h.1 c hc0 hc hcp;rw[hcq]at h1;exact oL h1 hqq}}
theorem aRA(h:Hp n e)(x:Nat×Int):UpI (n+1) (lU e n x) n:=by
 constructor
 {
 intro k h0 hk hkn;rw[dJ hkn,dJ (by omega)];exact h k h0 (by omega)}
 {
 intro _ c hc0 hc hcn;omega}
def aCE(n:Nat)(e:Nat->Nat×Int)(p:Nat):Nat:=if 2*p+1<n/\elt (e (2*p+1)) (e p) then 2*p+1 else p
def blw(n:Nat)(e:Nat->Nat×Int)(p:Nat):Nat:=if 2*p+2<n/\elt (e (2*p+2)) (e (aCE n e p)) then 2*p+2 else aCE n e p
theorem xP(n:Nat)(e:Nat->Nat×Int)(p:Nat):blw n e p=p∨(blw n e p<n/\(blw n e p=2*p+1∨blw n e p=2*p+2)/\elt (e (blw n e p)) (e p)):=by
 unfold blw aCE;by_cases h1:2*p+1<n/\elt (e (2*p+1)) (e p)
 {
 rw[qD h1];by_cases h2:2*p+2<n/\elt (e (2*p+2)) (e (2*p+1))
 · rw[qD h2];exact .inr ⟨h2.1,.inr rfl,rQ h2.2 h1.2⟩
 · rw[qC h2];exact .inr ⟨h1.1,.inl rfl,h1.2⟩}
 {
 rw[qC h1];by_cases h2:2*p+2<n/\elt (e (2*p+2)) (e p)
 · rw[qD h2];exact .inr ⟨h2.1,.inr rfl,h2.2⟩
 · rw[qC h2];exact .inl rfl}
theorem xQ(n:Nat)(e:Nat->Nat×Int)(p:Nat){c:Nat}(hc:c<n)(h:c=2*p+1∨c=2*p+2):¬elt (e c) (e (blw n e p)):=by
 unfold blw aCE;by_cases h1:2*p+1<n/\elt (e (2*p+1)) (e p)
 {
 rw[qD h1];by_cases h2:2*p+2<n/\elt (e (2*p+2)) (e (2*p+1))
 {
 rw[qD h2];rcases h with rfl|rfl
 · exact rR h2.2
 · exact kH _}
 {
 rw[qC h2];rcases h with rfl|rfl
 · exact kH _
 · exact fun hl=>h2 ⟨hc,hl⟩}}
 {
 rw[qC h1];by_cases h2:2*p+2<n/\elt (e (2*p+2)) (e p)
 {
 rw[qD h2];rcases h with rfl|rfl
 · exact fun hl=>h1 ⟨hc,rQ hl h2.2⟩
 · exact kH _}
 {
 rw[qC h2];rcases h with rfl|rfl
 · exact fun hl=>h1 ⟨hc,hl⟩
 · exact fun hl=>h2 ⟨hc,hl⟩}}
theorem aRB(h:DnI n e p)(hd:blw n e p=p):Hp n e:=by
 intro k h0 hk;by_cases hkp:(k-1)/2=p
 {
 have:=xQ n e p hk (by omega);rw[hd]at this;rw[hkp];exact this}
 · exact h.1 k h0 hk hkp
theorem aRC(h:DnI n e p)(hd:blw n e p≠p):DnI n (gX e p (blw n e p)) (blw n e p)/\p<blw n e p/\blw n e p<n:=by
 obtain⟨hbn,hb2,hbe⟩:=(xP n e p).resolve_left hd;have hl:=fun {c:Nat} (hc:c<n) (hh:c=2*p+1∨c=2*p+2)=>xQ n e p hc hh;generalize blw n e p=b at *;refine⟨⟨?_,?_⟩,by omega,hbn⟩
 {
 intro k hk0 hk hkb;by_cases hkp:k=p
 {
 subst hkp;rw[fH,eJ (by omega) (by omega)];exact h.2 hk0 b (by omega) hbn (by omega)}
 {
 by_cases hkb2:k=b
 {
 subst hkb2;rw[kI,show(k-1)/2=p by omega,fH];exact rR hbe}
 {
 rw[eJ hkp hkb2];by_cases e1:(k-1)/2=p
 · rw[e1,fH];exact hl hk (by omega)
 · rw[eJ e1 hkb];exact h.1 k hk0 hk e1}}}
 {
 intro _ c hc0 hc hcb;rw[eJ (by omega) (by omega),show(b-1)/2=p by omega,fH];have:=h.1 c hc0 hc (by omega);rw[hcb]at this;exact this}
theorem aUP(h:Hp (n+1) e):DnI n (gX e 0 n) 0:=by
 refine⟨fun k hk0 hk hkp=>?_,fun h0=>absurd h0 (Nat.lt_irrefl _)⟩;rw[eJ (by omega) (by omega),eJ hkp (by omega)];exact h k hk0 (by omega)
theorem aNA(h:Hp n e):∀k,k<n->¬elt (e k) (e 0):=by
 intro k;induction k using Nat.strongRecOn with
 | _ k ih=>{
 intro hk;by_cases h0:k=0
 · subst h0;exact kH _
 · exact oL (h k (by omega) hk) (ih ((k-1)/2) (by omega) (by omega))}
end
structure kJ (slots n:Nat) (e:Nat->Nat×Int) (pl:Nat->Nat):Prop where
  lt:∀p,p<n->(e p).1<slots
  at_:∀p,p<n->pl (e p).1=p+1
  inv:∀i,pl i≠0->∃p,p<n/\(e p).1=i
section
variable {slots n p q:Nat} {e:Nat->Nat×Int} {pl:Nat->Nat}
def kK(pl:Nat->Nat)(i x:Nat):Nat->Nat:=fun k=>if k=i then x else pl k
theorem jP(pl:Nat->Nat)(i x:Nat):kK pl i x i=x:=by simp[kK]
theorem cS{pl:Nat->Nat}{i x k:Nat}(h:k≠i):kK pl i x k=pl k:=by simp[kK,h]
theorem kJ.inj(h:kJ slots n e pl)(hp:p<n)(hq:q<n)(he:(e p).1=(e q).1):p=q:=by
 have h1:=h.at_ p hp;have h2:=h.at_ q hq;rw[he,h2]at h1;omega
theorem kJ.le(h:kJ slots n e pl):n<=slots:=by
 have hnd:((List.range n).map fun p=>(e p).1).Nodup:=by {
 rw[List.nodup_iff_pairwise_ne,List.pairwise_map];refine(List.nodup_range (n:=n)).imp_of_mem (fun {a b} ha hb hne he=>hne ?_);exact h.inj (by simpa using ha) (by simpa using hb) he};have hp:((List.range slots).filter fun i=>decide (i∈(List.range n).map fun p=>(e p).1)).Perm ((List.range n).map fun p=>(e p).1):=by {
 rw[List.perm_ext_iff_of_nodup (List.filter_sublist.nodup List.nodup_range) hnd];intro i;simp only[zA,List.mem_range,decide_eq_true_eq,and_iff_right_iff_imp,qW];rintro⟨p,hp,rfl⟩;exact h.lt p hp};have h1:=hp.length_eq;have h2:=List.length_filter_le (fun i=>decide (i∈(List.range n).map fun p=>(e p).1)) (List.range slots);simp at h1 h2;omega
theorem kJ.swap(h:kJ slots n e pl)(hp:p<n)(hq:q<n):kJ slots n (gX e p q) (kK (kK pl (e q).1 (p+1)) (e p).1 (q+1)):=by
 refine⟨fun x hx=>?_,fun x hx=>?_,fun i hi=>?_⟩
 {
 by_cases h1:x=p
 · rw[h1,fH];exact h.lt q hq
 {
 by_cases h2:x=q
 · rw[h2,kI];exact h.lt p hp
 · rw[eJ h1 h2];exact h.lt x hx}}
 {
 by_cases h2:x=q
 · rw[h2,kI,jP]
 {
 by_cases h1:x=p
 {
 subst h1;rw[fH,cS (fun e1=>h2 (h.inj hx hq e1.symm)),jP]}
 {
 rw[eJ h1 h2,cS (fun e1=>h1 (h.inj hx hp e1)),cS (fun e1=>h2 (h.inj hx hq e1))];exact h.at_ x hx}}}
 {
 by_cases h1:i=(e p).1
 · exact⟨q,hq,by rw[kI,h1]⟩
 {
 rw[cS h1]at hi;by_cases h2:i=(e q).1
 · exact⟨p,hp,by rw[fH,h2]⟩
 {
 rw[cS h2]at hi;obtain⟨x,hx,rfl⟩:=h.inv i hi;refine⟨x,hx,?_⟩;rw[eJ (fun e1=>h1 (by rw[e1])) (fun e1=>h2 (by rw[e1]))]}}}
theorem kJ.push(h:kJ slots n e pl){i:Nat}{k:Int}(hi:i<slots)(h0:pl i=0):kJ slots (n+1) (lU e n (i,k)) (kK pl i (n+1)):=by
 refine⟨fun x hx=>?_,fun x hx=>?_,fun j hj=>?_⟩
 {
 by_cases h1:x=n
 · rw[h1,fM];exact hi
 · rw[dJ h1];exact h.lt x (by omega)}
 {
 by_cases h1:x=n
 · rw[h1,fM,jP]
 {
 rw[dJ h1];have hx' :=h.at_ x (by omega);rw[cS (fun e1=>by rw[e1,h0]at hx'; omega)];exact hx'}}
 {
 by_cases h1:j=i
 · exact⟨n,by omega,by rw[fM,h1]⟩
 {
 rw[cS h1]at hj;obtain⟨x,hx,rfl⟩:=h.inv j hj;exact⟨x,by omega,by rw[dJ (by omega)]⟩}}
theorem kJ.pop(h:kJ slots (n+1) e pl):kJ slots n e (kK pl (e n).1 0):=by
 refine⟨fun x hx=>h.lt x (by omega),fun x hx=>?_,fun j hj=>?_⟩
 {
 rw[cS (fun e1=>by have:=h.inj (by omega:x<n+1) (by omega:n<n+1) e1;omega)];exact h.at_ x (by omega)}
 {
 by_cases h1:j=(e n).1
 · rw[h1,jP]at hj;exact absurd rfl hj
 {
 rw[cS h1]at hj;obtain⟨x,hx,rfl⟩:=h.inv j hj;refine⟨x,?_,rfl⟩;by_cases e1:x=n
 · subst e1;exact absurd rfl h1
 · omega}}
end
end Go.Proofs.YtjdgpcjbgjnahaaGreatDoor
namespace Go.Proofs.YtjdgpcjbgjnahaaGreatDoor
open Go.RowKit
abbrev aP(b:Nat):Value:=.pointer (some ⟨b,0,none⟩)
def fW(o:Option Nat):Value:=.pointer (o.map fun b=>⟨b,0,none⟩)
def iL(n:Nat)(e:Nat->Nat×Int):List Value:=(List.range n).flatMap fun p=>[.int .i64 (e p).1,.int .i64 (e p).2]
theorem entC_succ' (n:Nat)(e:Nat->Nat×Int):iL (n+1) e=iL n e++[.int .i64 (e n).1,.int .i64 (e n).2]:=by simp[iL,List.range_succ]
theorem jQ(n:Nat)(e:Nat->Nat×Int):(iL n e).length=n*2:=by
 induction n with
 | zero=>rfl
 | succ n ih=>rw[entC_succ', zF,ih];simp;omega
theorem tF(e:Nat->Nat×Int):∀{n p:Nat},p<n->(iL n e)[p*2]? =some (.int .i64 ((e p).1:Int))/\(iL n e)[p*2+1]? =some (.int .i64 (e p).2):=by
 intro n;induction n with
 | zero=>intro p h;omega
 | succ n ih=>{
 intro p hp;rw[entC_succ'];have hl:=jQ n e;by_cases h:p<n
 · rw[List.getElem?_append_left (by omega),List.getElem?_append_left (by omega)];exact ih h
 {
 obtain rfl:p=n:=by omega
 rw[List.getElem?_append_right (by omega),List.getElem?_append_right (by omega),hl];simp}}
theorem aEZ{n:Nat}{e e' :Nat->Nat×Int}(h:∀p,p<n->e p=e' p):iL n e=iL n e' :=by
 induction n with
 | zero=>rfl
 | succ n ih=>rw[entC_succ', entC_succ', ih (fun p hp=>h p (by omega)),h n (by omega)]
theorem aJM(n:Nat)(e:Nat->Nat×Int)(x:Nat×Int):iL n e++[.int .i64 x.1,.int .i64 x.2]=iL (n+1) (lU e n x):=by
 rw[entC_succ', fM,aEZ (n:=n) (e:=lU e n x) (e' :=e) (fun p hp=>dJ (by omega))]
theorem aNB{n p:Nat}(hp:p<n)(e:Nat->Nat×Int)(x:Nat×Int):((iL n e).set (p*2) (.int .i64 x.1)).set (p*2+1) (.int .i64 x.2)=iL n (lU e p x):=by
 apply List.ext_getElem?;intro j;have hl:=jQ n e;have hl' :=jQ n (lU e p x);by_cases hj:j<n*2
 {
 have hj2:j/2<n:=by omega
 have h0:=tF (lU e p x) hj2;have h1:=tF e hj2;rcases(show j=j/2*2∨j=j/2*2+1 by omega) with e1|e1
 {
 generalize j/2=k at *;subst e1;rw[h0.1,List.getElem?_set_ne (by omega)];by_cases hk:k=p
 · subst hk;rw[List.getElem?_set_self (by omega),fM]
 · rw[List.getElem?_set_ne (by omega),h1.1,dJ hk]}
 {
 generalize j/2=k at *;subst e1;rw[h0.2];by_cases hk:k=p
 · subst hk;rw[List.getElem?_set_self (by simp;omega),fM]
 · rw[List.getElem?_set_ne (by omega),List.getElem?_set_ne (by omega),h1.2,dJ hk]}}
 · rw[zB (by simp;omega),zB (by omega)]
theorem gY{w:World}{v:Value}{n:Nat}{e:Nat->Nat×Int}(h:w.ownsRow 0 223 2 v n (iL n e)){p:Nat}(hp:p<n):∃b cap,v=.slice (some ⟨b,0,none⟩) n cap/\n<=cap/\b<w.heap.size /\
    w.cell? ⟨b,p*2,none⟩=some (.int .i64 ((e p).1:Int))/\w.cell? ⟨b,p*2+1,none⟩=some (.int .i64 (e p).2)/\∀j,w.frozen? ⟨b,j,none⟩=false:=by
 obtain⟨h1,h2⟩:=h;rcases h2 with⟨rfl,h0⟩|⟨g,cap,cur,rfl,_,hh,hn,hm,hsz,hxs⟩
 · omega
 {
 refine⟨g,cap,rfl,hn,(qM.1 hh).1,?_,?_,fun j=>by simp[World.frozen?,hh]⟩
 all_goals
  have key:∀j,j<2->cur[p*2+j]? =(iL n e)[p*2+j]? :=by {
  intro j hj;rw[<-hxs,List.getElem?_take,qD (by omega)];simp};simp only[World.cell?,hh];simp
 · have:=key 0 (by omega);simp at this;rw[this];exact(tF e hp).1
 · rw[key 1 (by omega)];exact(tF e hp).2}
theorem pN{w:World}{e:TypeId}{size g n cap i:Nat}{xs:List Value}(h:w.ownsRow 0 e size (.slice (some ⟨g,0,none⟩) n cap) n xs)(u:Value):
    (w.setCell ⟨g,i,none⟩ u).ownsRow 0 e size (.slice (some ⟨g,0,none⟩) n cap) n (xs.set i u):=by
 obtain⟨h1,h2⟩:=h;refine⟨by simpa using h1,?_⟩;rcases h2 with⟨h2,_⟩|⟨g', cap', cur,e1,_,hh,hn,hm,hsz,hxs⟩
 · cases h2
 {
 simp only[qP,qI,Addr.mk.injEq,and_true,true_and]at e1;obtain⟨rfl,rfl⟩:=e1;refine .inr ⟨g,cap,cur.setIfInBounds i u,rfl,qS _,?_,hn,hm,by simpa using hsz,?_⟩
 {
 simp only[World.setCell,Array.getElem?_modify];simp[hh]}
 · rw[<-hxs,Array.toList_setIfInBounds,List.take_set]}
def jB(pl:Nat->Nat)(k:Nat):List Value:=(List.range 64).map fun j=>.int .i64 ((pl (k*64+j):Nat):Int)
theorem mW(pl:Nat->Nat)(k:Nat){j:Nat}(hj:j<64):(jB pl k)[j]? =some (.int .i64 ((pl (k*64+j):Nat):Int)):=by simp[jB,hj]
theorem aFA{pl pl' :Nat->Nat}{k:Nat}(h:∀j,j<64->pl (k*64+j)=pl' (k*64+j)):jB pl k=jB pl' k:=by
 apply List.map_congr_left;intro j hj;rw[h j (by simpa using hj)]
theorem aNC(pl:Nat->Nat)(k x:Nat){j:Nat}(hj:j<64):(jB pl k).set j (.int .i64 (x:Int))=jB (kK pl (k*64+j) x) k:=by
 apply List.ext_getElem?;intro i;by_cases hi:i<64
 {
 rw[mW _ k hi];by_cases e:i=j
 · subst e;rw[List.getElem?_set_self (by simp[jB,hi]),jP]
 · rw[List.getElem?_set_ne (by omega),mW _ k hi,cS (by omega)]}
 · rw[zB (by simp[jB];omega),zB (by simp[jB];omega)]
structure HM (w:World) (ph slots n:Nat) (e:Nat->Nat×Int) (pl:Nat->Nat) (v:Value) (gp cp:Nat) (bs:Nat->Option Nat):Prop where
  hd:Blk w ph 242 [aP ph,.int .i64 slots,v,.slice (some ⟨gp,0,none⟩) ((slots+63)/64) cp]
  items:w.ownsRow 0 223 2 v n (iL n e)
  dir:Blk w gp 244 ((List.range ((slots+63)/64)).map fun k=>fW (bs k))
  some_:∀k b,k<(slots+63)/64->bs k=some b->Blk w b 246 (jB pl k)
  none_:∀k,k<(slots+63)/64->bs k=none->∀j,j<64->pl (k*64+j)=0
  le:slots<=65536
  nb:n<=65536
  pb:∀i,pl i<=65536
  ap1:ph≠gp
  ap2:v.ownBlock≠some ph
  ap3:v.ownBlock≠some gp
  ap4:∀k b,k<(slots+63)/64->bs k=some b->b≠ph/\b≠gp/\v.ownBlock≠some b
  ap5:∀k k' b,k<(slots+63)/64->k' < (slots+63)/64->bs k=some b->bs k' =some b->k=k'
def hB(slots ph:Nat)(v:Value)(gp:Nat)(bs:Nat->Option Nat):List Nat:=ph::gp::(v.ownBlock.toList++(List.range ((slots+63)/64)).filterMap bs)
theorem dQ{slots ph:Nat}{v:Value}{gp:Nat}{bs:Nat->Option Nat}{b:Nat}:b∈hB slots ph v gp bs↔b=ph∨b=gp∨v.ownBlock=some b∨∃k,k<(slots+63)/64/\bs k=some b:=by
 simp[hB]
section
variable {w w' :World} {ph slots n:Nat} {e:Nat->Nat×Int} {pl:Nat->Nat} {v:Value} {gp cp:Nat} {bs:Nat->Option Nat}
theorem HM.fr{S:List Nat}(h:HM w ph slots n e pl v gp cp bs)(hf:Fr S w w')(hs:∀b∈hB slots ph v gp bs,b∉S):HM w' ph slots n e pl v gp cp bs:=
  ⟨hf.blk h.hd (hs _ (by simp[hB])),aL h.items (fun q hq=>hf.keep q (h.items.lt q hq).2 (hs q (dQ.2 (.inr (.inr (.inl hq)))))),hf.blk h.dir (hs _ (by simp[hB])),
    fun k b hk hb=>hf.blk (h.some_ k b hk hb) (hs b (dQ.2 (.inr (.inr (.inr ⟨k,hk,hb⟩))))),h.none_,h.le,h.nb,h.pb,h.ap1,h.ap2,h.ap3,h.ap4,h.ap5⟩
theorem HM.fr0(h:HM w ph slots n e pl v gp cp bs)(hf:Fr [] w w'):HM w' ph slots n e pl v gp cp bs:=h.fr hf (by simp)
theorem HM.lt(h:HM w ph slots n e pl v gp cp bs):∀b∈hB slots ph v gp bs,b<w.heap.size:=by
 intro b hb;rcases dQ.1 hb with rfl|rfl|hb|⟨k,hk,hb⟩
 · exact h.hd.lt
 · exact h.dir.lt
 · exact(h.items.lt b hb).2
 · exact(h.some_ k b hk hb).lt
def gI(x y:Int):Int:=if x<y then -1 else if y<x then 1 else 0
def vG(a b:Nat×Int):Int:=if gI a.2 b.2=0 then gI a.1 b.1 else gI a.2 b.2
theorem aGW(a b:Nat×Int):vG a b<0↔elt a b:=by
 unfold vG gI elt;split<;>split<;>(try split)<;>(try split)<;>omega
theorem zY(x:Int)(w:World):Calls Tryz.prog 253 #[.int .i64 x] w fun e w' =>e=.returned (.bool false)/\w' =w:=by
 have hb:(x != x)=false:=by simp
 go_enter Tryz.func253,Tryz.ntmps253
 go_wp2
 go_ret;exact⟨rfl,rfl⟩
theorem aND(x:Int)(w:World):Calls Tryz.prog 254 #[.int .i64 x] w fun e w' =>e=.returned (.bool false)/\w' =w:=by
 have hb:(x != x)=false:=by simp
 go_enter Tryz.func254,Tryz.ntmps254
 go_wp2
 go_ret;exact⟨rfl,rfl⟩
theorem aRD(x y:Int)(w:World):Calls Tryz.prog 250 #[.int .i64 x,.int .i64 y] w fun e w' =>e=.returned (.int .i64 (gI x y))/\w' =w:=by
 by_cases h1:x<y
 {
 have e1:gI x y=-1:=by unfold gI;rw[qD h1]
 rw[e1];clear e1;go_enter Tryz.func250,Tryz.ntmps250
 go_wp2_with (go_at_call 253;refine(zY _ _).mono ?_;rintro e w' ⟨rfl,rfl⟩)
 go_ret;exact⟨rfl,rfl⟩}
 {
 by_cases h2:y<x
 {
 have e1:gI x y=1:=by unfold gI;rw[qC h1,qD h2]
 rw[e1];clear e1;go_enter Tryz.func250,Tryz.ntmps250
 go_wp2_with (go_at_call 253;refine(zY _ _).mono ?_;rintro e w' ⟨rfl,rfl⟩)
 go_ret;exact⟨rfl,rfl⟩}
 {
 have e1:gI x y=0:=by unfold gI;rw[qC h1,qC h2]
 rw[e1];clear e1;go_enter Tryz.func250,Tryz.ntmps250
 go_wp2_with (go_at_call 253;refine(zY _ _).mono ?_;rintro e w' ⟨rfl,rfl⟩)
 go_ret;exact⟨rfl,rfl⟩}}
theorem aXK(x y:Nat)(w:World):Calls Tryz.prog 251 #[.int .i64 x,.int .i64 y] w fun e w' =>e=.returned (.int .i64 (gI x y))/\w' =w:=by
 by_cases h1:x<y
 {
 have e1:gI x y=-1:=by unfold gI;rw[qD (by omega)]
 rw[e1];clear e1;go_enter Tryz.func251,Tryz.ntmps251
 go_wp2_with (go_at_call 254;refine(aND _ _).mono ?_;rintro e w' ⟨rfl,rfl⟩)
 go_ret;exact⟨rfl,rfl⟩}
 {
 by_cases h2:y<x
 {
 have e1:gI x y=1:=by unfold gI;rw[qC (by omega),qD (by omega)]
 rw[e1];clear e1;go_enter Tryz.func251,Tryz.ntmps251
 go_wp2_with (go_at_call 254;refine(aND _ _).mono ?_;rintro e w' ⟨rfl,rfl⟩)
 go_ret;exact⟨rfl,rfl⟩}
 {
 have e1:gI x y=0:=by unfold gI;rw[qC (by omega),qC (by omega)]
 rw[e1];clear e1;go_enter Tryz.func251,Tryz.ntmps251
 go_wp2_with (go_at_call 254;refine(aND _ _).mono ?_;rintro e w' ⟨rfl,rfl⟩)
 go_ret;exact⟨rfl,rfl⟩}}
theorem or_w(b:Nat)(x y:Int)(w:World)(h:Blk w b 3 [.int .i64 x,.int .i64 y]):Calls Tryz.prog 249 #[.slice (some ⟨b,0,none⟩) 2 2] w fun e w' =>e=.returned (.int .i64 (if x=0 then y else x))/\w' =w:=by
 have c0:=h.cell 0;have c1:=h.cell 1;simp only[zJ,zK]at c0 c1;generalize hr:(if x=0 then y else x)=r;have HR:=qA hr;clear hr;go_enter Tryz.func249,Tryz.ntmps249
 go_wp2
 go_loop [8] (fun s=>∃k:Nat,k<=2/\s=.int .i64 k/\Hid ((1<=k->x=0)/\(2<=k->y=0))) (fun s=>2-(intOf s).toNat)
 case atStart=>exact⟨0,by omega,rfl,qA ⟨by omega,by omega⟩⟩
 case round=>
  obtain⟨k,hk,rfl,HK⟩:=hrel;rcases(show k=0∨k=1∨k=2 by omega) with rfl|rfl|rfl
  {
  by_cases hx:x=0
  {
  subst hx;go_wp2
  go_round
  case rel=>exact⟨1,by omega,by go_num,qA ⟨by simp,by omega⟩⟩
  case measure=>simp[intOf]}
  {
  have hb:(x != 0)=true:=by simp[hx]
  have hR2:r=x:=by rw[<-HR.out,qC hx]
  have HR2:=qA hR2;clear hR2 hx;go_wp2
  go_ret;exact⟨by rw[HR2.out];rfl,rfl⟩}}
  {
  have hx:=HK.out.1 (by omega);by_cases hy:y=0
  {
  subst hy;have Hx:=qA hx;clear hx;go_wp2
  go_round
  case rel=>exact⟨2,by omega,by go_num,qA ⟨fun _=>Hx.out,by simp⟩⟩
  case measure=>simp[intOf]}
  {
  have hb:(y != 0)=true:=by simp[hy]
  have hR2:r=y:=by rw[<-HR.out,qD hx]
  have HR2:=qA hR2;clear hR2 hx hy;go_wp2
  go_ret;exact⟨by rw[HR2.out];rfl,rfl⟩}}
  {
  have hx:=HK.out.1 (by omega);have hy:=HK.out.2 (by omega);have hR2:r=0:=by rw[<-HR.out,qD hx,hy]
  have HR2:=qA hR2;clear hR2 hx hy;go_wp2
  go_ret;exact⟨by rw[HR2.out];rfl,rfl⟩}
theorem aGX(a b:Nat×Int)(w:World):Calls Tryz.prog 245 #[.agg #[.int .i64 a.1,.int .i64 a.2],.agg #[.int .i64 b.1,.int .i64 b.2]] w fun e w' =>e=.returned (.int .i64 (vG a b))/\Fr [] w w' :=by
 obtain⟨a1,a2⟩:=a;obtain⟨b1,b2⟩:=b;have hr:(if gI a2 b2=0 then gI a1 b1 else gI a2 b2)=vG (a1,a2) (b1,b2):=rfl;have HO:=qA (fun(W:World) (n:Nat) (h:Blk W n 3 [.int .i64 (gI a2 b2),.int .i64 (gI a1 b1)])=>or_w n (gI a2 b2) (gI a1 b1) W h);rw[hr]at HO;have HC1:=qA (fun w=>aRD a2 b2 w);have HC2:=qA (fun w=>aXK a1 b1 w);clear hr;generalize vG (a1,a2) (b1,b2)=r at *;generalize gI a2 b2=x at *;generalize gI a1 b1=y at *;have e1:=Blk.new w [.int .i64 a1,.int .i64 a2] 223;have e2:=Blk.new (w.alloc (.cells [.int .i64 a1,.int .i64 a2].toArray 223)) [.int .i64 b1,.int .i64 b2] 223;have e1' :=e1.alloc (.cells [.int .i64 b1,.int .i64 b2].toArray 223);simp only[World.size_alloc]at e2;have hF:Fr [] w ((w.alloc (.cells [.int .i64 a1,.int .i64 a2].toArray 223)).alloc (.cells [.int .i64 b1,.int .i64 b2].toArray 223)):=((Fr.refl _ _).alloc _).alloc _;have x0:=e1'.cell 0;have x1:=e1'.cell 1;have y0:=e2.cell 0;have y1:=e2.cell 1;simp only[zJ,zK]at x0 x1 y0 y1;clear e1 e2 e1';have HF:=qA hF;clear hF;go_enter Tryz.func245,Tryz.ntmps245
 go_wp2
 generalize hw0:((w.alloc (.cells #[.int .i64 a1,.int .i64 a2] 223)).alloc (.cells #[.int .i64 b1,.int .i64 b2] 223))=w0 at *;clear hw0
 go_region_held3 (fun w' => w'.cell? ⟨w.heap.size, 0, none⟩ = some (.int .i64 a1) /\ w'.cell? ⟨w.heap.size, 1, none⟩ = some (.int .i64 a2) /\ w'.cell? ⟨w.heap.size + 1, 0, none⟩ = some (.int .i64 b1) /\ w'.cell? ⟨w.heap.size + 1, 1, none⟩ = some (.int .i64 b2))
   (first|go_keep)
   (first
     | (go_at_call 250;refine(HC1.out _).mono ?_;rintro e w' ⟨rfl,rfl⟩)
     | (go_at_call 251;refine(HC2.out _).mono ?_;rintro e w' ⟨rfl,rfl⟩)
     | (go_at_call 249;refine(HO.out _ _ ((Blk.new w0 _ _).drew)).mono ?_;rintro e w' ⟨rfl,rfl⟩))
 go_wp2
 go_ret;exact⟨rfl,(HF.out.alloc _).drew⟩
@[go_sem] theorem aXL(w:World)(a:Addr):(binOp .eql 149 (.pointer (some a)) (.pointer (some a))).run Tryz.prog w=.ok (.bool true) w:=by
 obtain⟨j,hj⟩:=qV.1 (show(Tryz.prog.info? 242).isSome=true by kernel_rfl);exact run_eql_ptr_same w a Tryz.underlying149 hj
theorem lV(h:HM w ph slots n e pl v gp cp bs):Calls Tryz.prog 160 #[.pointer (some ⟨ph,0,none⟩)] w fun e' w' =>e' =.returned (.bool true)/\w' =w:=by
 have c0:w.cell? ⟨ph,0,none⟩=some (.pointer (some ⟨ph,0,none⟩)):=h.hd.cell 0;clear h;go_enter Tryz.func160,Tryz.ntmps160
 go_wp2
 go_ret;exact⟨rfl,rfl⟩
theorem aNE(h:HM w ph slots n e pl v gp cp bs){i:Nat}(hi:i<slots):Calls Tryz.prog 211 #[aP ph,.int .i64 i] w fun e' w' =>e' =.returned (.bool true)/\w' =w:=by
 have c1:=h.hd.cell 1;simp only[zJ,zK]at c1;have t1:decide (i<slots)=true:=qG hi;have hi' :(i:Int)<slots:=by omega
 have hi0:(0:Int)<=i:=by omega
 clear h;go_enter Tryz.func211,Tryz.ntmps211
 go_wp2
 go_ret;exact⟨rfl,rfl⟩
end
section
variable {w w' :World} {ph slots n:Nat} {e:Nat->Nat×Int} {pl:Nat->Nat} {v:Value} {gp cp:Nat} {bs:Nat->Option Nat}
theorem HM.dirAt(h:HM w ph slots n e pl v gp cp bs){k:Nat}(hk:k<(slots+63)/64):w.cell? ⟨gp,k,none⟩=some (fW (bs k)):=by
 rw[h.dir.cell];simp[hk]
theorem aGY(h:HM w ph slots n e pl v gp cp bs){i:Nat}(hi:i<slots):
    Calls Tryz.prog 212 #[aP ph,.int .i64 i] w fun e w' =>e=.returned (.int .i64 ((pl i:Int)-1))/\w' =w:=by
 have hle:=h.le;have hk:i/64<(slots+63)/64:=by omega
 have c3:=h.hd.cell 3;simp only[zJ,zK]at c3;have hd:=h.dirAt hk;have hm:i=i/64*64+i%64:=by omega
 have hi6:i<65536:=by omega
 cases hb:bs (i/64) with
 | none=>{
 rw[hb]at hd;have h0:=h.none_ _ hk hb (i%64) (by omega);rw[<-hm]at h0;rw[h0];simp only[fW,Option.map_none]at hd;clear hm h0 h hb hle;generalize (slots+63)/64=m at *;go_enter Tryz.func212,Tryz.ntmps212
 go_wp2
 go_ret;exact⟨rfl,rfl⟩}
 | some b=>{
 rw[hb]at hd;have h0:=(h.some_ _ _ hk hb).cell (i%64);rw[mW pl (i/64) (by omega),<-hm]at h0;simp only[fW,Option.map_some]at hd;have hpl:(0:Int)<=pl i:=by omega
 have hx:=h.pb i;clear hm h hb hle;generalize (slots+63)/64=m at *;generalize pl i=x at *;go_enter Tryz.func212,Tryz.ntmps212
 go_wp2
 go_ret;exact⟨rfl,rfl⟩}
theorem xR{pl:Nat->Nat}{k:Nat}(h:∀j,j<64->pl (k*64+j)=0):jB pl k=List.replicate 64 (.int .i64 0):=by
 apply List.ext_getElem?;intro j;by_cases hj:j<64
 · rw[mW pl k hj,h j hj,List.getElem?_replicate,qD hj];rfl
 · rw[zB (by simp[jB];omega),zB (by rw[List.length_replicate];omega)]
def zZ(bs:Nat->Option Nat)(k b:Nat):Nat->Option Nat:=fun x=>if x=k then some b else bs x
theorem cE(bs:Nat->Option Nat)(k b:Nat):zZ bs k b k=some b:=by simp[zZ]
theorem bY{bs:Nat->Option Nat}{k b x:Nat}(h:x≠k):zZ bs k b x=bs x:=by simp[zZ,h]
theorem HM.note(h:HM w ph slots n e pl v gp cp bs){i x b:Nat}(hi:i<slots)(hb:bs (i/64)=some b)(hx:x<=65536):
    HM (w.setCell ⟨b,i%64,none⟩ (.int .i64 (x:Int))) ph slots n e (kK pl i x) v gp cp bs:=by
 have hk:i/64<(slots+63)/64:=by omega
 have hm:i=i/64*64+i%64:=by omega
 obtain⟨a1,a2,a3⟩:=h.ap4 _ _ hk hb;refine⟨h.hd.other _ _ (fun e=>a1 e.symm),bL h.items _ _ a3,h.dir.other _ _ (fun e=>a2 e.symm),fun k b' hk' hb' =>?_,fun k hk' hb' j hj=>?_,h.le,h.nb,fun j=>?_,h.ap1,h.ap2,h.ap3,h.ap4,h.ap5⟩
 {
 by_cases e1:k=i/64
 {
 subst e1;rw[hb]at hb'; cases hb';have:=(h.some_ _ _ hk hb).set (i%64) (.int .i64 (x:Int));rw[aNC pl (i/64) x (by omega),<-hm]at this;exact this}
 {
 have:=(h.some_ _ _ hk' hb').other ⟨b,i%64,none⟩ (.int .i64 (x:Int)) (fun e=>e1 (h.ap5 _ _ _ hk' hk hb' (by rw[hb];exact congrArg some e.symm)));rw[aFA (pl:=pl) (pl' :=kK pl i x) (k:=k) (fun j hj=>(cS (by omega)).symm)]at this;exact this}}
 {
 have e1:k≠i/64:=by rintro rfl;rw[hb]at hb'; cases hb'
 rw[cS (by omega)];exact h.none_ k hk' hb' j hj}
 {
 unfold kK;split
 · exact hx
 · exact h.pb j}
theorem HM.more(h:HM w ph slots n e pl v gp cp bs){k b:Nat}(hk:k<(slots+63)/64)(hb:bs k=none)(hw:w.heap.size=b):
    HM ((w.alloc (.cells #[.int .i64 0,.int .i64 0,.int .i64 0,.int .i64 0,.int .i64 0,.int .i64 0,.int .i64 0,.int .i64 0,.int .i64 0,.int .i64 0,.int .i64 0,.int .i64 0,.int .i64 0,.int .i64 0,.int .i64 0,.int .i64 0,.int .i64 0,.int .i64 0,.int .i64 0,.int .i64 0,.int .i64 0,.int .i64 0,.int .i64 0,.int .i64 0,.int .i64 0,.int .i64 0,.int .i64 0,.int .i64 0,.int .i64 0,.int .i64 0,.int .i64 0,.int .i64 0,.int .i64 0,.int .i64 0,.int .i64 0,.int .i64 0,.int .i64 0,.int .i64 0,.int .i64 0,.int .i64 0,.int .i64 0,.int .i64 0,.int .i64 0,.int .i64 0,.int .i64 0,.int .i64 0,.int .i64 0,.int .i64 0,.int .i64 0,.int .i64 0,.int .i64 0,.int .i64 0,.int .i64 0,.int .i64 0,.int .i64 0,.int .i64 0,.int .i64 0,.int .i64 0,.int .i64 0,.int .i64 0,.int .i64 0,.int .i64 0,.int .i64 0,.int .i64 0] 246)).setCell ⟨gp,k,none⟩ (aP b)) ph slots n e pl v gp cp (zZ bs k b):=by
 subst hw;have h1:=h.fr0 ((Fr.refl [] w).alloc (.cells #[.int .i64 0,.int .i64 0,.int .i64 0,.int .i64 0,.int .i64 0,.int .i64 0,.int .i64 0,.int .i64 0,.int .i64 0,.int .i64 0,.int .i64 0,.int .i64 0,.int .i64 0,.int .i64 0,.int .i64 0,.int .i64 0,.int .i64 0,.int .i64 0,.int .i64 0,.int .i64 0,.int .i64 0,.int .i64 0,.int .i64 0,.int .i64 0,.int .i64 0,.int .i64 0,.int .i64 0,.int .i64 0,.int .i64 0,.int .i64 0,.int .i64 0,.int .i64 0,.int .i64 0,.int .i64 0,.int .i64 0,.int .i64 0,.int .i64 0,.int .i64 0,.int .i64 0,.int .i64 0,.int .i64 0,.int .i64 0,.int .i64 0,.int .i64 0,.int .i64 0,.int .i64 0,.int .i64 0,.int .i64 0,.int .i64 0,.int .i64 0,.int .i64 0,.int .i64 0,.int .i64 0,.int .i64 0,.int .i64 0,.int .i64 0,.int .i64 0,.int .i64 0,.int .i64 0,.int .i64 0,.int .i64 0,.int .i64 0,.int .i64 0,.int .i64 0] 246));have hlt:=h.lt;have hnew:=Blk.new w (jB pl k) 246;rw[xR (h.none_ k hk hb)]at hnew;have e0:(List.replicate 64 (Value.int .i64 0)).toArray=(#[.int .i64 0,.int .i64 0,.int .i64 0,.int .i64 0,.int .i64 0,.int .i64 0,.int .i64 0,.int .i64 0,.int .i64 0,.int .i64 0,.int .i64 0,.int .i64 0,.int .i64 0,.int .i64 0,.int .i64 0,.int .i64 0,.int .i64 0,.int .i64 0,.int .i64 0,.int .i64 0,.int .i64 0,.int .i64 0,.int .i64 0,.int .i64 0,.int .i64 0,.int .i64 0,.int .i64 0,.int .i64 0,.int .i64 0,.int .i64 0,.int .i64 0,.int .i64 0,.int .i64 0,.int .i64 0,.int .i64 0,.int .i64 0,.int .i64 0,.int .i64 0,.int .i64 0,.int .i64 0,.int .i64 0,.int .i64 0,.int .i64 0,.int .i64 0,.int .i64 0,.int .i64 0,.int .i64 0,.int .i64 0,.int .i64 0,.int .i64 0,.int .i64 0,.int .i64 0,.int .i64 0,.int .i64 0,.int .i64 0,.int .i64 0,.int .i64 0,.int .i64 0,.int .i64 0,.int .i64 0,.int .i64 0,.int .i64 0,.int .i64 0,.int .i64 0]:Array Value):=rfl;rw[e0]at hnew;have hgl:=h.dir.lt;have hpl:=h.hd.lt;refine⟨h1.hd.other _ _ h.ap1,bL h1.items _ _ h.ap3,?_,fun j b' hj hb' =>?_,fun j hj hb' =>?_,h.le,h.nb,h.pb,h.ap1,h.ap2,h.ap3,fun j b' hj hb' =>?_,fun j j' b' hj hj' hb' hb2=>?_⟩
 {
 have:=h1.dir.set k (aP w.heap.size);have e1:((List.range ((slots+63)/64)).map fun x=>fW (bs x)).set k (aP w.heap.size)=(List.range ((slots+63)/64)).map fun x=>fW (zZ bs k w.heap.size x):=by {
 apply List.ext_getElem?;intro j;by_cases hj:j<(slots+63)/64
 {
 by_cases e2:j=k
 · subst e2;rw[List.getElem?_set_self (by simpa using hj)];simp[hj,cE,fW]
 · rw[List.getElem?_set_ne (by omega)];simp[hj,bY e2]}
 · rw[zB (by simp;omega),zB (by simp;omega)]};rw[e1]at this;exact this}
 {
 by_cases e2:j=k
 {
 subst e2;rw[cE]at hb'; cases hb';rw[xR (h.none_ j hk hb)];exact hnew.other _ _ (by simp;omega)}
 {
 rw[bY e2]at hb';exact(h1.some_ j b' hj hb').other _ _ (h.ap4 j b' hj hb').2.1}}
 {
 have e2:j≠k:=by rintro rfl;rw[cE]at hb'; cases hb'
 rw[bY e2]at hb';exact h.none_ j hj hb'}
 {
 by_cases e2:j=k
 {
 subst e2;rw[cE]at hb'; cases hb';refine⟨by omega,by omega,fun e3=>?_⟩;have:=(h.items.lt _ e3).2;omega}
 · rw[bY e2]at hb'; exact h.ap4 j b' hj hb'}
 {
 by_cases e2:j=k
 {
 by_cases e3:j' =k
 · omega
 {
 rw[bY e3]at hb2;subst e2;rw[cE]at hb'; cases hb';have:=(h.some_ j' _ hj' hb2).lt;omega}}
 {
 rw[bY e2]at hb';by_cases e3:j' =k
 {
 subst e3;rw[cE]at hb2;cases hb2;have:=(h.some_ j _ hj hb').lt;omega}
 {
 rw[bY e3]at hb2;exact h.ap5 j j' b' hj hj' hb' hb2}}}
theorem aRE{k b:Nat}:∀q∈hB slots ph v gp (zZ bs k b),q∈hB slots ph v gp bs∨q=b:=by
 intro q hq;rcases dQ.1 hq with h|h|h|⟨j,hj,h⟩
 · exact .inl (dQ.2 (.inl h))
 · exact .inl (dQ.2 (.inr (.inl h)))
 · exact .inl (dQ.2 (.inr (.inr (.inl h))))
 {
 by_cases e:j=k
 · subst e;rw[cE]at h;cases h;exact .inr rfl
 · rw[bY e]at h;exact .inl (dQ.2 (.inr (.inr (.inr ⟨j,hj,h⟩))))}
theorem aGZ(h:HM w ph slots n e pl v gp cp bs){i x:Nat}(hi:i<slots)(hx:x<=65536)(p:Int)(hp:p+1=x):
    Calls Tryz.prog 213 #[aP ph,.int .i64 i,.int .i64 p] w fun e' w' =>e' =.returned (.tuple #[])/\∃bs', HM w' ph slots n e (kK pl i x) v gp cp bs' /\ Fr (hB slots ph v gp bs) w w' /\ ∀q∈hB slots ph v gp bs', q∈hB slots ph v gp bs∨w.heap.size<=q:=by
 have hle:=h.le;have hk:i/64<(slots+63)/64:=by omega
 have c3:=h.hd.cell 3;simp only[zJ,zK]at c3;have hd:=h.dirAt hk;have hi6:i<65536:=by omega
 have hgz:=h.dir.frozen (i/64);have HX:Hid (.int .i64 (p+1)=(.int .i64 (x:Int):Value)):=qA (by rw[hp]);have hp2:p<9223372036854775807:=by omega
 have hp1:-9223372036854775808<=p:=by omega
 clear hp;cases hb:bs (i/64) with
 | some b=>{
 rw[hb]at hd;simp only[fW,Option.map_some]at hd;have h0:=(h.some_ _ _ hk hb).cell (i%64);have hz:=(h.some_ _ _ hk hb).frozen (i%64);rw[mW pl (i/64) (by omega)]at h0;have HN:=qA (h.note hi hb hx);have HF:Hid (Fr (hB slots ph v gp bs) w (w.setCell ⟨b,i%64,none⟩ (.int .i64 (x:Int)))):=qA ((Fr.refl _ w).setCell _ _ (.inl (dQ.2 (.inr (.inr (.inr ⟨_,hk,hb⟩))))));clear h hb hle;rw[<-HX.out]at HN HF;generalize (slots+63)/64=m at *;go_enter Tryz.func213,Tryz.ntmps213
 go_wp2
 go_end0
 exact⟨rfl,bs,HN.out,HF.out,fun q hq=>.inl hq⟩}
 | none=>{
 rw[hb]at hd;simp only[fW,Option.map_none]at hd;have hM:=h.more hk hb rfl;have c3' :=hM.hd.cell 3;simp only[zJ,zK]at c3';have hd' :=hM.dirAt hk;rw[cE]at hd';simp only[fW,Option.map_some]at hd';have h0:=(hM.some_ _ _ hk (cE _ _ _)).cell (i%64);have hz:=(hM.some_ _ _ hk (cE _ _ _)).frozen (i%64);rw[mW pl (i/64) (by omega)]at h0;have HN:=qA (hM.note hi (cE _ _ _) hx);have hF1:Fr (hB slots ph v gp bs) w ((w.alloc (.cells #[.int .i64 0,.int .i64 0,.int .i64 0,.int .i64 0,.int .i64 0,.int .i64 0,.int .i64 0,.int .i64 0,.int .i64 0,.int .i64 0,.int .i64 0,.int .i64 0,.int .i64 0,.int .i64 0,.int .i64 0,.int .i64 0,.int .i64 0,.int .i64 0,.int .i64 0,.int .i64 0,.int .i64 0,.int .i64 0,.int .i64 0,.int .i64 0,.int .i64 0,.int .i64 0,.int .i64 0,.int .i64 0,.int .i64 0,.int .i64 0,.int .i64 0,.int .i64 0,.int .i64 0,.int .i64 0,.int .i64 0,.int .i64 0,.int .i64 0,.int .i64 0,.int .i64 0,.int .i64 0,.int .i64 0,.int .i64 0,.int .i64 0,.int .i64 0,.int .i64 0,.int .i64 0,.int .i64 0,.int .i64 0,.int .i64 0,.int .i64 0,.int .i64 0,.int .i64 0,.int .i64 0,.int .i64 0,.int .i64 0,.int .i64 0,.int .i64 0,.int .i64 0,.int .i64 0,.int .i64 0,.int .i64 0,.int .i64 0,.int .i64 0,.int .i64 0] 246)).setCell ⟨gp,i/64,none⟩ (aP w.heap.size)):=((Fr.refl _ w).alloc _).setCell _ _ (.inl (by simp[hB]));have HF:Hid (Fr (hB slots ph v gp bs) w (((w.alloc (.cells #[.int .i64 0,.int .i64 0,.int .i64 0,.int .i64 0,.int .i64 0,.int .i64 0,.int .i64 0,.int .i64 0,.int .i64 0,.int .i64 0,.int .i64 0,.int .i64 0,.int .i64 0,.int .i64 0,.int .i64 0,.int .i64 0,.int .i64 0,.int .i64 0,.int .i64 0,.int .i64 0,.int .i64 0,.int .i64 0,.int .i64 0,.int .i64 0,.int .i64 0,.int .i64 0,.int .i64 0,.int .i64 0,.int .i64 0,.int .i64 0,.int .i64 0,.int .i64 0,.int .i64 0,.int .i64 0,.int .i64 0,.int .i64 0,.int .i64 0,.int .i64 0,.int .i64 0,.int .i64 0,.int .i64 0,.int .i64 0,.int .i64 0,.int .i64 0,.int .i64 0,.int .i64 0,.int .i64 0,.int .i64 0,.int .i64 0,.int .i64 0,.int .i64 0,.int .i64 0,.int .i64 0,.int .i64 0,.int .i64 0,.int .i64 0,.int .i64 0,.int .i64 0,.int .i64 0,.int .i64 0,.int .i64 0,.int .i64 0,.int .i64 0,.int .i64 0] 246)).setCell ⟨gp,i/64,none⟩ (aP w.heap.size)).setCell ⟨w.heap.size,i%64,none⟩ (.int .i64 (x:Int)))):=qA (hF1.setCell _ _ (.inr (qK _)));have c3a:(w.alloc (.cells #[.int .i64 0,.int .i64 0,.int .i64 0,.int .i64 0,.int .i64 0,.int .i64 0,.int .i64 0,.int .i64 0,.int .i64 0,.int .i64 0,.int .i64 0,.int .i64 0,.int .i64 0,.int .i64 0,.int .i64 0,.int .i64 0,.int .i64 0,.int .i64 0,.int .i64 0,.int .i64 0,.int .i64 0,.int .i64 0,.int .i64 0,.int .i64 0,.int .i64 0,.int .i64 0,.int .i64 0,.int .i64 0,.int .i64 0,.int .i64 0,.int .i64 0,.int .i64 0,.int .i64 0,.int .i64 0,.int .i64 0,.int .i64 0,.int .i64 0,.int .i64 0,.int .i64 0,.int .i64 0,.int .i64 0,.int .i64 0,.int .i64 0,.int .i64 0,.int .i64 0,.int .i64 0,.int .i64 0,.int .i64 0,.int .i64 0,.int .i64 0,.int .i64 0,.int .i64 0,.int .i64 0,.int .i64 0,.int .i64 0,.int .i64 0,.int .i64 0,.int .i64 0,.int .i64 0,.int .i64 0,.int .i64 0,.int .i64 0,.int .i64 0,.int .i64 0] 246)).cell? ⟨ph,3,none⟩=some (.slice (some ⟨gp,0,none⟩) ((slots+63)/64) cp):=((Fr.refl [] w).alloc _).cell c3 (by simp);have hda:(w.alloc (.cells #[.int .i64 0,.int .i64 0,.int .i64 0,.int .i64 0,.int .i64 0,.int .i64 0,.int .i64 0,.int .i64 0,.int .i64 0,.int .i64 0,.int .i64 0,.int .i64 0,.int .i64 0,.int .i64 0,.int .i64 0,.int .i64 0,.int .i64 0,.int .i64 0,.int .i64 0,.int .i64 0,.int .i64 0,.int .i64 0,.int .i64 0,.int .i64 0,.int .i64 0,.int .i64 0,.int .i64 0,.int .i64 0,.int .i64 0,.int .i64 0,.int .i64 0,.int .i64 0,.int .i64 0,.int .i64 0,.int .i64 0,.int .i64 0,.int .i64 0,.int .i64 0,.int .i64 0,.int .i64 0,.int .i64 0,.int .i64 0,.int .i64 0,.int .i64 0,.int .i64 0,.int .i64 0,.int .i64 0,.int .i64 0,.int .i64 0,.int .i64 0,.int .i64 0,.int .i64 0,.int .i64 0,.int .i64 0,.int .i64 0,.int .i64 0,.int .i64 0,.int .i64 0,.int .i64 0,.int .i64 0,.int .i64 0,.int .i64 0,.int .i64 0,.int .i64 0] 246)).cell? ⟨gp,i/64,none⟩=some (.pointer none):=((Fr.refl [] w).alloc _).cell hd (by simp);have hza:(w.alloc (.cells #[.int .i64 0,.int .i64 0,.int .i64 0,.int .i64 0,.int .i64 0,.int .i64 0,.int .i64 0,.int .i64 0,.int .i64 0,.int .i64 0,.int .i64 0,.int .i64 0,.int .i64 0,.int .i64 0,.int .i64 0,.int .i64 0,.int .i64 0,.int .i64 0,.int .i64 0,.int .i64 0,.int .i64 0,.int .i64 0,.int .i64 0,.int .i64 0,.int .i64 0,.int .i64 0,.int .i64 0,.int .i64 0,.int .i64 0,.int .i64 0,.int .i64 0,.int .i64 0,.int .i64 0,.int .i64 0,.int .i64 0,.int .i64 0,.int .i64 0,.int .i64 0,.int .i64 0,.int .i64 0,.int .i64 0,.int .i64 0,.int .i64 0,.int .i64 0,.int .i64 0,.int .i64 0,.int .i64 0,.int .i64 0,.int .i64 0,.int .i64 0,.int .i64 0,.int .i64 0,.int .i64 0,.int .i64 0,.int .i64 0,.int .i64 0,.int .i64 0,.int .i64 0,.int .i64 0,.int .i64 0,.int .i64 0,.int .i64 0,.int .i64 0,.int .i64 0] 246)).frozen? ⟨gp,i/64,none⟩=false:=(h.dir.alloc _).frozen (i/64);clear h hb hle hM hF1;rw[<-HX.out]at HN HF;generalize (slots+63)/64=m at *;go_enter Tryz.func213,Tryz.ntmps213
 go_wp2
 go_end0
 exact⟨rfl,_,HN.out,HF.out,fun q hq=>(aRE q hq).imp (fun h=>h) (fun h=>by omega)⟩}
end
theorem aRF(e:Nat->Nat×Int)(p q:Nat):lU (lU e p (e q)) q (e p)=gX e p q:=by
 funext x
 unfold lU gX;by_cases h1:x=p
 {
 by_cases h2:x=q
 · rw[qD h2,qD h1];rw[<-h1,<-h2]
 · rw[qC h2,qD h1,qD h1]}
 {
 by_cases h2:x=q
 · rw[qD h2,qC h1,qD h2]
 · rw[qC h2,qC h1,qC h1,qC h2]}
section
variable {w w' :World} {ph slots n:Nat} {e:Nat->Nat×Int} {pl:Nat->Nat} {v:Value} {gp cp:Nat} {bs:Nat->Option Nat}
theorem HM.st{g cap:Nat}(h:HM w ph slots n e pl (.slice (some ⟨g,0,none⟩) n cap) gp cp bs){p:Nat}(hp:p<n)(x:Nat×Int):
    HM ((w.setCell ⟨g,p*2,none⟩ (.int .i64 (x.1:Int))).setCell ⟨g,p*2+1,none⟩ (.int .i64 x.2)) ph slots n (lU e p x) pl (.slice (some ⟨g,0,none⟩) n cap) gp cp bs:=by
 have a2:=h.ap2;have a3:=h.ap3;simp only[Value.ownBlock,ne_eq,qI]at a2 a3;refine⟨(h.hd.other _ _ (fun e=>a2 e.symm)).other _ _ (fun e=>a2 e.symm),?_,(h.dir.other _ _ (fun e=>a3 e.symm)).other _ _ (fun e=>a3 e.symm),fun k b hk hb=>?_,h.none_,h.le,h.nb,h.pb,h.ap1,h.ap2,h.ap3,h.ap4,h.ap5⟩
 {
 have:=pN (i:=p*2+1) (pN (i:=p*2) h.items (.int .i64 (x.1:Int))) (.int .i64 x.2);rw[aNB hp]at this;exact this}
 {
 have a4:=(h.ap4 k b hk hb).2.2;simp only[Value.ownBlock,ne_eq,qI]at a4;exact((h.some_ k b hk hb).other _ _ (fun e=>a4 e.symm)).other _ _ (fun e=>a4 e.symm)}
theorem aFB(h:HM w ph slots n e pl v gp cp bs){p q:Nat}(hp:p<n)(hq:q<n)(hlt:∀x,x<n->(e x).1<slots):
    Calls Tryz.prog 220 #[aP ph,.int .i64 p,.int .i64 q] w fun e' w' =>e' =.returned (.tuple #[])/\∃bs', HM w' ph slots n (gX e p q) (kK (kK pl (e q).1 (p+1)) (e p).1 (q+1)) v gp cp bs' /\
      Fr (hB slots ph v gp bs) w w' /\ ∀b∈hB slots ph v gp bs', b∈hB slots ph v gp bs∨w.heap.size<=b:=by
 have hnb:=h.nb;have c2:=h.hd.cell 2;simp only[zJ,zK]at c2;obtain⟨g,cap,rfl,_,hgl,p0,p1,fz⟩:=gY h.items hp;obtain⟨g', cap', e1,_,_,q0,q1,_⟩:=gY h.items hq;simp only[qP,qI,Addr.mk.injEq,and_true,true_and]at e1;obtain⟨rfl,rfl⟩:=e1;have fzp0:=fz (p*2);have fzp1:=fz (p*2+1);have hp1:(p:Int)<n:=by omega
 have hq1:(q:Int)<n:=by omega
 have hp0:(0:Int)<=p:=by omega
 have hq0:(0:Int)<=q:=by omega
 have hmem:g∈hB slots ph (.slice (some ⟨g,0,none⟩) n cap) gp bs:=by simp[hB,Value.ownBlock]
 have Hlt:=qA (zI (hlt p hp) (hlt q hq));clear hlt;have HH:=qA h;clear h fz;go_enter Tryz.func220,Tryz.ntmps220
 go_wp2
 refine sC [25,27] [9] (fun k w' =>match k with
   | 0=>∃m,w' =w.drewN m
   | 1=>HM w' ph slots n (lU e p (e q)) pl (.slice (some ⟨g,0,none⟩) n cap) gp cp bs/\Fr (hB slots ph (.slice (some ⟨g,0,none⟩) n cap) gp bs) w w'
   | _=>HM w' ph slots n (gX e p q) pl (.slice (some ⟨g,0,none⟩) n cap) gp cp bs/\Fr (hB slots ph (.slice (some ⟨g,0,none⟩) n cap) gp bs) w w') (fun w' =>Iff.rfl) (by kernel_rfl) (by kernel_rfl) (by kernel_rfl) ?_
 iterate 9 (refine mQ (by decide) (fun K hK=>?_);go_simp;refine hK _ ?_;clear hK K)
 refine kA (by decide) (fun K hK=>?_);go_simp;refine hK _ ?_;clear hK K;iterate 15 (refine mQ (by decide) (fun K hK=>?_);go_simp;refine hK _ ?_;clear hK K)
 refine iX (q:=0) (by decide) rfl undef (fun w' hw' =>?_) ?_
 {
 obtain⟨nq,rfl⟩:=hw';go_simp;exact⟨(HH.out.fr0 ((Fr.refl _ _).drewN nq)).st hp (e q),(((Fr.refl _ w).drewN nq).setCell _ _ (.inl hmem)).setCell _ _ (.inl hmem)⟩};iterate 1 (refine kA (by decide) (fun K hK=>?_);go_simp;refine hK _ ?_;clear hK K)
 refine iX (q:=1) (by decide) rfl undef (fun w' hw' =>?_) ?_
 {
 obtain⟨hA,hB'⟩:=hw';obtain⟨g', cap', e1,_,_,b0,b1,fz'⟩:=gY hA.items hq;simp only[qP,qI,Addr.mk.injEq,and_true,true_and]at e1;obtain⟨rfl,rfl⟩:=e1;have fzq0:=fz' (q*2);have fzq1:=fz' (q*2+1);clear fz';go_simp;have h2:=hA.st hq (e p);rw[aRF]at h2;exact⟨h2,(hB'.setCell _ _ (.inl hmem)).setCell _ _ (.inl hmem)⟩};refine xC ?_;rintro w2 ⟨h2,f2⟩;clear p0 p1 q0 q1 c2 fzp0 fzp1 HH;have c2:=h2.hd.cell 2;simp only[zJ,zK]at c2;obtain⟨g', cap', e1,_,_,p0,_,_⟩:=gY h2.items hp;simp only[qP,qI,Addr.mk.injEq,and_true,true_and]at e1;obtain⟨rfl,rfl⟩:=e1;rw[fH]at p0;have HP:=qA (aGZ h2 Hlt.out.2 (x:=p+1) (by omega) (p:Int) (by omega));have HF2:=qA f2;clear f2 h2;go_wp2_with fail
 refine HP.out.mono ?_;rintro _ w3 ⟨rfl,bs3,h3,f3,s3⟩;have hs2:=HF2.out.size;have HF3:=qA (HF2.out.trans' f3);have HS3:Hid (∀b∈hB slots ph (.slice (some ⟨g,0,none⟩) n cap) gp bs3,b∈hB slots ph (.slice (some ⟨g,0,none⟩) n cap) gp bs∨w.heap.size<=b):=qA (fun b hb=>(s3 b hb).imp (fun h=>h) (fun h=>by omega));clear c2 p0 HP f3 s3;have c2:=h3.hd.cell 2;simp only[zJ,zK]at c2;obtain⟨g', cap', e1,_,_,q0,_,_⟩:=gY h3.items hq;simp only[qP,qI,Addr.mk.injEq,and_true,true_and]at e1;obtain⟨rfl,rfl⟩:=e1;rw[kI]at q0;have HP:=qA (aGZ h3 Hlt.out.1 (x:=q+1) (by omega) (q:Int) (by omega));clear h3;go_wp2_with fail
 refine HP.out.mono ?_;rintro _ w4 ⟨rfl,bs4,h4,f4,s4⟩;have hs3:=HF3.out.size;have H4:=qA (zI h4 (zI (HF3.out.trans f4 (fun b hb=>HS3.out b hb)) (show ∀b∈hB slots ph (.slice (some ⟨g,0,none⟩) n cap) gp bs4,b∈hB slots ph (.slice (some ⟨g,0,none⟩) n cap) gp bs∨w.heap.size<=b from fun b hb=>(s4 b hb).elim (HS3.out b) (fun h=>.inr (by omega)))));clear h4 f4 s4;go_wp2
 go_end0
 exact⟨rfl,bs4,H4.out⟩
end
def pO(e:Nat->Nat×Int)(p:Nat):Int:=if 0<p/\elt (e p) (e ((p-1)/2)) then((p-1)/2:Nat) else -1
def rS(n:Nat)(e:Nat->Nat×Int)(p:Nat):Int:=if blw n e p=p then -1 else(blw n e p:Nat)
def kW(n:Nat)(e:Nat->Nat×Int)(p k:Nat):Nat:=if k=0 then p else if k=1 then aCE n e p else blw n e p
theorem aAA(n:Nat)(e:Nat->Nat×Int)(p:Nat):kW n e p 0=p:=by simp[kW]
theorem aAB(n:Nat)(e:Nat->Nat×Int)(p:Nat):kW n e p 1=aCE n e p:=by simp[kW]
theorem aFC(n:Nat)(e:Nat->Nat×Int)(p:Nat):kW n e p 2=blw n e p:=by simp[kW]
theorem aCF{n:Nat}{e:Nat->Nat×Int}{p k q:Nat}(hk:k<2)(hq:q=2*p+1+k)(h:q<n/\elt (e q) (e (kW n e p k))):kW n e p (k+1)=q:=by
 subst hq;rcases(show k=0∨k=1 by omega) with rfl|rfl
 · rw[aAA]at h;rw[aAB];unfold aCE;rw[qD h]
 · rw[aAB]at h;rw[aFC];unfold blw;rw[qD h]
theorem aHA{n:Nat}{e:Nat->Nat×Int}{p k q:Nat}(hk:k<2)(hq:q=2*p+1+k)(h:¬(q<n/\elt (e q) (e (kW n e p k)))):kW n e p (k+1)=kW n e p k:=by
 subst hq;rcases(show k=0∨k=1 by omega) with rfl|rfl
 · rw[aAA]at h ⊢;rw[aAB];unfold aCE;rw[qC h]
 · rw[aAB]at h ⊢;rw[aFC];unfold blw;rw[qC h]
theorem aRG{n:Nat}{e:Nat->Nat×Int}{p k:Nat}(hp:p<n)(hk:k<=2):kW n e p k<n:=by
 induction k with
 | zero=>rw[aAA];exact hp
 | succ k ih=>{
 by_cases h:2*p+1+k<n/\elt (e (2*p+1+k)) (e (kW n e p k))
 · rw[aCF (by omega) rfl h];exact h.1
 · rw[aHA (by omega) rfl h];exact ih (by omega)}
section
variable {w w' :World} {ph slots n:Nat} {e:Nat->Nat×Int} {pl:Nat->Nat} {v:Value} {gp cp:Nat} {bs:Nat->Option Nat}
theorem aAC(h:HM w ph slots n e pl v gp cp bs){p:Nat}(hp:p<n):
    Calls Tryz.prog 231 #[aP ph,.int .i64 p] w fun e' w' =>e' =.returned (.int .i64 (pO e p))/\Fr [] w w' :=by
 have hnb:=h.nb;have c2:=h.hd.cell 2;simp only[zJ,zK]at c2;by_cases h0:p=0
 {
 subst h0;have e1:pO e 0=-1:=by unfold pO;rw[qC (by omega)]
 rw[e1];clear e1 h;have t1:decide (((0:Nat):Int)>0)=false:=by decide
 have t1' :decide ((0:Int)>0)=false:=by decide
 go_enter Tryz.func231,Tryz.ntmps231
 go_wp2
 go_quiet (fail)
 go_wp2
 go_ret;exact⟨rfl,(Fr.refl _ _).drewN _⟩}
 {
 obtain⟨q,hq⟩:∃q,q=(p-1)/2:=⟨_,rfl⟩;have hqi:((p:Int)-1)/2=(q:Int):=by omega
 have hqn:q<n:=by omega
 obtain⟨g,cap,rfl,_,hgl,p0,p1,_⟩:=gY h.items hp;obtain⟨g', cap', e1,_,_,q0,q1,_⟩:=gY h.items hqn;simp only[qP,qI,Addr.mk.injEq,and_true,true_and]at e1;obtain⟨rfl,rfl⟩:=e1;have HO:=qA (fun W=>aGX (e p) (e q) W);have hp1:(p:Int)<n:=by omega
 have hq1:(q:Int)<n:=by omega
 have hp0:(0:Int)<=p:=by omega
 have hq0:(0:Int)<=q:=by omega
 have t1:decide (0<p)=true:=qG (by omega);have hcase:(vG (e p) (e q)<0/\pO e p=q)∨(¬vG (e p) (e q)<0/\pO e p=-1):=by {
 rw[aGW];unfold pO;rw[<-hq];by_cases hl:elt (e p) (e q)
 · exact .inl ⟨hl,by rw[qD ⟨by omega,hl⟩]⟩
 · exact .inr ⟨hl,by rw[qC (fun h=>hl h.2)]⟩};have HQ:=qA hq;clear hq h;generalize vG (e p) (e q)=r at *;generalize e p=x at *;generalize e q=y at *;obtain⟨x1,x2⟩:=x;obtain⟨y1,y2⟩:=y;rcases hcase with⟨hr,ha⟩|⟨hr,ha⟩
 {
 have t2:decide (r<0)=true:=qG hr;have HA:=qA ha;clear ha hr;go_enter Tryz.func231,Tryz.ntmps231
 go_wp2
 go_region_held3 (fun w' => w'.cell? ⟨ph, 2, none⟩ = some (.slice (some ⟨g, 0, none⟩) n cap) /\ w'.cell? ⟨g, p * 2, none⟩ = some (.int .i64 x1) /\ w'.cell? ⟨g, p * 2 + 1, none⟩ = some (.int .i64 x2) /\ w'.cell? ⟨g, q * 2, none⟩ = some (.int .i64 y1) /\ w'.cell? ⟨g, q * 2 + 1, none⟩ = some (.int .i64 y2))
   (first
     | go_keep
     | (exact⟨hF3.cell (by assumption) (by simp),hF3.cell (by assumption) (by simp),hF3.cell (by assumption) (by simp),hF3.cell (by assumption) (by simp),hF3.cell (by assumption) (by simp)⟩))
   (first
     | (go_at_call 245;refine(HO.out _).mono ?_;rintro e w3 ⟨rfl,hF3⟩))
 go_wp2
 go_ret;exact⟨by rw[HA.out];rfl,((Fr.refl [] w).drew).trans' hF3⟩}
 {
 have t2:decide (r<0)=false:=qF hr;have HA:=qA ha;clear ha hr;go_enter Tryz.func231,Tryz.ntmps231
 go_wp2
 go_region_held3 (fun w' => w'.cell? ⟨ph, 2, none⟩ = some (.slice (some ⟨g, 0, none⟩) n cap) /\ w'.cell? ⟨g, p * 2, none⟩ = some (.int .i64 x1) /\ w'.cell? ⟨g, p * 2 + 1, none⟩ = some (.int .i64 x2) /\ w'.cell? ⟨g, q * 2, none⟩ = some (.int .i64 y1) /\ w'.cell? ⟨g, q * 2 + 1, none⟩ = some (.int .i64 y2))
   (first
     | go_keep
     | (exact⟨hF3.cell (by assumption) (by simp),hF3.cell (by assumption) (by simp),hF3.cell (by assumption) (by simp),hF3.cell (by assumption) (by simp),hF3.cell (by assumption) (by simp)⟩))
   (first
     | (go_at_call 245;refine(HO.out _).mono ?_;rintro e w3 ⟨rfl,hF3⟩))
 go_wp2
 go_ret;exact⟨by rw[HA.out];rfl,((Fr.refl [] w).drew).trans' hF3⟩}}
theorem aHB(h:HM w ph slots n e pl v gp cp bs){p:Nat}(hp:p<n):
    Calls Tryz.prog 232 #[aP ph,.int .i64 p] w fun e' w' =>e' =.returned (.int .i64 (rS n e p))/\Fr [] w w' :=by
 have hnb:=h.nb;have c2:=h.hd.cell 2;simp only[zJ,zK]at c2;obtain⟨g,cap,rfl,_,hgl,_,_,_⟩:=gY h.items hp;have HE:Hid (∀(W:World) (x:Nat),Fr [] w W->x<n->W.cell? ⟨g,x*2,none⟩=some (.int .i64 ((e x).1:Int))/\W.cell? ⟨g,x*2+1,none⟩=some (.int .i64 (e x).2)):=qA (fun W x hf hx=>by
   obtain⟨g', cap', e1,_,_,q0,q1,_⟩:=gY (h.fr0 hf).items hx;simp only[qP,qI,Addr.mk.injEq,and_true,true_and]at e1;obtain⟨rfl,rfl⟩:=e1;exact⟨q0,q1⟩)
 have HC:Hid (∀(W:World),Fr [] w W->W.cell? ⟨ph,2,none⟩=some (.slice (some ⟨g,0,none⟩) n cap)):=qA (fun W hf=>hf.cell c2 (by simp));have HO:=qA (fun(a b:Nat×Int) (W:World)=>aGX a b W);clear h c2;go_enter Tryz.func232,Tryz.ntmps232
 go_wp2
 go_loopw [5,9] (fun sf sk wr=>∃k:Nat,k<=2/\sk=.int .i64 k/\sf=.int .i64 (kW n e p k:Nat)/\Hid (Fr [] w wr)) (fun _ sk _=>2-(intOf sk).toNat)
 case atStart=>exact⟨0,by omega,rfl,by rw[aAA],qA (Fr.refl _ _)⟩
 case round=>
  obtain⟨k,hk,rfl,rfl,HF⟩:=hrel;have hfl:=aRG (e:=e) hp hk;by_cases hk2:k<2
  {
  obtain⟨q,hq⟩:∃q,q=2*p+1+k:=⟨_,rfl⟩;have hqi:2*(p:Int)+1+(k:Int)=(q:Int):=by omega
  have hki:(k:Int)<2:=by omega
  have Hy:=qA (fun(h:q<n/\elt (e q) (e (kW n e p k)))=>aCF hk2 hq h);have Hn:=qA (fun(h:¬(q<n/\elt (e q) (e (kW n e p k))))=>aHA hk2 hq h);have HQ:=qA hq;clear hq;have c2:=HC.out _ HF.out;have hq0:(0:Int)<=q:=by omega
  generalize hF1:kW n e p (k+1)=f1 at *;have HF1:=qA hF1;clear hF1;generalize kW n e p k=f0 at *;have hf0:(0:Int)<=f0:=by omega
  have hf1:(f0:Int)<n:=by omega
  by_cases hqn:q<n
  {
  have hqn1:(q:Int)<n:=by omega
  have t1:decide (q<n)=true:=qG hqn;obtain⟨q0,q1⟩:=HE.out _ q HF.out hqn;obtain⟨p0,p1⟩:=HE.out _ f0 HF.out hfl;have HO2:=qA (fun W=>HO.out (e q) (e f0) W);have hcase:(vG (e q) (e f0)<0/\f1=q)∨(¬vG (e q) (e f0)<0/\f1=f0):=by {
  rw[aGW];by_cases hl:elt (e q) (e f0)
  · exact .inl ⟨hl,Hy.out ⟨hqn,hl⟩⟩
  · exact .inr ⟨hl,Hn.out (fun h=>hl h.2)⟩};clear Hy Hn;generalize vG (e q) (e f0)=r at *;generalize e q=x at *;generalize e f0=y at *;obtain⟨x1,x2⟩:=x;obtain⟨y1,y2⟩:=y;rcases hcase with⟨hr,ha⟩|⟨hr,ha⟩
  {
  have t2:decide (r<0)=true:=qG hr;have HA:=qA ha;clear ha hr;go_wp2
  go_region_held3 (fun w' => w'.cell? ⟨ph, 2, none⟩ = some (.slice (some ⟨g, 0, none⟩) n cap) /\ w'.cell? ⟨g, q * 2, none⟩ = some (.int .i64 x1) /\ w'.cell? ⟨g, q * 2 + 1, none⟩ = some (.int .i64 x2) /\ w'.cell? ⟨g, f0 * 2, none⟩ = some (.int .i64 y1) /\ w'.cell? ⟨g, f0 * 2 + 1, none⟩ = some (.int .i64 y2))
    (first
      | go_keep
      | (exact⟨hF3.cell (by assumption) (by simp),hF3.cell (by assumption) (by simp),hF3.cell (by assumption) (by simp),hF3.cell (by assumption) (by simp),hF3.cell (by assumption) (by simp)⟩))
    (first
      | (go_at_call 245;refine(HO2.out _).mono ?_;rintro e w3 ⟨rfl,hF3⟩))
  have HF3:=qA ((HF.out.drew).trans' hF3);clear hF3;go_wp2
  go_roundw
  case rel=>exact⟨k+1,by omega,by go_num,by rw[HF1.out,HA.out],HF3⟩
  case measure=>simp[intOf];omega}
  {
  have t2:decide (r<0)=false:=qF hr;have HA:=qA ha;clear ha hr;go_wp2
  go_region_held3 (fun w' => w'.cell? ⟨ph, 2, none⟩ = some (.slice (some ⟨g, 0, none⟩) n cap) /\ w'.cell? ⟨g, q * 2, none⟩ = some (.int .i64 x1) /\ w'.cell? ⟨g, q * 2 + 1, none⟩ = some (.int .i64 x2) /\ w'.cell? ⟨g, f0 * 2, none⟩ = some (.int .i64 y1) /\ w'.cell? ⟨g, f0 * 2 + 1, none⟩ = some (.int .i64 y2))
    (first
      | go_keep
      | (exact⟨hF3.cell (by assumption) (by simp),hF3.cell (by assumption) (by simp),hF3.cell (by assumption) (by simp),hF3.cell (by assumption) (by simp),hF3.cell (by assumption) (by simp)⟩))
    (first
      | (go_at_call 245;refine(HO2.out _).mono ?_;rintro e w3 ⟨rfl,hF3⟩))
  have HF3:=qA ((HF.out.drew).trans' hF3);clear hF3;go_wp2
  go_roundw
  case rel=>exact⟨k+1,by omega,by go_num,by rw[HF1.out,HA.out],HF3⟩
  case measure=>simp[intOf];omega}}
  {
  have t1:decide (q<n)=false:=qF hqn;have HA:=qA (Hn.out (fun h=>hqn h.1));clear Hy Hn hqn;go_wp2
  go_quiet (fail)
  go_wp2
  go_roundw
  case rel=>exact⟨k+1,by omega,by go_num,by rw[HF1.out,HA.out],qA (HF.out.drewN _)⟩
  case measure=>simp[intOf];omega}}
  {
  obtain rfl:k=2:=by omega
  rw[aFC]at *;have hres:(blw n e p=p/\rS n e p=-1)∨(blw n e p≠p/\rS n e p=(blw n e p:Nat)):=by {
  unfold rS;by_cases hb:blw n e p=p
  · exact .inl ⟨hb,by rw[qD hb]⟩
  · exact .inr ⟨hb,by rw[qC hb]⟩};generalize blw n e p=b at *;rcases hres with⟨hb,hr⟩|⟨hb,hr⟩
  {
  have t1:((b:Int) == (p:Int))=true:=by simp;omega
  have HR:=qA hr;clear hr hb;go_wp2
  go_ret;exact⟨by rw[HR.out];rfl,HF.out⟩}
  {
  have t1:((b:Int) == (p:Int))=false:=by simp;omega
  have HR:=qA hr;clear hr hb;go_wp2
  go_ret;exact⟨by rw[HR.out];rfl,HF.out⟩}}
end
structure Sft (W w:World) (ph slots n:Nat) (e0 e:Nat->Nat×Int) (pl:Nat->Nat) (v:Value) (gp cp:Nat) (bs0 bs:Nat->Option Nat) (b1 b2 p:Nat):Prop where
  hm:HM w ph slots n e pl v gp cp bs
  ok:kJ slots n e pl
  mem:∀y,(∃x,x<n/\e x=y)↔∃x,x<n/\e0 x=y
  c1:Blk w b1 149 [aP ph]
  c2:Blk w b2 3 [.int .i64 p]
  a1:b1∉hB slots ph v gp bs
  a2:b2∉hB slots ph v gp bs
  a12:b1≠b2
  fr:Fr (b2::hB slots ph v gp bs0) W w
  new:∀b∈hB slots ph v gp bs,b∈hB slots ph v gp bs0∨W.heap.size<=b
  lt:p<n
section
variable {W w w' :World} {ph slots n:Nat} {e0 e:Nat->Nat×Int} {pl:Nat->Nat} {v:Value} {gp cp:Nat} {bs0 bs:Nat->Option Nat} {b1 b2 p:Nat}
theorem Sft.keep(h:Sft W w ph slots n e0 e pl v gp cp bs0 bs b1 b2 p)(hf:Fr [] w w'):Sft W w' ph slots n e0 e pl v gp cp bs0 bs b1 b2 p:=
  ⟨h.hm.fr0 hf,h.ok,h.mem,hf.blk h.c1 (by simp),hf.blk h.c2 (by simp),h.a1,h.a2,h.a12,h.fr.trans' (hf.mono (by simp)),h.new,h.lt⟩
theorem Sft.step(h:Sft W w ph slots n e0 e pl v gp cp bs0 bs b1 b2 p){q:Nat}(hq:q<n){bs' :Nat->Option Nat}(hm:HM w' ph slots n (gX e p q) (kK (kK pl (e q).1 (p+1)) (e p).1 (q+1)) v gp cp bs')
    (hf:Fr (hB slots ph v gp bs) w w') (hn:∀b∈hB slots ph v gp bs', b∈hB slots ph v gp bs∨w.heap.size<=b):
    Sft W (w'.setCell ⟨b2,0,none⟩ (.int .i64 (q:Int))) ph slots n e0 (gX e p q) (kK (kK pl (e q).1 (p+1)) (e p).1 (q+1)) v gp cp bs0 bs' b1 b2 q:=by
 have k1:=h.c1.lt;have k2:=h.c2.lt;have hs:=hf.size;have hs0:=h.fr.size;have n1:b1∉hB slots ph v gp bs' :=fun hm=>(hn b1 hm).elim h.a1 (fun e=>by omega);have n2:b2∉hB slots ph v gp bs' :=fun hm=>(hn b2 hm).elim h.a2 (fun e=>by omega);have hset:Fr [b2] w' (w'.setCell ⟨b2,0,none⟩ (.int .i64 (q:Int))):=(Fr.refl _ _).setCell _ _ (.inl (by simp));refine⟨hm.fr hset (fun b hb hm=>?_),h.ok.swap h.lt hq,fun y=>(aMZ h.lt hq y).trans (h.mem y),(hf.blk h.c1 h.a1).other _ _ h.a12,?_,n1,n2,h.a12,?_,fun b hb=>?_,hq⟩
 · simp at hm;subst hm;exact n2 hb
 · have:=(hf.blk h.c2 h.a2).set 0 (.int .i64 (q:Int));exact this
 {
 refine(h.fr.trans hf (fun b hb=>(h.new b hb).imp (fun e=>List.mem_cons_of_mem _ e) (fun e=>e))).trans' (hset.mono (fun b hb=>.inl ?_));simp at hb;subst hb;exact List.mem_cons_self}
 {
 rcases hn b hb with e|e
 · exact h.new b e
 · exact .inr (by omega)}
def msd(n:Nat):Value->Nat
  | .int _ x=>if x<0 then 0 else n-x.toNat
  | _=>0
theorem aRH(n:Nat):msd n (.int .i64 (-1))=0:=by simp[msd]
theorem aAD(n z:Nat):msd n (.int .i64 (z:Int))=n-z:=by
 show(if (z:Int)<0 then 0 else n-(z:Int).toNat)=n-z
 rw[qC (by omega)];simp
theorem aXM(e:Nat->Nat×Int){q:Nat}(_hq:q<n):blw n e q=q∨(q<blw n e q/\blw n e q<n):=by
 rcases xP n e q with h|⟨h1,h2,_⟩
 · exact .inl h
 · exact .inr ⟨by omega,h1⟩
theorem aRI(h:Sft W w ph slots n e0 e pl v gp cp bs0 bs b1 b2 p)(hu:UpI n e p):
    Calls Tryz.prog 230 #[.func (.func 231) #[aP ph] #[],aP b2,aP b1] w fun r w' =>r=.returned (.tuple #[])/\∃e' pl' bs' p', Sft W w' ph slots n e0 e' pl' v gp cp bs0 bs' b1 b2 p' /\ Hp n e' :=by
 have hnb:=h.hm.nb;have x1:=h.c1.cell 0;have x2:=h.c2.cell 0;simp only[zJ]at x1 x2;have HA:=qA (aAC h.hm h.lt);have HS:=qA (zI h hu);clear h hu;go_enter Tryz.func230,Tryz.ntmps230
 go_wp2_with fail
 refine HA.out.mono ?_;rintro _ w1 ⟨rfl,hf1⟩;have HS1:=qA (zI (HS.out.1.keep hf1) HS.out.2);clear HS HA hf1 x1 x2;go_wp2
 go_loopw [4] (fun sq wr=>∃(e:Nat->Nat×Int) (pl:Nat->Nat) (bs:Nat->Option Nat) (p:Nat),sq=.int .i64 (pO e p)/\Hid (Sft W wr ph slots n e0 e pl v gp cp bs0 bs b1 b2 p/\UpI n e p)) (fun s _=>(intOf s+1).toNat)
 case atStart=>exact⟨e,pl,bs,p,rfl,HS1⟩
 case round=>
  clear HS1;obtain⟨e,pl,bs,p,rfl,HS⟩:=hrel;have hplt:=HS.out.1.lt;by_cases hc:0<p/\elt (e p) (e ((p-1)/2))
  {
  obtain⟨q,hq⟩:∃q,q=(p-1)/2:=⟨_,rfl⟩;have hv:pO e p=(q:Int):=by unfold pO;rw[qD hc,<-hq]
  have hqn:q<n:=by omega
  have hstep:=aQZ HS.out.2 hc.1 hplt hc.2;rw[<-hq]at hstep;have HC:=qA hc;clear hc hq;have x1:=HS.out.1.c1.cell 0;have x2:=HS.out.1.c2.cell 0;simp only[zJ]at x1 x2;have HW:=qA (aFB HS.out.1.hm HS.out.1.lt hqn HS.out.1.ok.lt);have t1:((q:Int) != -1)=true:=by simp
  have Hv:=qA hv;rw[hv];clear hv;go_wp2_with fail
  refine HW.out.mono ?_;rintro _ w2 ⟨rfl,bs2,hm2,hf2,hn2⟩;have hS2:=HS.out.1.step hqn hm2 hf2 hn2;have y1:=(hf2.blk HS.out.1.c1 HS.out.1.a1).cell 0;have y2:=(hf2.blk HS.out.1.c2 HS.out.1.a2).cell 0;have z2:=(hf2.blk HS.out.1.c2 HS.out.1.a2).frozen 0;have u2:=hS2.c2.cell 0;simp only[zJ]at y1 y2 u2;have HA2:=qA (aAC hS2.hm hS2.lt);have HS2:=qA (zI hS2 hstep);clear hm2 hf2 hn2 hS2 hstep HW x1 x2;go_wp2_with fail
  refine HA2.out.mono ?_;rintro _ w3 ⟨rfl,hf3⟩;have HS3:=qA (zI (HS2.out.1.keep hf3) HS2.out.2);clear HS2 HA2 hf3 y1 y2 z2 u2;go_wp2
  go_roundw
  case rel=>exact⟨_,_,_,q,rfl,HS3⟩
  case measure=>(simp only[intOf];unfold pO;split<;>omega)}
  {
  have hv:pO e p=-1:=by unfold pO;rw[qC hc]
  have hdone:=aQY HS.out.2 hc;have HD:=qA hdone;clear hdone;rw[hv];clear hv;go_wp2
  go_end0
  exact⟨rfl,e,pl,bs,p,HS.out.1,HD.out⟩}
theorem aHC(h:Sft W w ph slots n e0 e pl v gp cp bs0 bs b1 b2 p)(hu:DnI n e p):
    Calls Tryz.prog 230 #[.func (.func 232) #[aP ph] #[],aP b2,aP b1] w fun r w' =>r=.returned (.tuple #[])/\∃e' pl' bs' p', Sft W w' ph slots n e0 e' pl' v gp cp bs0 bs' b1 b2 p' /\ Hp n e' :=by
 have hnb:=h.hm.nb;have x1:=h.c1.cell 0;have x2:=h.c2.cell 0;simp only[zJ]at x1 x2;have HA:=qA (aHB h.hm h.lt);have HS:=qA (zI h hu);clear h hu;go_enter Tryz.func230,Tryz.ntmps230
 go_wp2_with fail
 refine HA.out.mono ?_;rintro _ w1 ⟨rfl,hf1⟩;have HS1:=qA (zI (HS.out.1.keep hf1) HS.out.2);clear HS HA hf1 x1 x2;go_wp2
 go_loopw [4] (fun sq wr=>∃(e:Nat->Nat×Int) (pl:Nat->Nat) (bs:Nat->Option Nat) (p:Nat),sq=.int .i64 (rS n e p)/\Hid (Sft W wr ph slots n e0 e pl v gp cp bs0 bs b1 b2 p/\DnI n e p)) (fun s _=>msd n s)
 case atStart=>exact⟨e,pl,bs,p,rfl,HS1⟩
 case round=>
  clear HS1;obtain⟨e,pl,bs,p,rfl,HS⟩:=hrel;have hplt:=HS.out.1.lt;by_cases hc:blw n e p≠p
  {
  obtain⟨q,hq⟩:∃q,q=blw n e p:=⟨_,rfl⟩;have hv:rS n e p=(q:Int):=by unfold rS;rw[qC hc,<-hq]
  obtain⟨hstep,hpq,hqn⟩:=aRC HS.out.2 hc;rw[<-hq]at hstep hpq hqn;have HC:=qA hc;clear hc hq;have x1:=HS.out.1.c1.cell 0;have x2:=HS.out.1.c2.cell 0;simp only[zJ]at x1 x2;have HW:=qA (aFB HS.out.1.hm HS.out.1.lt hqn HS.out.1.ok.lt);have t1:((q:Int) != -1)=true:=by simp
  have Hv:=qA hv;rw[hv];clear hv;go_wp2_with fail
  refine HW.out.mono ?_;rintro _ w2 ⟨rfl,bs2,hm2,hf2,hn2⟩;have hS2:=HS.out.1.step hqn hm2 hf2 hn2;have y1:=(hf2.blk HS.out.1.c1 HS.out.1.a1).cell 0;have y2:=(hf2.blk HS.out.1.c2 HS.out.1.a2).cell 0;have z2:=(hf2.blk HS.out.1.c2 HS.out.1.a2).frozen 0;have u2:=hS2.c2.cell 0;simp only[zJ]at y1 y2 u2;have HA2:=qA (aHB hS2.hm hS2.lt);have HS2:=qA (zI hS2 hstep);clear hm2 hf2 hn2 hS2 hstep HW x1 x2;go_wp2_with fail
  refine HA2.out.mono ?_;rintro _ w3 ⟨rfl,hf3⟩;have HS3:=qA (zI (HS2.out.1.keep hf3) HS2.out.2);clear HS2 HA2 hf3 y1 y2 z2 u2;go_wp2
  go_roundw
  case rel=>exact⟨_,_,_,q,rfl,HS3⟩
  case measure=>
   rcases aXM (gX e p q) hqn with hb|⟨hb,hb2⟩
   {
   rw[show rS n (gX e p q) q=-1 by unfold rS;rw[qD hb],aRH,aAD];omega}
   {
   rw[show rS n (gX e p q) q=(blw n (gX e p q) q:Nat) by unfold rS;rw[qC (by omega)],aAD,aAD];omega}}
  {
  have hv:rS n e p=-1:=by unfold rS;rw[qD (Classical.not_not.1 hc)]
  have hdone:=aRB HS.out.2 (Classical.not_not.1 hc);have HD:=qA hdone;clear hdone;rw[hv];clear hv;go_wp2
  go_end0
  exact⟨rfl,e,pl,bs,p,HS.out.1,HD.out⟩}
theorem aXN(h:Hp n e)(hp:p<n):DnI n e p:=
  ⟨fun k h0 hk _=>h k h0 hk,fun h0 c hc0 hc hcp=>by
 have h1:=h c hc0 hc;rw[hcp]at h1;exact oL h1 (h p h0 hp)⟩
theorem aNF(h:Sft W w ph slots n e0 e pl v gp cp bs0 bs b1 b2 p)(hp0:p=0):
    Calls Tryz.prog 230 #[.func (.func 231) #[aP ph] #[],aP b2,aP b1] w fun r w' =>r=.returned (.tuple #[])/\Fr [] w w' :=by
 have x1:=h.c1.cell 0;have x2:=h.c2.cell 0;simp only[zJ]at x1 x2;have hA:=aAC h.hm h.lt;have e1:pO e p=-1:=by unfold pO;rw[qC (by omega)]
 rw[e1]at hA;have HA:=qA hA;clear h hA e1 hp0;go_enter Tryz.func230,Tryz.ntmps230
 go_wp2_with fail
 refine HA.out.mono ?_;rintro _ w1 ⟨rfl,hf1⟩;have HF:=qA hf1;clear HA hf1 x1 x2;go_wp2
 go_loopw [4] (fun sq wr=>sq=.int .i64 (-1)/\wr=w1) (fun _ _=>0)
 case atStart=>exact⟨rfl,rfl⟩
 case round=>
  obtain⟨rfl,rfl⟩:=hrel;go_wp2
  go_end0
  exact⟨rfl,HF.out⟩
theorem aCG(h:HM w ph slots n e pl v gp cp bs)(hk:kJ slots n e pl){p:Nat}(hp:p<n)(hi:UpI n e p∨(p=0/\DnI n e 0)):
    Calls Tryz.prog 210 #[aP ph,.int .i64 p] w fun r w' =>r=.returned (.tuple #[])/\∃e' pl' bs', HM w' ph slots n e' pl' v gp cp bs' /\ kJ slots n e' pl' /\ Hp n e' /\ (∀y,(∃x,x<n/\e' x=y)↔∃x,x<n/\e x=y) /\
      Fr (hB slots ph v gp bs) w w' /\ ∀b∈hB slots ph v gp bs', b∈hB slots ph v gp bs∨w.heap.size<=b:=by
 have hlt:=h.lt;have k1:=Blk.new w [aP ph] 149;have k2:=Blk.new (w.alloc (.cells [aP ph].toArray 149)) [.int .i64 p] 3;have k1' :=k1.alloc (.cells [.int .i64 p].toArray 3);simp only[World.size_alloc]at k2;have hF0:Fr [] w ((w.alloc (.cells [aP ph].toArray 149)).alloc (.cells [.int .i64 p].toArray 3)):=((Fr.refl _ _).alloc _).alloc _;have hS:Sft w ((w.alloc (.cells [aP ph].toArray 149)).alloc (.cells [.int .i64 p].toArray 3)) ph slots n e e pl v gp cp bs bs w.heap.size (w.heap.size+1) p:=
   ⟨h.fr0 hF0,hk,fun y=>Iff.rfl,k1', k2,fun hm=>by have:=hlt _ hm;omega,fun hm=>by have:=hlt _ hm;omega,by omega,hF0.mono (by simp),fun b hb=>.inl hb,hp⟩
 have x1:=k1'.cell 0;simp only[zJ]at x1;have HS:=qA hS;have HI:=qA hi;clear hS hi h hk k1 k2 k1' hF0 hlt;have hsz:((w.alloc (.cells [aP ph].toArray 149)).alloc (.cells [.int .i64 p].toArray 3)).heap.size=w.heap.size+2:=by simp
 have Hsz:=qA hsz;clear hsz;go_enter Tryz.func210,Tryz.ntmps210
 generalize hw0:((w.alloc (.cells #[aP ph] 149)).alloc (.cells #[.int .i64 (p:Int)] 3))=w0 at *;have HW0:=qA hw0;clear hw0;rcases HI.out with hu|⟨hp0,hd⟩
 {
 have HU:=qA (aRI HS.out hu);clear hu HI;go_wp2_with fail
 rw[HW0.out];refine HU.out.mono ?_;rintro _ w1 ⟨rfl,e1,pl1,bs1,p1,h1,g1⟩;have x1:=h1.c1.cell 0;simp only[zJ]at x1;have HD:=qA (aHC h1 (aXN g1 h1.lt));clear h1 g1 HU HS;go_wp2_with fail
 refine HD.out.mono ?_;rintro _ w2 ⟨rfl,e2,pl2,bs2,p2,h2,g2⟩;have H2:=qA (zI h2 g2);clear h2 g2 HD;go_wp2
 go_end0
 exact⟨rfl,e2,pl2,bs2,H2.out.1.hm,H2.out.1.ok,H2.out.2,H2.out.1.mem,H2.out.1.fr.mono (fun b hb=>by
   rcases qB.1 hb with rfl|hb
   · exact .inr (by omega)
   · exact .inl hb),H2.out.1.new⟩}
 {
 have HU:=qA (aNF HS.out hp0);rw[<-hp0]at hd;have Hd:=qA hd;clear HI hp0 hd;go_wp2_with fail
 rw[HW0.out];refine HU.out.mono ?_;rintro _ w1 ⟨rfl,f1⟩;have h1:=HS.out.keep f1;have x1:=h1.c1.cell 0;simp only[zJ]at x1;have HD:=qA (aHC h1 Hd.out);clear h1 HU HS f1;go_wp2_with fail
 refine HD.out.mono ?_;rintro _ w2 ⟨rfl,e2,pl2,bs2,p2,h2,g2⟩;have H2:=qA (zI h2 g2);clear h2 g2 HD;go_wp2
 go_end0
 exact⟨rfl,e2,pl2,bs2,H2.out.1.hm,H2.out.1.ok,H2.out.2,H2.out.1.mem,H2.out.1.fr.mono (fun b hb=>by
   rcases qB.1 hb with rfl|hb
   · exact .inr (by omega)
   · exact .inl hb),H2.out.1.new⟩}
end
def dE(w:World)(ph slots:Nat)(Q:Nat->Option Int)(n:Nat)(l:List Nat):Prop:=
  ∃e pl v gp cp bs,HM w ph slots n e pl v gp cp bs/\kJ slots n e pl/\Hp n e/\(∀i k,Q i=some k↔∃p,p<n/\e p=(i,k))/\l=hB slots ph v gp bs
def nK(Q:Nat->Option Int)(i:Nat)(k:Option Int):Nat->Option Int:=fun x=>if x=i then k else Q x
theorem jR(Q:Nat->Option Int)(i:Nat)(k:Option Int):nK Q i k i=k:=by simp[nK]
theorem gJ{Q:Nat->Option Int}{i x:Nat}{k:Option Int}(h:x≠i):nK Q i k x=Q x:=by simp[nK,h]
section
variable {w w' :World} {ph slots n:Nat} {Q:Nat->Option Int} {l S:List Nat}
theorem dE.lt(h:dE w ph slots Q n l):∀b∈l,b<w.heap.size:=by
 obtain⟨e,pl,v,gp,cp,bs,h1,_,_,_,rfl⟩:=h;exact h1.lt
theorem dE.fr(h:dE w ph slots Q n l)(hf:Fr S w w')(hs:∀b∈l,b∉S):dE w' ph slots Q n l:=by
 obtain⟨e,pl,v,gp,cp,bs,h1,h2,h3,h4,rfl⟩:=h;exact⟨e,pl,v,gp,cp,bs,h1.fr hf hs,h2,h3,h4,rfl⟩
theorem dE.le(h:dE w ph slots Q n l):n<=slots/\slots<=65536:=by
 obtain⟨e,pl,v,gp,cp,bs,h1,h2,_⟩:=h;exact⟨h2.le,h1.le⟩
end
section
variable {w w' :World} {ph slots n:Nat} {e:Nat->Nat×Int} {pl:Nat->Nat} {v:Value} {gp cp:Nat} {bs:Nat->Option Nat}
theorem HM.push(h:HM w ph slots n e pl v gp cp bs){w4:World}{g' cap' :Nat}(box:Obj)(x:Nat×Int)(hn:n+1<=65536)
    (hown:w4.ownsRow 0 223 2 (.slice (some ⟨g', 0,none⟩) (n+1) cap') (n+1) (iL n e++[.int .i64 x.1,.int .i64 x.2]))
    (hgrow:(w.alloc box).grownBy w4 v.ownBlock) (hg:v.ownBlock=some g' ∨ (w.alloc box).heap.size<=g'):
    HM (w4.setCell ⟨ph,2,none⟩ (.slice (some ⟨g', 0,none⟩) (n+1) cap')) ph slots (n+1) (lU e n x) pl (.slice (some ⟨g', 0,none⟩) (n+1) cap') gp cp bs /\
      Fr (hB slots ph v gp bs) w (w4.setCell ⟨ph,2,none⟩ (.slice (some ⟨g', 0,none⟩) (n+1) cap'))/\∀q∈hB slots ph (.slice (some ⟨g', 0,none⟩) (n+1) cap') gp bs,q∈hB slots ph v gp bs∨w.heap.size<=q:=by
 have hlt:=h.lt;simp only[World.size_alloc]at hg;have hF4:Fr v.ownBlock.toList w w4:=((Fr.refl _ _).alloc _).grown hgrow (fun q e=>.inl (by simp[e]));have e1:(Value.slice (some ⟨g', 0,none⟩) (n+1) cap').ownBlock=some g' :=rfl;have hne:∀b∈hB slots ph v gp bs,v.ownBlock≠some b->g' ≠ b:=by {
 rintro b hb hv rfl;rcases hg with e|e
 · exact hv e
 · have:=hlt _ hb;omega};have hg1:=hne ph (dQ.2 (.inl rfl)) h.ap2;have hg2:=hne gp (dQ.2 (.inr (.inl rfl))) h.ap3;rw[aJM]at hown;refine⟨⟨(hF4.blk h.hd (fun hm=>h.ap2 (by simpa using hm))).set 2 _,bL hown _ _ (by rw[e1];simpa using hg1),(hF4.blk h.dir (fun hm=>h.ap3 (by simpa using hm))).other _ _ (fun e=>h.ap1 e.symm),fun k b hk hb=>?_,h.none_,h.le,hn,h.pb,h.ap1,by rw[e1];simpa using hg1,by rw[e1];simpa using hg2,fun k b hk hb=>?_,h.ap5⟩,?_,?_⟩
 {
 have a4:=h.ap4 k b hk hb;exact(hF4.blk (h.some_ k b hk hb) (fun hm=>a4.2.2 (by simpa using hm))).other _ _ a4.1}
 {
 have a4:=h.ap4 k b hk hb;refine⟨a4.1,a4.2.1,?_⟩;rw[e1];simpa using hne b (dQ.2 (.inr (.inr (.inr ⟨k,hk,hb⟩)))) a4.2.2}
 {
 refine(hF4.mono (fun q hq=>.inl ?_)).setCell _ _ (.inl (by simp[hB]));simp only[Option.mem_toList]at hq;exact dQ.2 (.inr (.inr (.inl hq)))}
 {
 intro q hq;rcases dQ.1 hq with hq|hq|hq|hq
 · exact .inl (dQ.2 (.inl hq))
 · exact .inl (dQ.2 (.inr (.inl hq)))
 {
 rw[e1]at hq;cases hq;rcases hg with e|e
 · exact .inl (dQ.2 (.inr (.inr (.inl e))))
 · exact .inr (by omega)}
 · exact .inl (dQ.2 (.inr (.inr (.inr hq))))}
def entZ:Value:=.agg #[.int .i64 0,.int .i64 0]
theorem Tryz.infoEnt:(Tryz.prog.info? 223).map (fun i=>(i.zero,i.size,i.bytes))=some (some entZ,2,16):=by kernel_rfl
end
theorem aHD{w:World}{ph slots n:Nat}{Q:Nat->Option Int}{l:List Nat}(h:dE w ph slots Q n l){i:Nat}(hi:i<slots)(hQ:Q i=none)(k:Int):
    Calls Tryz.prog 177 #[aP ph,.int .i64 i,.int .i64 k] w fun r w' =>r=.returned (.int .i64 0)/\∃l', dE w' ph slots (nK Q i (some k)) (n+1) l' /\ Fr l w w' /\ ∀b∈l', b∈l∨w.heap.size<=b:=by
 obtain⟨e,pl,v,gp,cp,bs,hm,hk,hp,hq,rfl⟩:=h;have hpl:pl i=0:=by {
 apply qQ;intro h0;obtain⟨p,hpn,hpe⟩:=hk.inv i h0;have:=(hq i (e p).2).2 ⟨p,hpn,by rw[<-hpe]⟩;rw[hQ]at this;cases this};have hk1:=hk.push (k:=k) hi hpl;have hn1:=hk1.le;have hle:=hm.le;have HV:=qA (lV hm);have HH:=qA (aNE hm hi);have hP:=aGY hm hi;rw[hpl]at hP;have HP:=qA hP;have c2:=hm.hd.cell 2;simp only[zJ,zK]at c2;obtain⟨a,cap,rfl⟩:=aO hm.items;have HM0:=qA hm;have HK:=qA (zI hk1 (aRA hp (i,k)));have HQ:=qA (zI hq hQ);have t1:(((0:Nat):Int)-1 != -1)=false:=by decide
 have t2:((0:Int)-1 != -1)=false:=by decide
 clear hm hk hp hq hQ hpl hP hk1;go_enter Tryz.func177,Tryz.ntmps177
 go_wp2_with fail
 refine HV.out.mono ?_;rintro _ w ⟨rfl,rfl⟩;go_wp2_with fail
 refine HH.out.mono ?_;rintro _ w ⟨rfl,rfl⟩;go_wp2_with fail
 refine HP.out.mono ?_;rintro _ w ⟨rfl,rfl⟩;go_wp2_with (at_builtin;refine lH rfl _ _ 239 rfl 223 entZ 2 16 Tryz.underlying239 Tryz.infoEnt rfl (by decide) (.slice a n cap) n _ rfl (HM0.out.items.alloc _) w.heap.size 223 [.int .i64 i,.int .i64 k] rfl (Blk.new w _ _) rfl (by simp[Value.oneCell']) (by omega) (by decide) ?_;intro g' cap' w4 hown4 hgrow4 hg4;obtain⟨hR4,hF4,hq4⟩:=HM.push HM0.out _ (i,k) (by omega) hown4 hgrow4 hg4;have hk4:=(((Fr.refl _ _).alloc _).grown (S:=(Value.slice a n cap).ownBlock.toList) hgrow4 (fun q e=>.inl (by simp[e]))).blk HM0.out.hd (fun hm=>HM0.out.ap2 (by simpa using hm));have z4:=hk4.frozen 2;have y4:=hk4.cell 2;simp only[zJ,zK]at y4)
 have H4:=qA (zI hR4 (zI hF4 hq4));clear hR4 hF4 hq4 hown4 hgrow4 hg4 hk4 c2;generalize hw5:w4.setCell ⟨ph,2,none⟩ (.slice (some ⟨g', 0,none⟩) (n+1) cap')=w5 at *;have HW5:=qA hw5;clear hw5;have HPu:=qA (aGZ H4.out.1 hi (x:=n+1) (by omega) (n:Int) (by omega));refine HPu.out.mono ?_;rintro _ w6 ⟨rfl,bs6,h6,f6,s6⟩;have hs0:=H4.out.2.1.size;have HF6:=qA (H4.out.2.1.trans f6 H4.out.2.2);have HN6:Hid (∀b∈hB slots ph (.slice (some ⟨g', 0,none⟩) (n+1) cap') gp bs6,b∈hB slots ph (.slice a n cap) gp bs∨w.heap.size<=b):=qA (fun b hb=>(s6 b hb).elim (H4.out.2.2 b) (fun e=>.inr (by omega)));have HSe:=qA (aCG h6 HK.out.1 (p:=n) (by omega) (.inl HK.out.2));clear h6 f6 s6 HPu;go_wp2_with fail
 refine HSe.out.mono ?_;rintro _ w7 ⟨rfl,e7,pl7,bs7,h7,k7,p7,m7,f7,s7⟩;have hs6:=HF6.out.size;have H7:=qA (zI h7 (zI k7 (zI p7 m7)));have HF7:=qA (zI (HF6.out.trans f7 HN6.out) (show ∀b∈hB slots ph (.slice (some ⟨g', 0,none⟩) (n+1) cap') gp bs7,b∈hB slots ph (.slice a n cap) gp bs∨w.heap.size<=b from fun b hb=>(s7 b hb).elim (HN6.out b) (fun e=>.inr (by omega))));clear h7 k7 p7 m7 f7 s7 HSe;go_wp2
 go_ret;refine⟨rfl,_,⟨e7,pl7,_,gp,cp,bs7,H7.out.1,H7.out.2.1,H7.out.2.2.1,fun j x=>?_,rfl⟩,HF7.out.1,HF7.out.2⟩;rw[H7.out.2.2.2];constructor
 {
 intro hx;by_cases e1:j=i
 {
 subst e1;rw[jR]at hx;cases hx;exact⟨n,by omega,fM _ _ _⟩}
 {
 rw[gJ e1]at hx;obtain⟨p,hp,hpe⟩:=(HQ.out.1 j x).1 hx;exact⟨p,by omega,by rw[dJ (by omega)];exact hpe⟩}}
 {
 rintro⟨p,hp,hpe⟩;by_cases e1:p=n
 {
 subst e1;rw[fM]at hpe;simp only[zE]at hpe;obtain⟨rfl,rfl⟩:=hpe;exact jR _ _ _}
 {
 rw[dJ e1]at hpe;have h1:=(HQ.out.1 j x).2 ⟨p,by omega,hpe⟩;rw[gJ (fun e2=>by rw[e2,HQ.out.2]at h1;cases h1)];exact h1}}
theorem aCH{w:World}{base:Nat}{e:TypeId}{size:Nat}{g n m cap:Nat}{xs ys:List Value}(h:w.ownsRow base e size (.slice (some ⟨g,0,none⟩) (n+m) cap) (n+m) (xs++ys))(hx:xs.length=n*size):
    w.ownsRow base e size (.slice (some ⟨g,0,none⟩) n cap) n xs:=by
 obtain⟨h1,h2⟩:=h;rcases h2 with⟨h2,_⟩|⟨g', cap', cur,e1,hb,hh,hn,hm,hsz,hxs⟩
 · cases h2
 {
 simp only[qP,qI,Addr.mk.injEq,and_true,true_and]at e1;obtain⟨rfl,rfl⟩:=e1;refine⟨hx,.inr ⟨g,cap,cur,rfl,hb,hh,by omega,hm,hsz,?_⟩⟩;have:=congrArg (List.take (n*size)) hxs;have e2:(xs++ys).take (n*size)=xs:=by rw[<-hx,List.take_left'];rfl
 rw[List.take_take,Nat.min_eq_left (Nat.mul_le_mul_right _ (by omega)),e2]at this;exact this}
section
variable {w w' :World} {ph slots n:Nat} {e:Nat->Nat×Int} {pl:Nat->Nat} {v:Value} {gp cp:Nat} {bs:Nat->Option Nat}
theorem aNG(h:HM w ph slots 0 e pl v gp cp bs):Calls Tryz.prog 196 #[aP ph] w fun r w' =>r=.returned (.tuple #[.agg #[.int .i64 0,.int .i64 0],.bool false])/\Fr [] w w' :=by
 have hf0:Fr [] w (w.alloc (.cells #[.int .i64 0,.int .i64 0] 223)):=(Fr.refl _ _).alloc _;have HV:=qA (lV (h.fr0 hf0));obtain⟨a,cap,rfl⟩:=aO h.items;have c2:=(h.fr0 hf0).hd.cell 2;simp only[zJ,zK]at c2;have HF:=qA hf0;clear h hf0;go_enter Tryz.func196,Tryz.ntmps196
 go_wp2_with fail
 refine HV.out.mono ?_;rintro _ w1 ⟨rfl,rfl⟩;go_wp2
 refine bodyPost_ret (v:=.tuple #[.agg #[.int .i64 0,.int .i64 0],.bool false]) (by simp[results,Tryz.results196,go_sem]) rfl ⟨rfl,(Fr.refl _ _).alloc _⟩
theorem aHE(h:HM w ph slots n e pl v gp cp bs)(hn:0<n):Calls Tryz.prog 196 #[aP ph] w fun r w' =>r=.returned (.tuple #[.agg #[.int .i64 ((e 0).1:Nat),.int .i64 (e 0).2],.bool true])/\Fr [] w w' :=by
 have hf0:Fr [] w (w.alloc (.cells #[.int .i64 0,.int .i64 0] 223)):=(Fr.refl _ _).alloc _;have HV:=qA (lV (h.fr0 hf0));obtain⟨g,cap,rfl,_,_,q0,q1,_⟩:=gY (h.fr0 hf0).items hn;have c2:=(h.fr0 hf0).hd.cell 2;simp only[zJ,zK]at c2;simp only[Nat.zero_mul,Nat.zero_add]at q0 q1;have t1:((n:Int) == 0)=false:=by simp;omega
 have t2:(0:Int)<n:=by omega
 have HF:=qA hf0;clear h hf0;generalize (e 0).1=x at *;generalize (e 0).2=y at *;clear hn;go_enter Tryz.func196,Tryz.ntmps196
 go_wp2_with fail
 refine HV.out.mono ?_;rintro _ w1 ⟨rfl,rfl⟩;go_wp2
 exact bodyPost_ret (v:=.tuple #[.agg #[.int .i64 x,.int .i64 y],.bool true]) (by simp[results,Tryz.results196,go_sem]) rfl ⟨rfl,(Fr.refl _ _).alloc _⟩
theorem HM.cut{g cap:Nat}(h:HM w ph slots (n+1) e pl (.slice (some ⟨g,0,none⟩) (n+1) cap) gp cp bs):
    HM (w.setCell ⟨ph,2,none⟩ (.slice (some ⟨g,0,none⟩) n cap)) ph slots n e pl (.slice (some ⟨g,0,none⟩) n cap) gp cp bs:=by
 have a2:=h.ap2;have a3:=h.ap3;simp only[Value.ownBlock]at a2 a3;have h1:=h.items;rw[entC_succ']at h1;refine⟨h.hd.set 2 _,bL (aCH h1 (jQ n e)) _ _ a2,h.dir.other _ _ (fun e=>h.ap1 e.symm),fun k b hk hb=>(h.some_ k b hk hb).other _ _ (h.ap4 k b hk hb).1,h.none_,h.le,by have:=h.nb;omega,h.pb,h.ap1,a2,a3,h.ap4,h.ap5⟩
theorem aUQ(h:HM w ph slots (n+1) e pl v gp cp bs)(hk:kJ slots (n+1) e pl)(hp:Hp (n+1) e):
    Calls Tryz.prog 197 #[aP ph,.int .i64 0] w fun r w' =>r=.returned (.tuple #[])/\∃e' pl' v' bs', HM w' ph slots n e' pl' v' gp cp bs' /\ kJ slots n e' pl' /\ Hp n e' /\ (∀y,(∃x,x<n/\e' x=y)↔∃x,x<n+1/\x≠0/\e x=y) /\
      Fr (hB slots ph v gp bs) w w' /\ ∀b∈hB slots ph v' gp bs', b∈hB slots ph v gp bs∨w.heap.size<=b:=by
 have hnb:=h.nb;have hlt:=hk.lt;have c2:=h.hd.cell 2;simp only[zJ,zK]at c2;obtain⟨g,cap,rfl,hcap,_,_,_,_⟩:=gY h.items (show 0<n+1 by omega);have hks:=hk.swap (p:=0) (q:=n) (by omega) (by omega);have hkp:=hks.pop;have hmem:∀y,(∃x,x<n/\gX e 0 n x=y)↔∃x,x<n+1/\x≠0/\e x=y:=by {
 intro y;constructor
 {
 rintro⟨x,hx,rfl⟩;by_cases h0:x=0
 · subst h0;exact⟨n,by omega,by omega,(fH e 0 n).symm⟩
 · exact⟨x,by omega,h0,(eJ h0 (by omega)).symm⟩}
 {
 rintro⟨x,hx,h0,rfl⟩;by_cases h1:x=n
 · subst h1;exact⟨0,by omega,fH e 0 x⟩
 · exact⟨x,by omega,eJ h0 h1⟩}};have hdn:=aUP hp;have hidx:(gX e 0 n n).1<slots:=hks.lt n (by omega);have HS:=qA (aFB h (p:=0) (q:=n) (by omega) (by omega) hlt);have HK:=qA (zI hkp (zI hmem (zI hdn hidx)));clear h hk hp hlt hks hkp hmem hdn hidx;go_enter Tryz.func197,Tryz.ntmps197
 go_wp2_with fail
 refine HS.out.mono ?_;rintro _ w1 ⟨rfl,bs1,h1,f1,s1⟩;obtain⟨g', cap', e1,_,_,q0,_,_⟩:=gY h1.items (show n<n+1 by omega);simp only[qP,qI,Addr.mk.injEq,and_true,true_and]at e1;obtain⟨rfl,rfl⟩:=e1;have d2:=h1.hd.cell 2;simp only[zJ,zK]at d2;have HP:=qA (aGZ h1 HK.out.2.2.2 (x:=0) (by omega) (-1) (by decide));have HF1:=qA (zI f1 s1);clear f1 s1 h1 HS c2;generalize hix:(gX e 0 n n).1=ix at *;have Hix:=qA hix;clear hix;have hn1:(n:Int)<((n+1:Nat):Int):=by omega
 go_wp2_with fail
 refine HP.out.mono ?_;rintro _ w2 ⟨rfl,bs2,h2,f2,s2⟩;have hs1:=HF1.out.1.size;have HF2:=qA (HF1.out.1.trans f2 HF1.out.2);have HN2:Hid (∀b∈hB slots ph (.slice (some ⟨g,0,none⟩) (n+1) cap) gp bs2,b∈hB slots ph (.slice (some ⟨g,0,none⟩) (n+1) cap) gp bs∨w.heap.size<=b):=qA (fun b hb=>(s2 b hb).elim (HF1.out.2 b) (fun e=>.inr (by omega)));have e2:=h2.hd.cell 2;have z2:=h2.hd.frozen 2;simp only[zJ,zK]at e2;have h3:=h2.cut;have hF3:Fr (hB slots ph (.slice (some ⟨g,0,none⟩) (n+1) cap) gp bs) w (w2.setCell ⟨ph,2,none⟩ (.slice (some ⟨g,0,none⟩) n cap)):=HF2.out.setCell _ _ (.inl (by simp[hB]));have H3:=qA (zI h3 hF3);clear h3 hF3 h2 f2 s2 HP d2 q0;have hcap2:(n:Int)<=cap:=by omega
 by_cases h0:0<n
 {
 have t1:decide (0<n)=true:=qG h0;have HSe:=qA (aCG H3.out.1 HK.out.1 (p:=0) h0 (.inr ⟨rfl,HK.out.2.2.1⟩));go_wp2_with fail
 refine HSe.out.mono ?_;rintro _ w4 ⟨rfl,e4,pl4,bs4,h4,k4,p4,m4,f4,s4⟩;have hs3:=H3.out.2.size;have H4:=qA (zI h4 (zI k4 (zI p4 m4)));have HF4:=qA (zI f4 s4);clear h4 k4 p4 m4 f4 s4 HSe;go_wp2
 go_end0
 refine⟨rfl,e4,pl4,_,bs4,H4.out.1,H4.out.2.1,H4.out.2.2.1,fun y=>(H4.out.2.2.2 y).trans (HK.out.2.1 y),H3.out.2.trans HF4.out.1 (fun b hb=>HN2.out b hb),fun b hb=>?_⟩;rcases HF4.out.2 b hb with e|e
 · exact HN2.out b e
 · exact .inr (by omega)}
 {
 have t1:decide (0<n)=false:=qF h0;have hn0:n=0:=by omega
 have Hn0:=qA hn0;clear hn0 h0;go_wp2
 go_end0
 exact⟨rfl,gX e 0 n,_,_,bs2,H3.out.1,HK.out.1,fun k hk0 hk=>by have:=Hn0.out;omega,HK.out.2.1,H3.out.2,HN2.out⟩}
end
theorem aCI{w:World}{ph slots n:Nat}{Q:Nat->Option Int}{l:List Nat}(h:dE w ph slots Q n l):
    Calls Tryz.prog 196 #[aP ph] w fun r w' =>Fr [] w w' /\ ((n=0/\r=.returned (.tuple #[.agg #[.int .i64 0,.int .i64 0],.bool false])) ∨
      (0<n/\∃i k,Q i=some k/\(∀j x,Q j=some x->¬elt (j,x) (i,k))/\r=.returned (.tuple #[.agg #[.int .i64 (i:Nat),.int .i64 k],.bool true]))):=by
 obtain⟨e,pl,v,gp,cp,bs,hm,hk,hp,hq,rfl⟩:=h;cases n with
 | zero=>{
 refine(aNG hm).mono ?_;rintro r w' ⟨rfl,hf⟩;exact⟨hf,.inl ⟨rfl,rfl⟩⟩}
 | succ n=>{
 refine(aHE hm (by omega)).mono ?_;rintro r w' ⟨rfl,hf⟩;refine⟨hf,.inr ⟨by omega,(e 0).1,(e 0).2,(hq _ _).2 ⟨0,by omega,rfl⟩,fun j x hx=>?_,rfl⟩⟩;obtain⟨p,hpn,hpe⟩:=(hq j x).1 hx;rw[<-hpe];exact aNA hp p hpn}
theorem aTF{w:World}{ph slots n:Nat}{Q:Nat->Option Int}{l:List Nat}(h:dE w ph slots Q n l):
    Calls Tryz.prog 150 #[aP ph] w fun r w' =>(n=0/\r=.returned (.tuple #[.agg #[.int .i64 0,.int .i64 0],.bool false])/\Fr [] w w') ∨
      (0<n/\∃i k,Q i=some k/\(∀j x,Q j=some x->¬elt (j,x) (i,k))/\r=.returned (.tuple #[.agg #[.int .i64 (i:Nat),.int .i64 k],.bool true])/\∃l', dE w' ph slots (nK Q i none) (n-1) l' /\ Fr l w w' /\ ∀b∈l', b∈l∨w.heap.size<=b):=by
 obtain⟨e,pl,v,gp,cp,bs,hm,hk,hp,hq,rfl⟩:=h;have hf0:Fr [] w (w.alloc (.cells #[.int .i64 0,.int .i64 0] 223)):=(Fr.refl _ _).alloc _;have hbx:=Blk.new w [.int .i64 0,.int .i64 0] 223;have HBX:=qA hbx;clear hbx;cases n with
 | zero=>{
 have HMn:=qA (aNG (hm.fr0 hf0));clear hm hk hp hq hf0;go_enter Tryz.func150,Tryz.ntmps150
 go_wp2_with fail
 refine HMn.out.mono ?_;rintro _ w1 ⟨rfl,f1⟩;have k1:=f1.blk HBX.out (by simp);have k2:=k1.alloc (.cells #[.int .i64 0,.int .i64 0] 223);have x0:=k2.cell 0;have x1:=k2.cell 1;have z0:=k2.frozen 0;have z1:=k2.frozen 1;have x0' :=k1.cell 0;have x1' :=k1.cell 1;have z0' :=k1.frozen 0;have z1' :=k1.frozen 1;simp only[zJ,zK]at x0 x1 x0' x1';have hsz:w.heap.size<w1.heap.size:=k1.lt;have HF1:=qA f1;have HK1:=qA k1;clear f1 k1 k2;go_wp2
 have hK:=((HK1.out.set 0 (.int .i64 0)).set 1 (.int .i64 0)).alloc (.cells #[.int .i64 0,.int .i64 0] 223);have r0:=hK.cell 0;have r1:=hK.cell 1;simp only[qY,qU,zJ,zK]at r0 r1;refine bodyPost_ret (v:=.tuple #[.agg #[.int .i64 0,.int .i64 0],.bool false]) (by simp[results,Tryz.results150,go_sem,r0,r1]) rfl ?_;exact .inl ⟨trivial,rfl,(((((Fr.refl [] w).alloc _).trans' HF1.out).setCell _ _ (.inr (qK _))).setCell _ _ (.inr (qK _))).alloc _⟩}
 | succ n=>{
 have HMn:=qA (aHE (hm.fr0 hf0) (by omega));have HD:=qA (fun(W:World) (hf:Fr [] w W)=>aUQ (hm.fr0 hf) hk hp);have HQ:=qA (zI hk (zI hp hq));have hlt:=hm.lt;have HLt:=qA hlt;clear hlt;clear hm hk hp hq hf0;generalize hi:(e 0).1=i at *;generalize hkk:(e 0).2=kk at *;have HI:=qA (zI hi hkk);clear hi hkk;go_enter Tryz.func150,Tryz.ntmps150
 go_wp2_with fail
 refine HMn.out.mono ?_;rintro _ w1 ⟨rfl,f1⟩;have k1:=f1.blk HBX.out (by simp);have k2:=k1.alloc (.cells #[.int .i64 i,.int .i64 kk] 223);have hsz:w.heap.size<w1.heap.size:=k1.lt;have hF1:Fr [] w (w1.alloc (.cells #[.int .i64 i,.int .i64 kk] 223)):=(((Fr.refl [] w).alloc _).trans' f1).alloc _;have HD2:=qA (HD.out _ hF1);have b2:=Blk.new w1 [.int .i64 i,.int .i64 kk] 223;have HB:=qA (zI k2 (zI b2 hF1));clear f1 k1 k2 b2 hF1 HD HMn;go_wp2_with fail
 refine HD2.out.mono ?_;rintro _ w3 ⟨rfl,e3,pl3,v3,bs3,h3,k3,p3,m3,f3,s3⟩;have j1:=f3.blk HB.out.1 (fun hm=>by have:=HLt.out _ hm;omega);have j2:=f3.blk HB.out.2.1 (fun hm=>by have:=HLt.out _ hm;omega);have x0:=j1.cell 0;have x1:=j1.cell 1;have y0:=j2.cell 0;have y1:=j2.cell 1;have z0:=j1.frozen 0;have z1:=j1.frozen 1;simp only[zJ,zK]at x0 x1 y0 y1;have hs1:=HB.out.2.2.size;have H3:=qA (zI h3 (zI k3 (zI p3 m3)));have HF3:=qA (zI ((HB.out.2.2.mono (S' :=hB slots ph v gp bs) (by simp)).trans' f3) (show ∀b∈hB slots ph v3 gp bs3,b∈hB slots ph v gp bs∨w.heap.size+1<b from fun b hb=>(s3 b hb).imp (fun h=>h) (fun h=>by simp at h;omega)));have HJ1:=qA j1;clear h3 k3 p3 m3 f3 s3 j1 j2 HD2;go_wp2
 have hK:=((HJ1.out.set 0 (.int .i64 (i:Int))).set 1 (.int .i64 kk));have r0:=hK.cell 0;have r1:=hK.cell 1;simp only[qY,qU,zJ,zK]at r0 r1;refine bodyPost_ret (v:=.tuple #[.agg #[.int .i64 i,.int .i64 kk],.bool true]) (by simp[results,Tryz.results150,go_sem,r0,r1]) rfl ?_;have hset:Fr [w.heap.size] w3 ((w3.setCell ⟨w.heap.size,0,none⟩ (.int .i64 (i:Int))).setCell ⟨w.heap.size,1,none⟩ (.int .i64 kk)):=((Fr.refl _ _).setCell _ _ (.inl (by simp))).setCell _ _ (.inl (by simp));have hni:e 0=(i,kk):=by rw[<-HI.out.1,<-HI.out.2]
 refine .inr ⟨by omega,i,kk,(HQ.out.2.2 i kk).2 ⟨0,by omega,hni⟩,fun j x hx=>?_,rfl,_,⟨e3,pl3,v3,gp,cp,bs3,H3.out.1.fr hset (fun b hb hm=>?_),H3.out.2.1,H3.out.2.2.1,fun j x=>?_,rfl⟩,HF3.out.1.trans hset (fun b hb=>.inr (by simp at hb;omega)),fun b hb=>(HF3.out.2 b hb).imp (fun h=>h) (fun h=>by omega)⟩
 {
 obtain⟨p,hpn,hpe⟩:=(HQ.out.2.2 j x).1 hx;rw[<-hpe,<-hni];exact aNA HQ.out.2.1 p hpn}
 {
 simp at hm;subst hm;rcases HF3.out.2 _ hb with e|e
 · have:=HLt.out _ e;omega
 · omega}
 {
 show nK Q i none j=some x↔∃p,p<n+1-1/\e3 p=(j,x)
 rw[Nat.add_sub_cancel,H3.out.2.2.2];constructor
 {
 intro hx;have hji:j≠i:=by rintro rfl;rw[jR]at hx;cases hx
 rw[gJ hji]at hx;obtain⟨p,hpn,hpe⟩:=(HQ.out.2.2 j x).1 hx;exact⟨p,hpn,by rintro rfl;rw[hni]at hpe;exact hji (by simpa using (congrArg Prod.fst hpe).symm),hpe⟩}
 {
 rintro⟨p,hpn,hp0,hpe⟩;have hji:j≠i:=by {
 rintro rfl;exact hp0 (HQ.out.1.inj hpn (by omega:0<n+1) (by rw[hpe,hni]))};rw[gJ hji];exact(HQ.out.2.2 j x).2 ⟨p,hpn,hpe⟩}}}
theorem aJN(m:Nat):madeCells (Value.pointer none).cells m=((List.range m).map fun k=>fW ((fun _=>none:Nat->Option Nat) k)).toArray:=by
 apply Array.ext
 · simp[madeCells]
 {
 intro i h1 h2;simp[madeCells,Value.cells,Nat.mod_one,fW]}
theorem nU(m:Nat)(w:World)(hn:m<=1048576):(Instr.makeSlice 240 (.int .i64 m) (.int .i64 m)).run Tryz.prog w=.ok (.slice (some ⟨w.heap.size,0,none⟩) m m) (w.alloc (.cells ((List.range m).map fun k=>fW ((fun _=>none:Nat->Option Nat) k)).toArray 244)):=by
 obtain⟨i0,hi,hz0,hz1,hz2⟩:=info_parts (show(Tryz.prog.info? 244).map (fun i=>(i.zero,i.size,i.bytes))=some (some (.pointer none),1,8) by kernel_rfl);have h:=run_make (P:=Tryz.prog) w 240 244 i0 (.pointer none) Tryz.underlying240 hi hz0 .i64 .i64 m m (by omega) (by omega) (by rw[hz2];omega) (by omega);rw[hz1]at h;simp only[zD,Nat.mul_one]at h;rw[aJN]at h;exact h
theorem aNH(slots:Nat)(w:World)(hs:slots<=65536):
    Calls Tryz.prog 129 #[.int .i64 slots] w fun r w' =>∃ph,r=.returned (.tuple #[aP ph,.int .i64 0])/\∃l,dE w' ph slots (fun _=>none) 0 l/\Fr [] w w' /\ ∀b∈l,w.heap.size<=b:=by
 have hd0:decide ((slots:Int)<0)=false:=qF (by omega);have hd1:decide ((slots:Int)>65536)=false:=qF (by omega);obtain⟨m,hm⟩:∃m,m=(slots+63)/64:=⟨_,rfl⟩;have hmi:((slots:Int)+64-1)/64=(m:Int):=by omega
 have hmk:=nU m w (by omega);have HM0:=qA hm;clear hm;go_enter Tryz.func129,Tryz.ntmps129
 go_wp2
 go_ret2;have hb:=Blk.new (w.alloc (.cells ((List.range m).map fun k=>fW ((fun _=>none:Nat->Option Nat) k)).toArray 244)) [aP (w.heap.size+1),.int .i64 slots,.slice none 0 0,.slice (some ⟨w.heap.size,0,none⟩) m m] 242;have hd:=(Blk.new w ((List.range m).map fun k=>fW ((fun _=>none:Nat->Option Nat) k)) 244).alloc (.cells [aP (w.heap.size+1),.int .i64 slots,.slice none 0 0,.slice (some ⟨w.heap.size,0,none⟩) m m].toArray 242);rw[World.size_alloc]at hb;rw[HM0.out]at hb hd ⊢;refine⟨w.heap.size+1,rfl,_,⟨fun _=>(0,0),fun _=>0,.slice none 0 0,w.heap.size,_,fun _=>none,⟨hb,World.ownsRow_nil _ _ _ _,hd,fun k b _ h=>(by cases h),fun _ _ _ _ _=>rfl,hs,by omega,fun _=>by omega,by omega,by simp[Value.ownBlock],by simp[Value.ownBlock],fun k b _ h=>(by cases h),fun k k' b _ _ h=>(by cases h)⟩,⟨fun p hp=>by omega,fun p hp=>by omega,fun i hi=>absurd rfl hi⟩,fun k h0 hk=>by omega,fun i k=>⟨fun h=>by(cases h),fun⟨p,hp,_⟩=>by omega⟩,rfl⟩,((Fr.refl _ _).alloc _).alloc _,fun b hb=>?_⟩;rcases dQ.1 hb with rfl|rfl|hb|⟨k,_,hb⟩
 · omega
 · omega
 · cases hb
 · cases hb
end Go.Proofs.YtjdgpcjbgjnahaaGreatDoor
