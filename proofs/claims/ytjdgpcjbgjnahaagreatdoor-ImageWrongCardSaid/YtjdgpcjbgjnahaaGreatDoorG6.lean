/- lct: how many trees a forest has, and how an edge changes that. -/
import Derived.Test.YtjdgpcjbgjnahaaGreatDoorG5
set_option linter.unusedSimpArgs false
set_option linter.unusedVariables false
/- lct: the rotations of a splay, as steps of trees. -/
namespace Go.Proofs.YtjdgpcjbgjnahaaGreatDoor
open Go.RowKit
theorem Out.congr{σ τ:Tbl}{u:Nat}{ns ms:List Nat}(h:Out σ u ns)(hr:cQ σ τ ms)(hm:∀x,x∈ns↔x∈ms):Out τ u ns:=by
 rcases h with h|⟨h1,h2,h3⟩
 · exact .inl h
 {
 right
 rw[hr.other u (fun e=>h1 ((hm u).2 e))];exact⟨h1,h2,h3⟩}
theorem Out.perm{σ:Tbl}{u:Nat}{ns ms:List Nat}(h:Out σ u ns)(hm:∀x,x∈ns↔x∈ms):Out σ u ms:=by
 rcases h with h|⟨h1,h2,h3⟩
 · exact .inl h
 · exact .inr ⟨fun e=>h1 ((hm _).2 e),fun e=>h2 ((hm _).2 e),fun e=>h3 ((hm _).2 e)⟩
theorem tG{σ:Tbl}{a:Fm}{c:List Fm}{t:BT}{u:Nat}(h:Rep σ (aZ (a::c) t) u)(h0:t.root≠0)(hnd:(aZ (a::c) t).nodes.Nodup):bD σ t.root=(sd a.s,true)/\(σ t.root).up=a.p:=by
 obtain⟨hT,hC⟩:=eN.1 h;obtain⟨⟨hp0,_,_,hpk,hpo⟩,hRo,_⟩:=hC;have hup:(σ t.root).up=a.p:=by {
 cases t with
 | nil=>exact absurd rfl h0
 | node f l v r=>exact hT.1.2.1};refine⟨?_,hup⟩;refine gN h0 hp0 hup hpk hpo ?_;intro e;have hor:a.o.root≠0:=by rw[e];exact h0
 have h1:=BT.root_mem hor;have h2:=BT.root_mem h0;have:=(bK (a::c) t).nodup_iff.1 hnd;rw[qM]at this;exact this.2.2 _ h2 _ (by simp only[bB,zB,qB,qE];exact .inr (.inl h1)) e.symm
theorem InR.rotate{N:Nat}{σ:Tbl}(h:InR N σ){i:Nat}(hi:i<N)(q0:(dB σ i (σ i).up).k0≠(σ i).up)(q1:(dB σ i (σ i).up).k1≠(σ i).up)(q2:(dB σ i i).k0≠i)(q3:(dB σ i i).k1≠i):InR N (rotate σ i):=by
 have hp:=(h i hi).2.2.1;have hR1:=h.rot1 hi;have hR2:InR N (uP σ i):=hR1.hang hp (hR1.kid hi _);have hR3:InR N (dB σ i):=hR2.hang hi hp;unfold Proofs.YtjdgpcjbgjnahaaGreatDoor.rotate;exact(hR3.refresh hp q0 q1).refresh hi (by rw[aL.1];exact q2) (by rw[aL.2.1];exact q3)
def aOX(σ:Tbl)(i:Nat):Prop:=(dB σ i (σ i).up).k0≠(σ i).up/\(dB σ i (σ i).up).k1≠(σ i).up/\(dB σ i i).k0≠i/\(dB σ i i).k1≠i
structure rP (N:Nat) (σ τ:Tbl) (u i:Nat) (t₀:BT) (c:List Fm) (l r:BT):Prop where
  rep:Rep τ (aZ c (.node false l i r)) u
  ff:∀a∈c,a.f=false
  seq:(aZ c (.node false l i r)).seq=t₀.seq
  perm:(aZ c (.node false l i r)).nodes.Perm t₀.nodes
  rot:cQ σ τ t₀.nodes
  inR:InR N τ
section
variable {N:Nat} {σ τ:Tbl} {u i:Nat} {t₀:BT} {a b:Fm} {c:List Fm} {l r:BT}
theorem rP.nd(h:rP N σ τ u i t₀ c l r)(hnd:t₀.nodes.Nodup):(aZ c (.node false l i r)).nodes.Nodup:=h.perm.nodup_iff.2 hnd
theorem rP.out(h:rP N σ τ u i t₀ c l r)(hO:Out σ u t₀.nodes):Out τ u (aZ c (.node false l i r)).nodes:=
  (hO.congr h.rot (fun _=>Iff.rfl)).perm (fun _=>h.perm.mem_iff.symm)
theorem rP.zig(h:rP N σ τ u i t₀ (a::c) l r)(hnd:t₀.nodes.Nodup)(hO:Out σ u t₀.nodes)(hi:i<N):aOX τ i/\∃l' r', rP N σ (rotate τ i) u i t₀ c l' r' :=by
 obtain⟨h1,h2,h3⟩:=nK h.rep (h.ff a (by simp)) (h.nd hnd) (h.out hO);obtain⟨l', r', e⟩:∃l' r', uQ a l i r=.node false l' i r' :=by unfold uQ;split<;>exact⟨_,_,rfl⟩
 have hn:(aZ c (.node false l' i r')).nodes.Perm (aZ (a::c) (.node false l i r)).nodes:=by {
 rw[<-e];simp only[aZ];refine(bK c _).trans (.trans ?_ (bK c _).symm);rw[tE]};refine⟨h3,l', r', by rw[<-e];exact h1,fun b hb=>h.ff b (by simp[hb]),?_,hn.trans h.perm,?_,h.inR.rotate hi h3.1 h3.2.1 h3.2.2.1 h3.2.2.2⟩
 · rw[<-h.seq,<-e];simp only[aZ];exact jC c (aIL a (h.ff a (by simp)) l i r)
 · exact h.rot.trans (h2.perm (fun _=>h.perm.mem_iff))
theorem rP.zigp(h:rP N σ τ u i t₀ (a::b::c) l r)(hs:a.s=b.s)(hnd:t₀.nodes.Nodup)(hO:Out σ u t₀.nodes)(hp:a.p<N):aOX τ a.p/\∃a', rP N σ (rotate τ a.p) u i t₀ (a' :: c) l r:=by
 have hrep:=h.rep;have hnd' :=h.nd hnd;have hO' :=h.out hO;have haf:=h.ff a (by simp);have hbf:=h.ff b (by simp);have hperm:=h.perm;have hseq:=h.seq;obtain⟨s,f,p,o⟩:=a;obtain⟨s', f', p', o'⟩:=b;dsimp only at haf hbf hs hp ⊢
 subst haf;subst hbf;subst hs;have ff:∀x∈c,x.f=false:=fun x hx=>h.ff x (by simp[hx]);cases s with
 | false=>{
 have key:=nK (σ:=τ) (a:=⟨false,false,p', o'⟩) (c:=c) (l:=.node false l i r) (i:=p) (r:=o) (u:=u) hrep rfl hnd' hO';obtain⟨h1,h2,h3⟩:=key;refine⟨h3,⟨false,false,p,.node false o p' o'⟩,h1,?_,?_,?_,h.rot.trans (h2.perm (fun _=>hperm.mem_iff)),h.inR.rotate hp h3.1 h3.2.1 h3.2.2.1 h3.2.2.2⟩
 · intro x hx;rcases qB.1 hx with rfl|hx;exact rfl;exact ff x hx
 · rw[<-hseq];simp only[aZ];exact jC c (by simp[Fm.fill,BT.seq])
 {
 refine .trans ?_ hperm;simp only[aZ];refine(bK c _).trans (.trans (.append_right _ ?_) (bK c _).symm);simp[Fm.fill,BT.nodes]}}
 | true=>{
 have key:=nK (σ:=τ) (a:=⟨true,false,p', o'⟩) (c:=c) (l:=o) (i:=p) (r:=.node false l i r) (u:=u) hrep rfl hnd' hO';obtain⟨h1,h2,h3⟩:=key;refine⟨h3,⟨true,false,p,.node false o' p' o⟩,h1,?_,?_,?_,h.rot.trans (h2.perm (fun _=>hperm.mem_iff)),h.inR.rotate hp h3.1 h3.2.1 h3.2.2.1 h3.2.2.2⟩
 · intro x hx;rcases qB.1 hx with rfl|hx;exact rfl;exact ff x hx
 · rw[<-hseq];simp only[aZ];exact jC c (by simp[Fm.fill,BT.seq])
 {
 refine .trans ?_ hperm;simp only[aZ];refine(bK c _).trans (.trans (.append_right _ ?_) (bK c _).symm);simp[Fm.fill,BT.nodes]}}
end
def Ch(par:Nat->Nat):Nat->List Nat->Prop
  | _,[]=>True
  | u,x::l=>par x=u/\Ch par x l
theorem fQ{par:Nat->Nat}:∀{u:Nat} {l:List Nat} {j:Nat} {r:List Nat},Ch par u (l++j::r)↔Ch par u (l++[j])/\Ch par j r
  | u,[],j,r=>by simp[Ch]
  | u,x::l,j,r=>by simp only[zB,Ch];rw[fQ,and_assoc]
theorem fY{par par' :Nat->Nat}:∀{u:Nat} {l:List Nat},(∀x∈l,par' x=par x)->Ch par u l->Ch par' u l
  | _,[],_,_=>trivial
  | u,x::l,h,⟨h1,h2⟩=>⟨(h x (by simp)).trans h1,fY (fun y hy=>h y (by simp[hy])) h2⟩
theorem aIN{par rt:Nat->Nat}(h1:∀x,par x≠0->rt x=rt (par x)):∀{u:Nat} {l:List Nat},Ch par u l->(∀x∈l,x≠0)->u≠0->∀x∈l,rt x=rt u
  | u,y::l,⟨e,hc⟩,hn,hu,x,hx=>by
    have hy:rt y=rt u:=by rw[h1 y (by rw[e];exact hu),e]
    rcases qB.1 hx with rfl|hx
    · exact hy
    · rw[aIN h1 hc (fun z hz=>hn z (by simp[hz])) (hn y (by simp)) x hx,hy]
theorem dF{par rt:Nat->Nat}(h0:∀x,par x=0->rt x=x)(h1:∀x,par x≠0->rt x=rt (par x)){y:Nat}{l:List Nat}(h:Ch par 0 (y::l))(hn:∀x∈y::l,x≠0):∀x∈y::l,rt x=y:=by
 intro x hx;have hy:rt y=y:=h0 y h.1;rcases qB.1 hx with rfl|hx
 · exact hy
 · rw[aIN h1 h.2 (fun z hz=>hn z (by simp[hz])) (hn y (by simp)) x hx,hy]
theorem aCE{par d:Nat->Nat}(h1:∀x,par x≠0->d (par x)<d x):∀{u:Nat} {l:List Nat},Ch par u l->(∀x∈l,x≠0)->u≠0->∀x∈l,d u<d x
  | u,y::l,⟨e,hc⟩,hn,hu,x,hx=>by
    have hy:d u<d y:=by have:=h1 y (by rw[e];exact hu);rwa[e]at this
    rcases qB.1 hx with rfl|hx
    · exact hy
    · exact Nat.lt_trans hy (aCE h1 hc (fun z hz=>hn z (by simp[hz])) (hn y (by simp)) x hx)
abbrev Fst:=List (BT×Nat)
def cE(F:Fst):List Nat:=F.flatMap fun p=>p.1.nodes
def jE(σ:Tbl):Fst->Nat->Int
  | [],_=>0
  | p::F,v=>(if p.2=v then tot σ p.1.nodes else 0)+jE σ F v
theorem aX(p:BT×Nat)(F:Fst):cE (p::F)=p.1.nodes++cE F:=by simp[cE]
theorem bS{x:Nat}{F:Fst}:x∈cE F↔∃p∈F,x∈p.1.nodes:=by simp[cE]
theorem rA{F G:Fst}(h:F.Perm G):(cE F).Perm (cE G):=h.flatMap_right _
theorem aFY{σ:Tbl}{F G:Fst}(h:F.Perm G)(v:Nat):jE σ F v=jE σ G v:=by
 induction h with
 | nil=>rfl
 | cons p _ ih=>simp[jE,ih]
 | swap p q F=>simp only[jE];omega
 | trans _ _ h1 h2=>exact h1.trans h2
theorem eX{σ σ' :Tbl}:∀{F:Fst} {v:Nat},(∀x∈cE F,(σ' x).light=(σ x).light)->jE σ' F v=jE σ F v
  | [],_,_=>rfl
  | p::F,v,h=>by
    rw[aX]at h;simp only[jE];rw[bZ (fun x hx=>h x (by simp[hx])),eX (fun x hx=>h x (by simp[hx]))]
structure LF (N:Nat) (σ:Tbl) (F:Fst) (par d rt:Nat->Nat):Prop where
  rep:∀p∈F,Rep σ p.1 p.2
  nd:(cE F).Nodup
  mem:∀x,x∈cE F↔0<x/\x<N
  up:∀p∈F,p.2<N
  ch:∀p∈F,Ch par p.2 p.1.seq
  dep:∀x,par x≠0->d (par x)<d x
  none:∀x,¬(0<x/\x<N)->par x=0
  rt0:∀x,par x=0->rt x=x
  rt1:∀x,par x≠0->rt x=rt (par x)
  light:∀v,0<v->v<N->(σ v).light=wrap64 (jE σ F v)
  zero:(σ 0).total=0/\(σ 0).k0=0/\(σ 0).k1=0/\(σ 0).up=0/\(σ 0).first=0
  pos:0<N
section
variable {N:Nat} {σ σ' :Tbl} {F G R:Fst} {par d rt:Nat->Nat} {t t' :BT} {u:Nat}
theorem LF.perm(h:LF N σ F par d rt)(hp:F.Perm G):LF N σ G par d rt:=
  ⟨fun p hp' =>h.rep p (hp.mem_iff.2 hp'),(rA hp).nodup_iff.1 h.nd,fun x=>(rA hp).mem_iff.symm.trans (h.mem x),fun p hp' =>h.up p (hp.mem_iff.2 hp'),fun p hp' =>h.ch p (hp.mem_iff.2 hp'),h.dep,h.none,h.rt0,h.rt1,
    fun v h1 h2=>by rw[<-aFY hp];exact h.light v h1 h2,h.zero,h.pos⟩
theorem eC{p:BT×Nat}(h:p∈F):∃R,F.Perm (p::R):=by
 obtain⟨A,B,rfl⟩:=List.append_of_mem h;exact⟨A++B,List.perm_middle⟩
theorem Rep.kids{x:Nat}:∀{t:BT} {u:Nat},Rep σ t u->x∈t.nodes->((σ x).k0=0∨(σ x).k0∈t.nodes)/\((σ x).k1=0∨(σ x).k1∈t.nodes)/\(x=t.root∨((σ x).up∈t.nodes))/\(x=t.root->(σ x).up=u)/\(σ x).first∈t.nodes
  | .nil,_,_,hx=>by cases hx
  | .node f l v r,u,⟨h1,hl,hr,_,_,hb⟩,hx=>by
    have hroot:∀t:BT,t.root=0∨t.root∈t.nodes:=fun t=>by
      by_cases e:t.root=0
      · exact .inl e
      · exact .inr (BT.root_mem e)
    simp only[BT.nodes,qE,qB]at hx ⊢;by_cases e:x=v
    · subst e
      refine⟨?_,?_,.inl rfl,fun _=>h1.2.1,?_⟩
      · rw[h1.2.2.2.1];rcases hroot l with h|h;exact .inl h;exact .inr (.inl h)
      · rw[h1.2.2.2.2];rcases hroot r with h|h;exact .inl h;exact .inr (.inr (.inr h))
      · have:=hb.1;simpa[BT.nodes] using this
    · rcases hx with hx | hx | hx
      · obtain ⟨a, b, c, c', c2⟩ := Rep.kids hl hx
        refine⟨a.imp id .inl,b.imp id .inl,.inr ?_,fun h=>absurd h e,.inl c2⟩;rcases c with c|c
        · rw[c' c];exact .inr (.inl rfl)
        · exact .inl c
      · exact absurd hx e
      · obtain ⟨a, b, c, c', c2⟩ := Rep.kids hr hx
        refine⟨a.imp id (fun h=>.inr (.inr h)),b.imp id (fun h=>.inr (.inr h)),.inr ?_,fun h=>absurd h e,.inr (.inr c2)⟩;rcases c with c|c
        · rw[c' c];exact .inr (.inl rfl)
        · exact .inr (.inr c)
theorem LF.tree(h:LF N σ F par d rt){x:Nat}(h0:0<x)(hx:x<N):∃t u R,F.Perm ((t,u)::R)/\x∈t.nodes:=by
 obtain⟨p,hp,hxp⟩:=bS.1 ((h.mem x).2 ⟨h0,hx⟩);obtain⟨R,hR⟩:=eC hp;exact⟨p.1,p.2,R,hR,hxp⟩
theorem LF.inR(h:LF N σ F par d rt):InR N σ:=by
 intro x hx;by_cases h0:x=0
 {
 subst h0;have:=h.pos;rw[h.zero.2.1,h.zero.2.2.1,h.zero.2.2.2.1,h.zero.2.2.2.2];exact⟨this,this,this,this⟩}
 {
 obtain⟨t,u,R,hR,hxt⟩:=h.tree (by omega) hx;have h' :=h.perm hR;have hk:=(h'.rep (t,u) (by simp)).kids hxt;have hN:∀y,y∈t.nodes->y<N:=fun y hy=>((h'.mem y).1 (by rw[aX];simp[hy])).2;have hp:=h.pos;refine⟨hk.1.elim (fun e=>by omega) (hN _),hk.2.1.elim (fun e=>by omega) (hN _),?_,hN _ hk.2.2.2.2⟩;rcases hk.2.2.1 with e|e
 · rw[hk.2.2.2.1 e];exact h'.up (t,u) (by simp)
 · exact hN _ e}
theorem cH{t:BT}{x:Nat}:x∈t.seq↔x∈t.nodes:=(BT.seq_perm t).mem_iff
theorem LF.lt(h:LF N σ F par d rt){p:BT×Nat}(hp:p∈F){x:Nat}(hx:x∈p.1.nodes):0<x/\x<N:=(h.mem x).1 (bS.2 ⟨p,hp,hx⟩)
theorem LF.seq0(h:LF N σ F par d rt){p:BT×Nat}(hp:p∈F):∀x∈p.1.seq,x≠0:=fun x hx=>by have:=(h.lt hp (cH.1 hx)).1;omega
theorem LF.outs(h:LF N σ ((t,u)::R) par d rt):Out σ u t.nodes:=by
 by_cases hu:u=0
 · exact .inl hu
 {
 right
 have hm:(t,u)∈(t,u)::R:=by simp
 have hd:=aCE h.dep (h.ch _ hm) (h.seq0 hm) hu;have hut:u∉t.nodes:=fun e=>Nat.lt_irrefl _ (hd u (cH.2 e));have huN:=h.up _ hm;obtain⟨q,hq,hqu⟩:=bS.1 ((h.mem u).2 ⟨by omega,huN⟩);have hqR:q∈R:=by {
 rcases qB.1 hq with rfl|hq
 · exact absurd hqu hut
 · exact hq};have hk:=(h.rep q hq).kids hqu;have hnd:=h.nd;rw[aX,qM]at hnd;have hdis:∀y,y∈q.1.nodes->y∉t.nodes:=fun y hy hyt=>hnd.2.2 y hyt y (bS.2 ⟨q,hqR,hy⟩) rfl;have h0:(0:Nat)∉t.nodes:=fun e=>by have:=(h.lt hm e).1;omega
 exact⟨hut,hk.1.elim (fun e=>by rw[e];exact h0) (hdis _),hk.2.1.elim (fun e=>by rw[e];exact h0) (hdis _)⟩}
theorem LF.splay(h:LF N σ ((t,u)::R) par d rt)(hrep:Rep σ' t' u)(hseq:t'.seq=t.seq)(hperm:t'.nodes.Perm t.nodes)(hrot:cQ σ σ' t.nodes):LF N σ' ((t', u)::R) par d rt:=by
 have hnd:=h.nd;rw[aX,qM]at hnd;have hfp:(cE ((t', u)::R)).Perm (cE ((t,u)::R)):=by rw[aX,aX];exact hperm.append_right _
 refine⟨fun p hp=>?_,hfp.nodup_iff.2 h.nd,fun x=>hfp.mem_iff.trans (h.mem x),fun p hp=>?_,fun p hp=>?_,h.dep,h.none,h.rt0,h.rt1,fun v h1 h2=>?_,?_,h.pos⟩
 {
 rcases qB.1 hp with rfl|hp
 · exact hrep
 · exact(h.rep p (by simp[hp])).congr (fun x hx=>hrot.other x (fun e=>hnd.2.2 x e x (bS.2 ⟨p,hp,hx⟩) rfl))}
 {
 rcases qB.1 hp with rfl|hp
 · exact h.up (t,u) (by simp)
 · exact h.up p (by simp[hp])}
 {
 rcases qB.1 hp with rfl|hp
 · show Ch par u t'.seq;rw[hseq];exact h.ch (t,u) (by simp)
 · exact h.ch p (by simp[hp])}
 {
 rw[(hrot.lk v).1,h.light v h1 h2];congr 1
 rw[eX (fun x _=>(hrot.lk x).1)];simp only[jE];rw[lA hperm]}
 · rw[hrot.other 0 (fun e=>by have:=(h.lt (p:=(t,u)) (by simp) e).1;omega)];exact h.zero
theorem nL(hz:(σ 0).total=0)(h:Rep σ t u):(σ t.root).total=wrap64 (tot σ t.nodes):=by
 cases t with
 | nil=>show(σ 0).total=_;rw[hz];simp[BT.nodes,tot,wrap64]
 | node f l v r=>exact h.2.2.2.2.1
end
def aIO(σ:Tbl)(j B:Nat):Tbl:=σ.upd j { σ j with light:=wrap64 ((σ j).light+wrap64 ((σ (σ j).k1).total-(σ B).total)) }
def mP(σ:Tbl)(j B:Nat):Tbl:=(aIO σ j B).upd j { aIO σ j B j with k1:=B }
def xstep(σ:Tbl)(j B:Nat):Tbl:=refresh (mP σ j B) j
theorem tH{σ:Tbl}{j B x:Nat}(h:x≠j):mP σ j B x=σ x:=by unfold mP aIO;rw[aJ h,aJ h]
theorem gO(σ:Tbl)(j B:Nat):mP σ j B j={ σ j with light:=wrap64 ((σ j).light+wrap64 ((σ (σ j).k1).total-(σ B).total)),k1:=B }:=by unfold mP aIO;rw[aM,aM]
section
variable {N:Nat} {σ:Tbl} {R:Fst} {par d rt:Nat->Nat} {l r B:BT} {j u:Nat}
theorem LF.xstep(h:LF N σ ((.node false l j r,u)::(B,j)::R) par d rt):
    LF N (xstep σ j B.root) ((.node false l j B,u)::(r,j)::R) par d rt/\(∀x,x≠j->xstep σ j B.root x=σ x)/\(∀x,(xstep σ j B.root x).key=(σ x).key) /\
      (σ j).k1=r.root/\(mP σ j B.root j).k0≠j/\(mP σ j B.root j).k1≠j/\InR N (mP σ j B.root):=by
 have m1:(BT.node false l j r,u)∈(BT.node false l j r,u)::(B,j)::R:=by simp
 have m2:(B,j)∈(BT.node false l j r,u)::(B,j)::R:=by simp
 obtain⟨⟨hj0,hju,hjf,hk0,hk1⟩,hl,hr,_⟩:=h.rep _ m1;have hB:Rep σ B j:=h.rep _ m2;have hnd:=h.nd;have hmem:=h.mem;simp only[aX,BT.nodes,qM,qN,qE,qB,List.append_assoc,zB]at hnd hmem;have djl:j∉l.nodes:=by grind
 have djr:j∉r.nodes:=by grind
 have djB:j∉B.nodes:=by grind
 have djR:j∉cE R:=by grind
 have hB0:∀b:BT,j∉b.nodes->b.root≠j:=fun b hb e=>hb (e▸BT.root_mem (by rw[e];exact hj0));have hjN:j<N:=(h.lt m1 (by simp[BT.nodes])).2;have htr:=nL h.zero.1 hr;have htB:=nL h.zero.1 hB;have huj:u≠j:=by {
 rintro rfl;have:=h.outs;rcases this with e|⟨e,_⟩
 · exact hj0 e
 · exact e (by simp[BT.nodes])};have hR2:InR N (mP σ j B.root):=by {
 have hi:=h.inR;intro x hx;by_cases e:x=j
 {
 subst e;rw[gO];refine⟨(hi x hx).1,?_,(hi x hx).2.2.1,(hi x hx).2.2.2⟩;by_cases e:B.root=0
 · show B.root<N;rw[e];exact h.pos
 · exact(h.lt m2 (BT.root_mem e)).2}
 · rw[tH e];exact hi x hx};have hcg:∀x,x≠j->mP σ j B.root x=σ x:=fun x hx=>tH hx;have hq0:(mP σ j B.root j).k0≠j:=by rw[gO];show(σ j).k0≠j;rw[hk0];exact hB0 l djl
 have hq1:(mP σ j B.root j).k1≠j:=by rw[gO];exact hB0 B djB
 have hoth:∀x,x≠j->Proofs.YtjdgpcjbgjnahaaGreatDoor.xstep σ j B.root x=σ x:=fun x hx=>by unfold Proofs.YtjdgpcjbgjnahaaGreatDoor.xstep;rw[cS hx,hcg x hx]
 have hkey:∀x,(Proofs.YtjdgpcjbgjnahaaGreatDoor.xstep σ j B.root x).key=(σ x).key:=by {
 intro x;by_cases e:x=j
 · subst e;unfold Proofs.YtjdgpcjbgjnahaaGreatDoor.xstep;rw[aL.2.2.2.2.1,gO]
 · rw[hoth x e]};have hnew:Rep (Proofs.YtjdgpcjbgjnahaaGreatDoor.xstep σ j B.root) (.node false l j B) u:=
   dO hj0 (by rw[gO];exact hju) (by rw[gO];exact hjf) (by rw[gO];exact hk0) (by rw[gO]) (hl.congr (fun x hx=>hcg x (fun e=>djl (e▸hx)))) (hB.congr (fun x hx=>hcg x (fun e=>djB (e▸hx)))) djl djB
 have hll:(Proofs.YtjdgpcjbgjnahaaGreatDoor.xstep σ j B.root j).light=wrap64 ((σ j).light+(tot σ r.nodes-tot σ B.nodes)):=by {
 unfold Proofs.YtjdgpcjbgjnahaaGreatDoor.xstep;rw[aL.2.2.2.2.2,gO];show wrap64 ((σ j).light+wrap64 ((σ (σ j).k1).total-(σ B.root).total))=_
 rw[hk1,htr,htB];unfold wrap64;omega};have hch:=h.ch _ m1;simp only[BT.seq,Bool.false_eq_true,if_false]at hch;have hchB:Ch par j B.seq:=h.ch _ m2;have hfp:(cE ((.node false l j B,u)::(r,j)::R)).Perm (cE ((.node false l j r,u)::(B,j)::R)):=by {
 simp only[aX,BT.nodes,List.append_assoc,zB];refine .append_left _ (.cons _ ?_);rw[<-List.append_assoc,<-List.append_assoc];exact List.perm_append_comm.append_right _};refine⟨⟨fun p hp=>?_,hfp.nodup_iff.2 h.nd,fun x=>hfp.mem_iff.trans (h.mem x),fun p hp=>?_,fun p hp=>?_,h.dep,h.none,h.rt0,h.rt1,fun v h1 h2=>?_,?_,h.pos⟩,hoth,hkey,hk1,hq0,hq1,hR2⟩
 {
 rcases qB.1 hp with rfl|hp
 · exact hnew
 rcases qB.1 hp with rfl|hp
 · exact hr.congr (fun x hx=>hoth x (fun e=>djr (e▸hx)))
 · exact(h.rep p (by simp[hp])).congr (fun x hx=>hoth x (fun e=>djR (e▸bS.2 ⟨p,hp,hx⟩)))}
 {
 rcases qB.1 hp with rfl|hp
 · exact h.up (BT.node false l j r,u) m1
 rcases qB.1 hp with rfl|hp
 · exact hjN
 · exact h.up p (by simp[hp])}
 {
 rcases qB.1 hp with rfl|hp
 {
 simp only[BT.seq,Bool.false_eq_true,if_false];exact fQ.2 ⟨(fQ.1 hch).1,hchB⟩};rcases qB.1 hp with rfl|hp
 · exact(fQ.1 hch).2
 · exact h.ch p (by simp[hp])}
 {
 have e1:tot (Proofs.YtjdgpcjbgjnahaaGreatDoor.xstep σ j B.root) l.nodes=tot σ l.nodes:=bZ (fun x hx=>by rw[hoth x (fun e=>djl (e▸hx))]);have e2:tot (Proofs.YtjdgpcjbgjnahaaGreatDoor.xstep σ j B.root) r.nodes=tot σ r.nodes:=bZ (fun x hx=>by rw[hoth x (fun e=>djr (e▸hx))]);have e3:tot (Proofs.YtjdgpcjbgjnahaaGreatDoor.xstep σ j B.root) B.nodes=tot σ B.nodes:=bZ (fun x hx=>by rw[hoth x (fun e=>djB (e▸hx))]);have e4:jE (Proofs.YtjdgpcjbgjnahaaGreatDoor.xstep σ j B.root) R v=jE σ R v:=eX (fun x hx=>by rw[hoth x (fun e=>djR (e▸hx))]);have tn:∀(τ:Tbl) (b:BT),tot τ (BT.node false l j b).nodes=tot τ l.nodes+(1+(τ j).light)+tot τ b.nodes:=by intro τ b;simp only[BT.nodes,tot,List.map_append,List.map_cons,List.sum_append,List.sum_cons];omega
 have hlv:=h.light v h1 h2;simp only[jE]at hlv ⊢;rw[tn]at hlv ⊢;rw[e1,e2,e3,e4,hll];by_cases ev:v=j
 {
 subst ev;rw[hll];rw[qC huj]at hlv ⊢;rw[qD rfl]at hlv ⊢;rw[hlv];unfold wrap64;omega}
 {
 rw[hoth v ev,hlv,qC (show ¬j=v from fun e=>ev e.symm)];by_cases eu:u=v
 · rw[qD eu,qD eu,qC (show ¬j=v from fun e=>ev e.symm)];unfold wrap64;omega
 · rw[qC eu,qC eu,qC (show ¬j=v from fun e=>ev e.symm)]}}
 · rw[hoth 0 (fun e=>hj0 e.symm)];exact h.zero
end
section
variable {N:Nat} {σ:Tbl} {F R:Fst} {par d rt:Nat->Nat} {t:BT} {u:Nat}
theorem LF.same(h:LF N σ F par d rt){p:BT×Nat}(hp:p∈F):(∀x∈p.1.nodes,∀y∈p.1.nodes,rt x=rt y)/\(p.2≠0->∀x∈p.1.nodes,rt x=rt p.2):=by
 have hc:=h.ch p hp;have h0:=h.seq0 hp;have hu:p.2≠0->∀x∈p.1.nodes,rt x=rt p.2:=fun hu x hx=>aIN h.rt1 hc h0 hu x (cH.2 hx);refine⟨fun x hx y hy=>?_,hu⟩;by_cases e:p.2=0
 {
 rw[e]at hc;have hx' :=cH.2 hx;have hy' :=cH.2 hy;generalize p.1.seq=s at *;cases s with
 | nil=>cases hx'
 | cons z s=>rw[dF h.rt0 h.rt1 hc h0 x hx', dF h.rt0 h.rt1 hc h0 y hy']}
 · rw[hu e x hx,hu e y hy]
theorem LF.addNil(h:LF N σ F par d rt){j:Nat}(hj:j<N):LF N σ ((.nil,j)::F) par d rt:=by
 have e:cE ((BT.nil,j)::F)=cE F:=by rw[aX];rfl
 refine⟨fun p hp=>?_,by rw[e];exact h.nd,fun x=>by rw[e];exact h.mem x,fun p hp=>?_,fun p hp=>?_,h.dep,h.none,h.rt0,h.rt1,fun v h1 h2=>?_,h.zero,h.pos⟩
 {
 rcases qB.1 hp with rfl|hp
 · trivial
 · exact h.rep p hp}
 {
 rcases qB.1 hp with rfl|hp
 · exact hj
 · exact h.up p hp}
 {
 rcases qB.1 hp with rfl|hp
 · trivial
 · exact h.ch p hp}
 · rw[h.light v h1 h2];simp[jE,BT.nodes,tot]
theorem LF.disj(h:LF N σ ((t,u)::R) par d rt){p:BT×Nat}(hp:p∈R):∀x∈t.nodes,x∉p.1.nodes:=by
 have hnd:=h.nd;rw[aX,qM]at hnd;exact fun x hx hxp=>hnd.2.2 x hx x (bS.2 ⟨p,hp,hxp⟩) rfl
end
theorem aMM{l r S:List Nat}{i:Nat}(h:l++i::r=S++[i])(hnd:(l++i::r).Nodup):r=[]/\l=S:=by
 have hi:i∉l:=fun e=>(qM.1 hnd).2.2 i e i (by simp) rfl;have hr:i∉r:=(qN.1 (qM.1 hnd).2.1).1;rcases List.eq_nil_or_concat r with rfl|⟨r', x,rfl⟩
 · exact⟨rfl,by simpa using h⟩
 {
 rw[List.concat_eq_append]at h hr;rw[<-zB,<-List.append_assoc]at h;have:=List.append_inj_right' h rfl;simp at this;exact absurd (by simp[this]) hr}
theorem nM{t:BT}(h:t.seq=[]):t=.nil:=by
 cases t with
 | nil=>rfl
 | node f l v r=>cases f<;>simp[BT.seq]at h
structure XI (N:Nat) (σ:Tbl) (F:Fst) (par d rt:Nat->Nat) (i:Nat) (τ:Tbl) (B:BT) (j:Nat) (R:Fst):Prop where
  lf:LF N τ ((B,j)::R) par d rt
  key:∀x,(τ x).key=(σ x).key
  frame:∀x,rt x≠rt i->τ x=σ x
  trees:∀p∈F,(∃x∈p.1.nodes,rt x≠rt i)->p∈R
  rtj:j≠0->rt j=rt i
  rtB:∀x∈B.nodes,rt x=rt i
  last:(B=.nil/\j=i)∨∃S,B.seq=S++[i]
  tops:j≠0->∀T,(T,0)∈F↔(T,0)∈R
  fin:j=0->∃T0 A Bq Rq,(T0,0)∈F/\T0.seq=A++B.root::Rq/\B.seq=A++B.root::Bq/\∀x∈Bq,x∉T0.nodes
section
variable {N:Nat} {σ τ τ' :Tbl} {F R R2:Fst} {par d rt:Nat->Nat} {i j u:Nat} {t B l r:BT}
theorem XI.start(h:LF N σ F par d rt)(hi:i<N)(h0:0<i):XI N σ F par d rt i σ .nil i F:=
  ⟨h.addNil hi,fun _=>rfl,fun _ _=>rfl,fun _ hp _=>hp,fun _=>rfl,fun _ hx=>(by cases hx),.inl ⟨rfl,rfl⟩,fun _ _=>Iff.rfl,fun e=>by omega⟩
theorem XI.split(h:XI N σ F par d rt i τ B j R)(hj:j≠0):∃t u R2,R.Perm ((t,u)::R2)/\j∈t.nodes:=by
 have hjN:j<N:=h.lf.up (B,j) (by simp);obtain⟨p,hp,hxp⟩:=bS.1 ((h.lf.mem j).2 ⟨by omega,hjN⟩);have hpR:p∈R:=by {
 rcases qB.1 hp with rfl|hp
 {
 rcases h.lf.outs with e|⟨e,_⟩
 · exact absurd e hj
 · exact absurd hxp e}
 · exact hp};obtain⟨R2,h2⟩:=eC hpR;exact⟨p.1,p.2,R2,h2,hxp⟩
theorem XI.lf2(h:XI N σ F par d rt i τ B j R)(hR:R.Perm ((t,u)::R2)):LF N τ ((t,u)::(B,j)::R2) par d rt:=
  h.lf.perm ((List.Perm.cons _ hR).trans (List.Perm.swap _ _ _))
theorem XI.next(h:XI N σ F par d rt i τ B j R)(hj:j≠0)(hR:R.Perm ((t,u)::R2))(hjt:j∈t.nodes)
    (hrep:Rep τ' (.node false l j r) u) (hseq:(BT.node false l j r).seq=t.seq) (hperm:(BT.node false l j r).nodes.Perm t.nodes) (hrot:cQ τ τ' t.nodes):
    XI N σ F par d rt i (xstep τ' j B.root) (.node false l j B) u ((r,j)::R2)/\((τ' j).k1=r.root/\(mP τ' j B.root j).k0≠j/\(mP τ' j B.root j).k1≠j/\InR N (mP τ' j B.root))/\(u≠0->d u<d j)/\(xstep τ' j B.root j).up=u:=by
 have h2:=h.lf2 hR;have h3:=h2.splay hrep hseq hperm hrot;obtain⟨h4,hoth,hkey,hk1,hq0,hq1,hin⟩:=h3.xstep;have mt:(t,u)∈(t,u)::(B,j)::R2:=by simp
 have hst:=h2.same mt;have hrj:=h.rtj hj;have hrt:∀x∈t.nodes,rt x=rt i:=fun x hx=>(hst.1 x hx j hjt).trans hrj;have hru:u≠0->rt u=rt i:=fun hu=>(hst.2 hu j hjt).symm.trans hrj;have mB:(BT.node false l j B,u)∈(BT.node false l j B,u)::(r,j)::R2:=by simp
 refine⟨⟨h4,fun x=>(hkey x).trans ((hrot.lk x).2.trans (h.key x)),fun x hx=>?_,fun p hp hx=>?_,hru,fun x hx=>?_,.inr ?_,fun hu T=>?_,fun hu=>?_⟩,⟨hk1,hq0,hq1,hin⟩,fun hu=>?_,?_⟩
 · rw[hoth x (fun e=>hx (by rw[e];exact hrj)),hrot.other x (fun e=>hx (hrt x e)),h.frame x hx]
 {
 have h5:=hR.mem_iff.1 (h.trees p hp hx);rcases qB.1 h5 with rfl|h5
 · obtain⟨x,hx,hne⟩:=hx;exact absurd (hrt x hx) hne
 · simp[h5]}
 · exact((h4.same mB).1 x hx j (by simp[BT.nodes])).trans hrj
 {
 simp only[BT.seq,Bool.false_eq_true,if_false];rcases h.last with⟨rfl,rfl⟩|⟨S,hS⟩
 · exact⟨l.seq,rfl⟩
 · exact⟨l.seq++j::S,by rw[hS];simp⟩}
 {
 rw[h.tops hj T,hR.mem_iff];simp only[qB,zD];constructor
 {
 rintro(⟨_,e⟩|e)
 · exact absurd e.symm hu
 · exact .inr e}
 {
 rintro(⟨_,e⟩|e)
 · exact absurd e.symm hj
 · exact .inr e}}
 {
 subst hu;refine⟨t,l.seq,B.seq,r.seq,(h.tops hj t).2 (hR.mem_iff.2 (by simp)),?_,?_,fun x hx=>?_⟩
 · rw[<-hseq];simp[BT.seq,BT.root]
 · simp[BT.seq,BT.root]
 · exact fun e=>h2.disj (p:=(B,j)) (by simp) x e (cH.1 hx)}
 · exact aCE h2.dep (h2.ch _ mt) (h2.seq0 mt) hu j (cH.2 hjt)
 · exact(h4.rep _ mB).1.2.1
theorem XI.done(h:XI N σ F par d rt i τ B 0 R)(hi:i≠0):i∈B.nodes/\∃S,B.seq=S++[i]:=by
 rcases h.last with⟨_,e⟩|⟨S,hS⟩
 · exact absurd e.symm hi
 · exact⟨cH.1 (by rw[hS];simp),S,hS⟩
end
structure xC (N:Nat) (σ:Tbl) (F:Fst) (par d rt:Nat->Nat) (i m:Nat) (τ:Tbl) (l:BT) (R:Fst):Prop where
  lf:LF N τ ((.node false l i .nil,0)::R) par d rt
  key:∀x,(τ x).key=(σ x).key
  frame:∀x,rt x≠rt i->τ x=σ x
  trees:∀p∈F,(∃x∈p.1.nodes,rt x≠rt i)->p∈R
  meets:∃T0 A Bq Rq,(T0,0)∈F/\T0.seq=A++m::Rq/\l.seq++[i]=A++m::Bq/\∀x∈Bq,x∉T0.nodes
theorem XI.exposed{N:Nat}{σ τ τ' :Tbl}{F R:Fst}{par d rt:Nat->Nat}{i:Nat}{B l r:BT}(h:XI N σ F par d rt i τ B 0 R)(hi:i≠0)(hrep:Rep τ' (.node false l i r) 0)(hseq:(BT.node false l i r).seq=B.seq)(hperm:(BT.node false l i r).nodes.Perm B.nodes)(hrot:cQ τ τ' B.nodes):
    xC N σ F par d rt i B.root τ' l R:=by
 have h1:=h.lf.splay hrep hseq hperm hrot;obtain⟨hiB,S,hS⟩:=h.done hi;have hnd:(l.seq++i::r.seq).Nodup:=by {
 have:=h1.nd;rw[aX,qM]at this;have h2:=(BT.seq_perm (.node false l i r)).nodup_iff.2 this.1;simpa[BT.seq] using h2};have he:l.seq++i::r.seq=S++[i]:=by {
 have:(BT.node false l i r).seq=l.seq++i::r.seq:=by simp[BT.seq]
 rw[<-this,hseq,hS]};obtain⟨hr,hl⟩:=aMM he hnd;have hrn:=nM hr;subst hrn;refine⟨h1,fun x=>((hrot.lk x).2).trans (h.key x),fun x hx=>?_,h.trees,?_⟩
 · rw[hrot.other x (fun e=>hx (h.rtB x e)),h.frame x hx]
 {
 obtain⟨T0,A,Bq,Rq,a1,a2,a3,a4⟩:=h.fin rfl;exact⟨T0,A,Bq,Rq,a1,a2,by rw[hl,<-hS];exact a3,a4⟩}
def Adj(par:Nat->Nat)(x y:Nat):Prop:=x≠0/\y≠0/\(par x=y∨par y=x)
theorem Adj.symm{par:Nat->Nat}{x y:Nat}(h:Adj par x y):Adj par y x:=⟨h.2.1,h.1,h.2.2.symm⟩
structure Rtd (par d rt:Nat->Nat):Prop where
  dep:∀x,par x≠0->d (par x)<d x
  rt0:∀x,par x=0->rt x=x
  rt1:∀x,par x≠0->rt x=rt (par x)
theorem LF.rtd{N:Nat}{σ:Tbl}{F:Fst}{par d rt:Nat->Nat}(h:LF N σ F par d rt):Rtd par d rt:=⟨h.dep,h.rt0,h.rt1⟩
def rtF(par:Nat->Nat):Nat->Nat->Nat
  | 0,x=>x
  | k+1,x=>if par x=0 then x else rtF par k (par x)
theorem aPS{par d:Nat->Nat}(dep:∀x,par x≠0->d (par x)<d x):∀(k:Nat) (x m:Nat),d x<=k->d x<=m->rtF par k x=rtF par m x:=by
 intro k;induction k with
 | zero=>{
 intro x m hk hm;have h0:par x=0:=by apply qP;intro h;have:=dep x h;omega
 cases m with
 | zero=>rfl
 | succ m=>simp[rtF,h0]}
 | succ k ih=>{
 intro x m hk hm;by_cases h0:par x=0
 {
 cases m with
 | zero=>simp[rtF,h0]
 | succ m=>simp[rtF,h0]}
 {
 have:=dep x h0;cases m with
 | zero=>omega
 | succ m=>simp only[rtF,qC h0];exact ih _ _ (by omega) (by omega)}}
theorem aOY{par d:Nat->Nat}(dep:∀x,par x≠0->d (par x)<d x):∃rt,Rtd par d rt:=by
 refine⟨fun x=>rtF par (d x) x,dep,fun x h=>?_,fun x h=>?_⟩
 {
 cases e:d x with
 | zero=>simp[rtF]
 | succ k=>simp[rtF,h]}
 {
 have:=dep x h;show rtF par (d x) x=rtF par (d (par x)) (par x)
 obtain⟨k,hk⟩:∃k,d x=k+1:=⟨d x-1,by omega⟩;rw[hk];simp only[rtF,qC h];exact aPS dep _ _ _ (by omega) (by omega)}
section
variable {par d rt:Nat->Nat}
theorem Rtd.root(h:Rtd par d rt):∀(k x:Nat),d x<=k->par (rt x)=0:=by
 intro k;induction k with
 | zero=>{
 intro x hk;have h0:par x=0:=by apply qP;intro e;have:=h.dep x e;omega
 rw[h.rt0 x h0];exact h0}
 | succ k ih=>{
 intro x hk;by_cases h0:par x=0
 · rw[h.rt0 x h0];exact h0
 · rw[h.rt1 x h0];have:=h.dep x h0;exact ih _ (by omega)}
theorem Rtd.par_rt(h:Rtd par d rt)(x:Nat):par (rt x)=0:=h.root _ x (qJ _)
theorem Rtd.idem(h:Rtd par d rt)(x:Nat):rt (rt x)=rt x:=h.rt0 _ (h.par_rt x)
theorem Rtd.adj(h:Rtd par d rt){x y:Nat}(ha:Adj par x y):rt x=rt y:=by
 rcases ha with⟨hx,hy,e|e⟩
 · rw[h.rt1 x (by rw[e];exact hy),e]
 · rw[h.rt1 y (by rw[e];exact hx),e]
theorem Rtd.irrefl(h:Rtd par d rt)(x:Nat):¬Adj par x x:=by
 rintro⟨hx,_,e|e⟩<;>· have:=h.dep x (by rw[e];exact hx);rw[e]at this;omega
theorem Rtd.chain(h:Rtd par d rt):∀(k x:Nat),d x<=k->x≠0->∃S,Ch par 0 (S++[x])/\(S++[x]).Nodup/\(∀y∈S++[x],y≠0)/\(∀y∈S,d y<d x):=by
 intro k;induction k with
 | zero=>{
 intro x hk hx;have h0:par x=0:=by apply qP;intro e;have:=h.dep x e;omega
 exact⟨[],⟨h0,trivial⟩,by simp,by simpa using hx,by simp⟩}
 | succ k ih=>{
 intro x hk hx;by_cases h0:par x=0
 · exact⟨[],⟨h0,trivial⟩,by simp,by simpa using hx,by simp⟩
 {
 have hd:=h.dep x h0;obtain⟨S,h1,h2,h3,h4⟩:=ih (par x) (by omega) h0;have hlt:∀y∈S++[par x],d y<d x:=by {
 intro y hy;rcases qE.1 hy with hy|hy
 · have:=h4 y hy;omega
 · simp at hy;rw[hy];exact hd};refine⟨S++[par x],?_,?_,?_,hlt⟩
 · rw[List.append_assoc];exact fQ.2 ⟨h1,rfl,trivial⟩
 {
 rw[qM];exact⟨h2,by simp,fun a ha b hb=>by simp at hb;subst hb;rintro rfl;have:=hlt a ha;omega⟩}
 {
 intro y hy;rcases qE.1 hy with hy|hy
 · exact h3 y hy
 · simp at hy;rw[hy];exact hx}}}
end
def pv:Nat->List Nat->Nat->Nat
  | _,[],_=>0
  | u,y::l,x=>if x=y then u else pv y l x
theorem aOZ:∀{u:Nat} {L:List Nat},L.Nodup->Ch (pv u L) u L
  | _,[],_=>trivial
  | u,y::l,h=>by
    have hy:y∉l:=(qN.1 h).1;refine⟨by simp[pv],fY (fun x hx=>?_) (aOZ (u:=y) (qN.1 h).2)⟩;simp only[pv];rw[qC (by rintro rfl;exact hy hx)]
theorem lC{par:Nat->Nat}{x:Nat}:∀{u:Nat} {L:List Nat},Ch par u L->x∈L->(∃B,L=x::B/\par x=u)∨∃A B,L=A++par x::x::B
  | u,y::l,⟨e,hc⟩,hx=>by
    rcases qB.1 hx with rfl|hx
    · exact .inl ⟨l,rfl,e⟩
    · rcases lC hc hx with ⟨B, hB, hp⟩ | ⟨A, B, hA⟩
      · exact .inr ⟨[],B,by rw[hB,hp];rfl⟩
      · exact .inr ⟨y::A,B,by rw[hA];rfl⟩
theorem aPA{par:Nat->Nat}{u x y:Nat}{A B:List Nat}(h:Ch par u (A++y::x::B)):par x=y:=(fQ.1 h).2.1
theorem aIP{par d rt:Nat->Nat}(h:Rtd par d rt){S:List Nat}{i:Nat}(hn:(S++[i]).Nodup)(hz:∀x∈S++[i],x≠0)(hc:Ch par 0 (S++[i])):
    ∃par' d' rt', Rtd par' d' rt' /\ (∀x,x∉S++[i]->par' x=par x)/\Ch par' 0 (S++[i]).reverse/\(∀x y,Adj par' x y↔Adj par x y)/\(∀x y,rt' x=rt' y↔rt x=rt y)/\rt' i=i/\par' i=0:=by
 generalize hL:S++[i]=L at *;have hrev:L.reverse=i::S.reverse:=by rw[<-hL];simp
 have hiL:i∈L:=by rw[<-hL];simp
 obtain⟨par', hp'⟩:∃par' :Nat->Nat,par' =fun x=>if x∈L then pv 0 L.reverse x else par x:=⟨_,rfl⟩;have hout:∀x,x∉L->par' x=par x:=fun x hx=>by rw[hp'];simp[hx]
 have hc' :Ch par' 0 L.reverse:=fY (fun x hx=>by rw[hp'];simp only[List.mem_reverse]at hx;simp[hx]) (aOZ (u:=0) (((List.reverse_perm L).nodup_iff.2 hn)));have hpi:par' i=0:=by rw[hrev]at hc'; exact hc'.1
 have turn1:∀x∈L,par x≠0->par x∈L/\par' (par x)=x:=by {
 intro x hx h0;rcases lC hc hx with⟨B,_,e⟩|⟨A,B,e⟩
 · exact absurd e h0
 {
 refine⟨by rw[e];simp,?_⟩;have e2:L.reverse=B.reverse++x::par x::A.reverse:=by rw[e];simp
 rw[e2]at hc'; exact aPA hc'}};have turn2:∀x∈L,par' x≠0->par' x∈L/\par (par' x)=x:=by {
 intro x hx h0;rcases lC hc' (List.mem_reverse.2 hx) with⟨B,_,e⟩|⟨A,B,e⟩
 · exact absurd e h0
 {
 have e2:L=B.reverse++x::par' x::A.reverse:=by have:=congrArg List.reverse e;simpa using this
 exact⟨by rw[e2];simp,by rw[e2]at hc;exact aPA hc⟩}};have hrtL:∀x∈L,rt x=rt i:=by {
 cases hL0:L with
 | nil=>rw[hL0]at hiL;cases hiL
 | cons y l=>{
 rw[hL0]at hc hz hiL;intro x hx;rw[dF h.rt0 h.rt1 hc hz x hx,dF h.rt0 h.rt1 hc hz i hiL]}};have hroot:∀x,par x=0->rt x=rt i->x∈L:=by {
 intro x hx he;cases hL0:L with
 | nil=>rw[hL0]at hiL;cases hiL
 | cons y l=>{
 rw[hL0]at hc hz hiL;have:=dF h.rt0 h.rt1 hc hz i hiL;rw[h.rt0 x hx]at he;rw[he,this];simp}};refine⟨par', fun x=>if x∈L then L.reverse.idxOf x else d x+L.length,fun x=>if rt x=rt i then i else rt x,⟨fun x h0=>?_,fun x h0=>?_,fun x h0=>?_⟩,hout,hc', ?_,?_,by simp,hpi⟩
 {
 by_cases hx:x∈L
 {
 rcases lC hc' (List.mem_reverse.2 hx) with⟨B,_,e⟩|⟨A,B,e⟩
 · exact absurd e h0
 {
 have hm:=(turn2 x hx h0).1;simp only[qD hx,qD hm];have hnr:=((List.reverse_perm L).nodup_iff.2 hn);rw[e]at hnr ⊢;generalize par' x=y at *;have n1:y∉A:=fun ha=>(qM.1 hnr).2.2 y ha y (by simp) rfl;have n2:x∉A:=fun ha=>(qM.1 hnr).2.2 x ha x (by simp) rfl;have n3:x≠y:=by {
 have:=(qN.1 (qM.1 hnr).2.1).1;rintro rfl;exact this (by simp)};have n4:¬y=x:=fun e=>n3 e.symm;rw[List.idxOf_append,qC n1,List.idxOf_append,qC n2];have n5:(y == x)=false:=qQ.2 n4;simp[List.idxOf_cons,n5]}}
 {
 rw[hout x hx]at h0 ⊢;have hd:=h.dep x h0;simp only[qC hx];by_cases hm:par x∈L
 {
 simp only[qD hm];have:=List.idxOf_lt_length_of_mem (List.mem_reverse.2 hm);rw[List.length_reverse]at this;omega}
 · simp only[qC hm];omega}}
 {
 show(if rt x=rt i then i else rt x)=x
 by_cases hx:x∈L
 {
 rw[qD (hrtL x hx)];rcases lC hc' (List.mem_reverse.2 hx) with⟨B,e,_⟩|⟨A,B,e⟩
 · rw[hrev]at e;exact(List.cons.inj e).1
 {
 exfalso
 have:par' x∈L:=by rw[<-List.mem_reverse,e];simp
 exact hz _ this h0}}
 {
 rw[hout x hx]at h0;rw[qC (fun e=>hx (hroot x h0 e)),h.rt0 x h0]}}
 {
 show(if rt x=rt i then i else rt x)=if rt (par' x)=rt i then i else rt (par' x)
 by_cases hx:x∈L
 · rw[qD (hrtL x hx),qD (hrtL _ (turn2 x hx h0).1)]
 {
 rw[hout x hx]at h0 ⊢;rw[h.rt1 x h0]}}
 {
 intro x y;constructor
 {
 rintro⟨hx,hy,e⟩;refine⟨hx,hy,?_⟩;have key:∀x y,y≠0->par' x=y->par x=y∨par y=x:=by {
 intro x y hy e;by_cases hxL:x∈L
 · right;have:=(turn2 x hxL (by rw[e];exact hy)).2;rwa[e]at this
 · left;rw[<-hout x hxL];exact e};rcases e with e|e
 · exact key x y hy e
 · exact(key y x hx e).symm}
 {
 rintro⟨hx,hy,e⟩;refine⟨hx,hy,?_⟩;have key:∀x y,y≠0->par x=y->par' x=y∨par' y=x:=by {
 intro x y hy e;by_cases hxL:x∈L
 · right;have:=(turn1 x hxL (by rw[e];exact hy)).2;rwa[e]at this
 · left;rw[hout x hxL];exact e};rcases e with e|e
 · exact key x y hy e
 · exact(key y x hx e).symm}}
 {
 intro x y;show(if rt x=rt i then i else rt x)=(if rt y=rt i then i else rt y)↔_
 have hne:∀z,rt z≠rt i->i≠rt z:=by {
 rintro z hz rfl;exact hz (h.idem z).symm};by_cases h1:rt x=rt i
 {
 by_cases h2:rt y=rt i
 · rw[qD h1,qD h2,h1,h2];simp
 {
 rw[qD h1,qC h2,h1];exact⟨fun e=>absurd e (hne y h2),fun e=>absurd e.symm h2⟩}}
 {
 by_cases h2:rt y=rt i
 {
 rw[qC h1,qD h2,h2];exact⟨fun e=>absurd e.symm (hne x h1),fun e=>absurd e h1⟩}
 · rw[qC h1,qC h2]}}
section
variable {N:Nat} {σ:Tbl} {R:Fst} {par d rt:Nat->Nat} {l Ta:BT} {i a b:Nat}
theorem LF.top_seq(h:LF N σ ((.node false l i .nil,0)::R) par d rt):(l.seq++[i]).Nodup/\(∀x∈l.seq++[i],x≠0)/\Ch par 0 (l.seq++[i]):=by
 have m1:(BT.node false l i .nil,0)∈(BT.node false l i .nil,0)::R:=by simp
 have e:(BT.node false l i .nil).seq=l.seq++[i]:=by simp[BT.seq]
 have hnd:=h.nd;rw[aX,qM]at hnd;exact⟨by rw[<-e];exact(BT.seq_perm _).nodup_iff.2 hnd.1,by rw[<-e];exact h.seq0 m1,by rw[<-e];exact h.ch _ m1⟩
theorem LF.lead(h:LF N σ ((.node false l i .nil,0)::R) par d rt):∃par' d' rt', LF N (σ.upd i { σ i with flip:=true }) ((.node true l i .nil,0)::R) par' d' rt' /\ (∀x y,Adj par' x y↔Adj par x y)/\(∀x y,rt' x=rt' y↔rt x=rt y)/\rt' i=i/\par' i=0:=by
 obtain⟨hn,hz,hc⟩:=h.top_seq;obtain⟨par', d', rt', hR,hout,hc', hadj,hrt,hi,hpi⟩:=aIP h.rtd hn hz hc;have m1:(BT.node false l i .nil,0)∈(BT.node false l i .nil,0)::R:=by simp
 have hseq:∀x,x∈l.seq++[i]↔x∈(BT.node false l i .nil).nodes:=by intro x;rw[<-cH];simp[BT.seq]
 have hnd:=h.nd;rw[aX,qM]at hnd;have hi1:i∉l.nodes:=by have:=hnd.1;simp only[BT.nodes,qM]at this;exact fun e=>this.2.2 i e i (by simp) rfl
 have hoth:∀x,x≠i->(σ.upd i { σ i with flip:=true }) x=σ x:=fun x hx=>aJ hx;have hii:(σ.upd i { σ i with flip:=true }) i={ σ i with flip:=true }:=aM _ _ _;have hlk:∀x,((σ.upd i { σ i with flip:=true }) x).light=(σ x).light/\((σ.upd i { σ i with flip:=true }) x).key=(σ x).key:=by {
 intro x;by_cases e:x=i
 · subst e;rw[hii];exact⟨rfl,rfl⟩
 · rw[hoth x e];exact⟨rfl,rfl⟩};refine⟨par', d', rt', ⟨fun p hp=>?_,h.nd,h.mem,fun p hp=>?_,fun p hp=>?_,hR.dep,fun x hx=>?_,hR.rt0,hR.rt1,fun v h1 h2=>?_,?_,h.pos⟩,hadj,hrt,hi,hpi⟩
 {
 rcases qB.1 hp with rfl|hp
 {
 obtain⟨q1,q2,q3,q4,q5,q6⟩:=h.rep _ m1;refine⟨by rw[hii];exact⟨q1.1,q1.2.1,rfl,q1.2.2.2⟩,q2.congr (fun x hx=>hoth x (fun e=>hi1 (e▸hx))),trivial,by rw[hii];exact q4,?_,?_⟩
 · rw[hii,bZ (fun x _=>(hlk x).1)];exact q5
 · rw[hii];exact dE (fun x _=>(hlk x).2) q6}
 · exact(h.rep p (by simp[hp])).congr (fun x hx=>hoth x (fun e=>hnd.2.2 i (by simp[BT.nodes]) i (bS.2 ⟨p,hp,e▸hx⟩) rfl))}
 {
 rcases qB.1 hp with rfl|hp
 · exact h.pos
 · exact h.up p (by simp[hp])}
 {
 rcases qB.1 hp with rfl|hp
 {
 show Ch par' 0 (BT.node true l i .nil).seq
 simp only[BT.seq,if_true];exact hc'}
 {
 refine fY (fun x hx=>hout x ?_) (h.ch p (by simp[hp]));rw[hseq];exact fun e=>hnd.2.2 x e x (bS.2 ⟨p,hp,cH.1 hx⟩) rfl}}
 {
 rw[hout x ?_]
 · exact h.none x hx
 · rw[hseq];exact fun e=>hx ((h.mem x).1 (by rw[aX];simp only[qE];exact .inl e))}
 · rw[(hlk v).1,h.light v h1 h2,eX (σ:=σ) (σ' :=σ.upd i { σ i with flip:=true }) (fun x _=>(hlk x).1)];rfl
 {
 have:(0:Nat)≠i:=fun e=>hz i (by simp) e.symm;rw[hoth 0 this];exact h.zero}
def zR(σ:Tbl)(a b:Nat):Tbl:=σ.upd a { σ a with up:=b }
def fK(σ:Tbl)(a b:Nat):Tbl:=(zR σ a b).upd b { zR σ a b b with light:=wrap64 ((zR σ a b b).light+(zR σ a b a).total) }
theorem LF.link(h:LF N σ ((Ta,0)::(.node false l b .nil,0)::R) par d rt)(hra:Ta.root=a)(ha0:a≠0)(ha:rt a=a)(hab:rt b≠a):
    (∃par' d' rt', LF N (refresh (fK σ a b) b) ((Ta,b)::(.node false l b .nil,0)::R) par' d' rt' /\ (∀x y,Adj par' x y↔Adj par x y∨(x=a/\y=b)∨(x=b/\y=a))) /\
      (∀x,(refresh (fK σ a b) b x).key=(σ x).key)/\(fK σ a b b).k0≠b/\(fK σ a b b).k1≠b/\InR N (fK σ a b):=by
 have m1:(Ta,0)∈(Ta,0)::(BT.node false l b .nil,0)::R:=by simp
 have m2:(BT.node false l b .nil,0)∈(Ta,0)::(BT.node false l b .nil,0)::R:=by simp
 have haT:a∈Ta.nodes:=hra▸BT.root_mem (by rw[hra];exact ha0);have hTa:=h.rep _ m1;obtain⟨⟨hb0,hbu,hbf,hk0,hk1⟩,hl,hr,_⟩:=h.rep _ m2;have hnd:=h.nd;simp only[aX,BT.nodes,qM,qN,qE,qB,List.append_assoc,zB,List.nil_append]at hnd;have dbl:b∉l.nodes:=by grind
 have dbT:b∉Ta.nodes:=by grind
 have dbR:b∉cE R:=by grind
 have dal:a∉l.nodes:=by grind
 have daR:a∉cE R:=by grind
 have ndT:Ta.nodes.Nodup:=by grind
 have hne:a≠b:=fun e=>dbT (e▸haT);have hne' :b≠a:=fun e=>hne e.symm;have hbN:=(h.lt m2 (x:=b) (by simp[BT.nodes])).2;have haN:=(h.lt m1 haT).2;have l1b:zR σ a b b=σ b:=aJ hne';have l1a:zR σ a b a={ σ a with up:=b }:=aM _ _ _;have l2:∀x,x≠a->x≠b->fK σ a b x=σ x:=fun x e1 e2=>by unfold fK zR;rw[aJ e2,aJ e1]
 have l2a:fK σ a b a={ σ a with up:=b }:=by unfold fK;rw[aJ hne,l1a]
 have l2b:fK σ a b b={ σ b with light:=wrap64 ((σ b).light+(σ a).total) }:=by unfold fK;rw[aM,l1b,l1a]
 have htA:(σ a).total=wrap64 (tot σ Ta.nodes):=by rw[<-hra];exact nL h.zero.1 hTa
 have r3:∀x,x≠b->refresh (fK σ a b) b x=fK σ a b x:=fun x hx=>cS hx;have lk3:=@aL (fK σ a b) b b;have hkey:∀x,(refresh (fK σ a b) b x).key=(σ x).key:=by {
 intro x;rw[aL.2.2.2.2.1];by_cases e1:x=a
 · subst e1;rw[l2a]
 {
 by_cases e2:x=b
 · subst e2;rw[l2b]
 · rw[l2 x e1 e2]}};have hlt3:∀x,x≠b->(refresh (fK σ a b) b x).light=(σ x).light:=by {
 intro x hx;rw[r3 x hx];by_cases e1:x=a
 · subst e1;rw[l2a]
 · rw[l2 x e1 hx]};have hq0:(fK σ a b b).k0≠b:=by rw[l2b];show(σ b).k0≠b;rw[hk0];intro e;exact dbl (e▸BT.root_mem (by rw[e];exact hb0))
 have hq1:(fK σ a b b).k1≠b:=by rw[l2b];show(σ b).k1≠b;rw[hk1];exact fun e=>hb0 e.symm
 have hin:InR N (fK σ a b):=by {
 have hi:=h.inR;intro x hx;by_cases e1:x=a
 · subst e1;rw[l2a];exact⟨(hi x hx).1,(hi x hx).2.1,hbN,(hi x hx).2.2.2⟩
 {
 by_cases e2:x=b
 · subst e2;rw[l2b];exact hi x hx
 · rw[l2 x e1 e2];exact hi x hx}};refine⟨⟨fun x=>if x=a then b else par x,fun x=>if rt x=a then d x+d b+1 else d x,fun x=>if rt x=a then rt b else rt x,⟨fun p hp=>?_,h.nd,h.mem,fun p hp=>?_,fun p hp=>?_,fun x hx=>?_,fun x hx=>?_,fun x hx=>?_,fun x hx=>?_,fun v h1 h2=>?_,?_,h.pos⟩,fun x y=>?_⟩,hkey,hq0,hq1,hin⟩
 {
 rcases qB.1 hp with rfl|hp
 {
 have:Rep (fK σ a b) Ta b:=hTa.reup ndT (fun x hx hxr=>l2 x (by rw[<-hra];exact hxr) (fun e=>dbT (e▸hx))) (fun _=>by rw[hra];exact l2a);exact this.congr (fun x hx=>r3 x (fun e=>dbT (e▸hx)))};rcases qB.1 hp with rfl|hp
 · refine dO hb0 (by rw[l2b];exact hbu) (by rw[l2b];exact hbf) (by rw[l2b];exact hk0) (by rw[l2b];exact hk1) (hl.congr (fun x hx=>l2 x (fun e=>dal (e▸hx)) (fun e=>dbl (e▸hx)))) trivial dbl (by simp[BT.nodes])
 {
 refine(h.rep p (by simp[hp])).congr (fun x hx=>?_);have hxR:=bS.2 ⟨p,hp,hx⟩;rw[r3 x (fun e=>dbR (e▸hxR)),l2 x (fun e=>daR (e▸hxR)) (fun e=>dbR (e▸hxR))]}}
 {
 rcases qB.1 hp with rfl|hp
 · exact hbN
 rcases qB.1 hp with rfl|hp
 · exact h.pos
 · exact h.up p (by simp[hp])}
 {
 rcases qB.1 hp with rfl|hp
 {
 have hc:=h.ch _ m1;have h0:=h.seq0 m1;have haS:=cH.2 haT;have hndS:=(BT.seq_perm Ta).nodup_iff.2 ndT;show Ch (fun x=>if x=a then b else par x) b Ta.seq
 dsimp only at hc h0
 generalize Ta.seq=s at *;cases s with
 | nil=>trivial
 | cons y s=>{
 have hy:y=a:=by rw[<-dF h.rt0 h.rt1 hc h0 a haS,ha]
 subst hy;refine⟨by simp,fY (fun x hx=>?_) hc.2⟩;rw[qC (by rintro rfl;exact(qN.1 hndS).1 hx)]}};rcases qB.1 hp with rfl|hp
 {
 refine fY (fun x hx=>?_) (h.ch _ m2);rw[qC];rintro rfl;have:=cH.1 hx;simp only[BT.nodes,qE,qB,List.not_mem_nil,or_false]at this;exact this.elim dal hne}
 {
 refine fY (fun x hx=>?_) (h.ch p (by simp[hp]));rw[qC];rintro rfl;exact daR (bS.2 ⟨p,hp,cH.1 hx⟩)}}
 {
 try dsimp only at hx ⊢
 by_cases e:x=a
 {
 subst e;simp only[if_true,ha,qC hab];omega}
 {
 rw[qC e]at hx ⊢;have:=h.dep x hx;rw[h.rt1 x hx];split<;>omega}}
 {
 try dsimp only
 have hxa:x≠a:=by rintro rfl;exact hx ⟨by omega,haN⟩
 rw[qC hxa];exact h.none x hx}
 {
 try dsimp only at hx ⊢
 by_cases e:x=a
 · rw[qD e]at hx;exact absurd hx hb0
 {
 rw[qC e]at hx;rw[h.rt0 x hx,qC e]}}
 {
 try dsimp only at hx ⊢
 by_cases e:x=a
 {
 subst e;simp only[if_true,ha,qC hab]}
 {
 rw[qC e]at hx ⊢;rw[h.rt1 x hx]}}
 {
 have eT:tot (refresh (fK σ a b) b) Ta.nodes=tot σ Ta.nodes:=bZ (fun x hx=>hlt3 x (fun e=>dbT (e▸hx)));have eR:jE (refresh (fK σ a b) b) R v=jE σ R v:=eX (fun x hx=>hlt3 x (fun e=>dbR (e▸hx)));have hlv:=h.light v h1 h2;have hv0:¬(0=v):=by omega
 simp only[jE,qC hv0]at hlv ⊢;rw[eT,eR];by_cases ev:b=v
 {
 subst ev;rw[qD rfl,lk3.2.2.2.2.2,l2b];show wrap64 ((σ b).light+(σ a).total)=_
 rw[hlv,htA];unfold wrap64;omega}
 · rw[qC ev,hlt3 v (fun e=>ev e.symm),hlv]}
 {
 have h0a:(0:Nat)≠a:=fun e=>ha0 e.symm;have h0b:(0:Nat)≠b:=fun e=>hb0 e.symm;rw[r3 0 h0b,l2 0 h0a h0b];exact h.zero}
 {
 have hpa:par a=0:=by have:=h.rtd.par_rt a;rwa[ha]at this
 constructor
 {
 rintro⟨hx,hy,e⟩;dsimp only at e
 rcases e with e|e
 {
 by_cases ex:x=a
 · rw[qD ex]at e;exact .inr (.inl ⟨ex,e.symm⟩)
 · rw[qC ex]at e;exact .inl ⟨hx,hy,.inl e⟩}
 {
 by_cases ey:y=a
 · rw[qD ey]at e;exact .inr (.inr ⟨e.symm,ey⟩)
 · rw[qC ey]at e;exact .inl ⟨hx,hy,.inr e⟩}}
 {
 rintro(⟨hx,hy,e⟩|⟨rfl,rfl⟩|⟨rfl,rfl⟩)
 {
 refine⟨hx,hy,?_⟩;dsimp only
 rcases e with e|e
 {
 left;rw[qC];exact e
 rintro rfl;rw[hpa]at e;exact hy e.symm}
 {
 right;rw[qC];exact e
 rintro rfl;rw[hpa]at e;exact hx e.symm}}
 · exact⟨ha0,hb0,.inl (by simp)⟩
 · exact⟨hb0,ha0,.inr (by simp)⟩}}
theorem uR{t:BT}{a:Nat}(h:t.seq=[a]):∃f,t=.node f .nil a .nil:=by
 cases t with
 | nil=>cases h
 | node f l v r=>{
 have e:l.seq++v::r.seq=[a]:=by {
 cases f with
 | false=>simpa[BT.seq] using h
 | true=>{
 have:=congrArg List.reverse h;simpa[BT.seq] using this}};have hl:l.seq=[]:=by {
 cases hls:l.seq with
 | nil=>rfl
 | cons x s=>rw[hls]at e;simp at e};rw[hl]at e;simp at e;have h1:=nM hl;have h2:=nM e.2;subst h1;subst h2;exact⟨f,by rw[e.1]⟩}
def aIQ(σ:Tbl)(a:Nat):Tbl:=σ.upd a { σ a with up:=0 }
def iC(σ:Tbl)(a b:Nat):Tbl:=(aIQ σ a).upd b { aIQ σ a b with k0:=0 }
theorem LF.cut(h:LF N σ ((.node false l b .nil,0)::R) par d rt)(hl:l.seq=[a]):
    (∃par' d' rt' F', LF N (refresh (iC σ a b) b) F' par' d' rt' /\ (∀x y,Adj par' x y↔Adj par x y/\¬(x=a/\y=b)/\¬(x=b/\y=a))) /\
      (∀x,(refresh (iC σ a b) b x).key=(σ x).key)/\(iC σ a b b).k0≠b/\(iC σ a b b).k1≠b/\InR N (iC σ a b):=by
 obtain⟨f,rfl⟩:=uR hl;have m1:(BT.node false (.node f .nil a .nil) b .nil,0)∈(BT.node false (.node f .nil a .nil) b .nil,0)::R:=by simp
 obtain⟨⟨hb0,hbu,hbf,hk0,hk1⟩,hla,_,_⟩:=h.rep _ m1;have hnd:=h.nd;simp only[aX,BT.nodes,qN,qB,zB,List.nil_append]at hnd;have hne:a≠b:=by grind
 have hne' :b≠a:=fun e=>hne e.symm;have dbR:b∉cE R:=by grind
 have daR:a∉cE R:=by grind
 have ha0:a≠0:=hla.1.1;have hab:Ch par 0 [a,b]:=by {
 have e:(BT.node false (.node f .nil a .nil) b .nil).seq=[a,b]:=by cases f<;>simp[BT.seq]
 rw[<-e];exact h.ch _ m1};have hpb:par b=a:=hab.2.1;have hpa:par a=0:=hab.1;have l2:∀x,x≠a->x≠b->iC σ a b x=σ x:=fun x e1 e2=>by unfold iC aIQ;rw[aJ e2,aJ e1]
 have l2a:iC σ a b a={ σ a with up:=0 }:=by unfold iC aIQ;rw[aJ hne,aM]
 have l2b:iC σ a b b={ σ b with k0:=0 }:=by unfold iC aIQ;rw[aM,aJ hne']
 have r3:∀x,x≠b->refresh (iC σ a b) b x=iC σ a b x:=fun x hx=>cS hx;have hlk:∀x,(refresh (iC σ a b) b x).light=(σ x).light/\(refresh (iC σ a b) b x).key=(σ x).key:=by {
 intro x;have:=@aL (iC σ a b) b x;rw[this.2.2.2.2.2,this.2.2.2.2.1];by_cases e1:x=a
 · subst e1;rw[l2a];exact⟨rfl,rfl⟩
 {
 by_cases e2:x=b
 · subst e2;rw[l2b];exact⟨rfl,rfl⟩
 · rw[l2 x e1 e2];exact⟨rfl,rfl⟩}};have hq0:(iC σ a b b).k0≠b:=by rw[l2b];exact fun e=>hb0 e.symm
 have hq1:(iC σ a b b).k1≠b:=by rw[l2b];show(σ b).k1≠b;rw[hk1];exact fun e=>hb0 e.symm
 have hin:InR N (iC σ a b):=by {
 have hi:=h.inR;intro x hx;by_cases e1:x=a
 · subst e1;rw[l2a];exact⟨(hi x hx).1,(hi x hx).2.1,h.pos,(hi x hx).2.2.2⟩
 {
 by_cases e2:x=b
 · subst e2;rw[l2b];exact⟨h.pos,(hi x hx).2⟩
 · rw[l2 x e1 e2];exact hi x hx}};have dep' :∀x,(if x=b then 0 else par x)≠0->d (if x=b then 0 else par x)<d x:=by {
 intro x hx;by_cases e:x=b
 · rw[qD e]at hx;exact absurd rfl hx
 · rw[qC e]at hx ⊢;exact h.dep x hx};obtain⟨rt', hrt⟩:=aOY (par:=fun x=>if x=b then 0 else par x) (d:=d) dep';have hfp:cE ((BT.node f .nil a .nil,0)::(BT.node false .nil b .nil,0)::R)=cE ((BT.node false (.node f .nil a .nil) b .nil,0)::R):=by simp[aX,BT.nodes]
 refine⟨⟨fun x=>if x=b then 0 else par x,d,rt', (.node f .nil a .nil,0)::(.node false .nil b .nil,0)::R,⟨fun p hp=>?_,by rw[hfp];exact h.nd,fun x=>by rw[hfp];exact h.mem x,fun p hp=>?_,fun p hp=>?_,dep', fun x hx=>?_,hrt.rt0,hrt.rt1,fun v h1 h2=>?_,?_,h.pos⟩,fun x y=>?_⟩,fun x=>(hlk x).2,hq0,hq1,hin⟩
 {
 rcases qB.1 hp with rfl|hp
 {
 have:Rep (iC σ a b) (.node f .nil a .nil) 0:=hla.reup (by simp[BT.nodes]) (fun x hx hxr=>absurd (show x=a by simpa[BT.nodes] using hx) hxr) (fun _=>l2a);exact this.congr (fun x hx=>r3 x (by simp[BT.nodes]at hx;rw[hx];exact hne))};rcases qB.1 hp with rfl|hp
 · exact dO hb0 (by rw[l2b];exact hbu) (by rw[l2b];exact hbf) (by rw[l2b];rfl) (by rw[l2b];exact hk1) trivial trivial (by simp[BT.nodes]) (by simp[BT.nodes])
 {
 refine(h.rep p (by simp[hp])).congr (fun x hx=>?_);have hxR:=bS.2 ⟨p,hp,hx⟩;rw[r3 x (fun e=>dbR (e▸hxR)),l2 x (fun e=>daR (e▸hxR)) (fun e=>dbR (e▸hxR))]}}
 {
 rcases qB.1 hp with rfl|hp
 · exact h.pos
 rcases qB.1 hp with rfl|hp
 · exact h.pos
 · exact h.up p (by simp[hp])}
 {
 rcases qB.1 hp with rfl|hp
 {
 have e:(BT.node f .nil a .nil).seq=[a]:=hl;show Ch _ 0 (BT.node f .nil a .nil).seq
 rw[e];exact⟨by show(if a=b then 0 else par a)=0;rw[qC hne,hpa],trivial⟩};rcases qB.1 hp with rfl|hp
 {
 show Ch _ 0 (BT.node false .nil b .nil).seq
 simp[BT.seq,Ch]}
 · exact fY (fun x hx=>qC (show ¬x=b from fun e=>dbR (bS.2 ⟨p,hp,e▸cH.1 hx⟩))) (h.ch p (by simp[hp]))}
 {
 try dsimp only
 split
 · rfl
 · exact h.none x hx}
 {
 have hlv:=h.light v h1 h2;have hv0:¬(0=v):=by omega
 rw[(hlk v).1,hlv];simp only[jE,qC hv0];rw[eX (σ:=σ) (σ' :=refresh (iC σ a b) b) (fun x _=>(hlk x).1)];congr 1;omega}
 {
 have h0a:(0:Nat)≠a:=fun e=>ha0 e.symm;have h0b:(0:Nat)≠b:=fun e=>hb0 e.symm;rw[r3 0 h0b,l2 0 h0a h0b];exact h.zero}
 {
 constructor
 {
 rintro⟨hx,hy,e⟩;dsimp only at e
 rcases e with e|e
 {
 by_cases ex:x=b
 · rw[qD ex]at e;exact absurd e.symm hy
 {
 rw[qC ex]at e;refine⟨⟨hx,hy,.inl e⟩,?_,fun h=>ex h.1⟩;rintro⟨rfl,rfl⟩;rw[hpa]at e;exact hy e.symm}}
 {
 by_cases ey:y=b
 · rw[qD ey]at e;exact absurd e.symm hx
 {
 rw[qC ey]at e;refine⟨⟨hx,hy,.inr e⟩,fun h=>ey h.2,?_⟩;rintro⟨rfl,rfl⟩;rw[hpa]at e;exact hx e.symm}}}
 {
 rintro⟨⟨hx,hy,e⟩,n1,n2⟩;refine⟨hx,hy,?_⟩;dsimp only
 rcases e with e|e
 {
 left;rw[qC];exact e
 rintro rfl;rw[hpb]at e;exact n2 ⟨rfl,e.symm⟩}
 {
 right;rw[qC];exact e
 rintro rfl;rw[hpb]at e;exact n1 ⟨e.symm,rfl⟩}}}
def set1(σ:Tbl)(i:Nat)(k:Int):Tbl:=σ.upd i { σ i with key:=k }
theorem LF.set(h:LF N σ ((.node false l i .nil,0)::R) par d rt)(k:Int):
    LF N (refresh (set1 σ i k) i) ((.node false l i .nil,0)::R) par d rt/\(∀x,(refresh (set1 σ i k) i x).key=if x=i then k else(σ x).key)/\(set1 σ i k i).k0≠i/\(set1 σ i k i).k1≠i/\InR N (set1 σ i k):=by
 have m1:(BT.node false l i .nil,0)∈(BT.node false l i .nil,0)::R:=by simp
 obtain⟨⟨hi0,hiu,hif,hk0,hk1⟩,hl,_,_⟩:=h.rep _ m1;have hnd:=h.nd;simp only[aX,BT.nodes,qM,qN,qB,List.append_assoc,zB,List.nil_append]at hnd;have dil:i∉l.nodes:=by grind
 have diR:i∉cE R:=by grind
 have l1:∀x,x≠i->set1 σ i k x=σ x:=fun x e=>by unfold set1;rw[aJ e]
 have l1i:set1 σ i k i={ σ i with key:=k }:=by unfold set1;rw[aM]
 have r3:∀x,x≠i->refresh (set1 σ i k) i x=σ x:=fun x hx=>by rw[cS hx,l1 x hx]
 have hli:∀x,(refresh (set1 σ i k) i x).light=(σ x).light:=by {
 intro x;by_cases e:x=i
 · subst e;rw[aL.2.2.2.2.2,l1i]
 · rw[r3 x e]};have hq0:(set1 σ i k i).k0≠i:=by rw[l1i];show(σ i).k0≠i;rw[hk0];intro e;exact dil (e▸BT.root_mem (by rw[e];exact hi0))
 have hq1:(set1 σ i k i).k1≠i:=by rw[l1i];show(σ i).k1≠i;rw[hk1];exact fun e=>hi0 e.symm
 refine⟨⟨fun p hp=>?_,h.nd,h.mem,h.up,h.ch,h.dep,h.none,h.rt0,h.rt1,fun v h1 h2=>?_,?_,h.pos⟩,fun x=>?_,hq0,hq1,?_⟩
 {
 rcases qB.1 hp with rfl|hp
 · exact dO hi0 (by rw[l1i];exact hiu) (by rw[l1i];exact hif) (by rw[l1i];exact hk0) (by rw[l1i];exact hk1) (hl.congr (fun x hx=>l1 x (fun e=>dil (e▸hx)))) trivial dil (by simp[BT.nodes])
 · exact(h.rep p (by simp[hp])).congr (fun x hx=>r3 x (fun e=>diR (e▸bS.2 ⟨p,hp,hx⟩)))}
 · rw[hli v,h.light v h1 h2,eX (σ:=σ) (σ' :=refresh (set1 σ i k) i) (fun x _=>hli x)]
 · rw[r3 0 (fun e=>hi0 e.symm)];exact h.zero
 {
 by_cases e:x=i
 · subst e;rw[qD rfl,aL.2.2.2.2.1,l1i]
 · rw[qC e,r3 x e]}
 {
 have hi:=h.inR;intro x hx;by_cases e1:x=i
 · subst e1;rw[l1i];exact hi x hx
 · rw[l1 x e1];exact hi x hx}
end
def Wk(E:Nat->Nat->Prop):Nat->List Nat->Prop
  | _,[]=>True
  | a,x::l=>E a x/\Wk E x l
def bR(E:Nat->Nat->Prop)(a b:Nat)(p:List Nat):Prop:=∃l,p=a::l/\Wk E a l/\p.Nodup/\p.getLast? =some b
theorem aIR{par:Nat->Nat}:∀{a:Nat} {l:List Nat},Wk (Adj par) a l->∀x∈l,x≠0
  | a,y::l,⟨h1,h2⟩,x,hx=>by
    rcases qB.1 hx with rfl|hx
    · exact h1.2.1
    · exact aIR h2 x hx
theorem aDW{E E' :Nat->Nat->Prop}(h:∀x y,E x y->E' x y):∀{a:Nat} {l:List Nat},Wk E a l->Wk E' a l
  | _,[],_=>trivial
  | _,_y::_l,⟨h1,h2⟩=>⟨h _ _ h1,aDW h h2⟩
theorem bR.mono{E E' :Nat->Nat->Prop}(h:∀x y,E x y->E' x y){a b:Nat}{p:List Nat}(hp:bR E a b p):bR E' a b p:=by
 obtain⟨l,h1,h2,h3,h4⟩:=hp;exact⟨l,h1,aDW h h2,h3,h4⟩
theorem aIS{par:Nat->Nat}:∀{a:Nat} {l:List Nat},a≠0->(∀x∈l,x≠0)->Ch par a l->Wk (Adj par) a l
  | _,[],_,_,_=>trivial
  | a,y::l,ha,hn,⟨h1,h2⟩=>⟨⟨ha,hn y (by simp),.inr h1⟩,aIS (hn y (by simp)) (fun x hx=>hn x (by simp[hx])) h2⟩
theorem aPB{par:Nat->Nat}:∀{a:Nat} {l:List Nat},Wk (Adj par) a l->(a::l).Nodup->par a∉l->Ch par a l
  | _,[],_,_,_=>trivial
  | a,y::l,⟨h1,h2⟩,hn,hp=>by
    have hy:par y=a:=by
      rcases h1.2.2 with e|e
      · exact absurd (by rw[e];simp) hp
      · exact e
    have hn2:=qN.1 hn;exact⟨hy,aPB h2 hn2.2 (by rw[hy];exact fun e=>hn2.1 (by simp[e]))⟩
theorem aFZ{par:Nat->Nat}{b:Nat}:∀(n:Nat) (S T:List Nat),S.length<=n->Ch par 0 (S++[b])->Ch par 0 (T++[b])->(∀x∈S,x≠0)->(∀x∈T,x≠0)->S=T:=by
 intro n;induction n generalizing b with
 | zero=>{
 intro S T hn hS hT _ hz;obtain rfl:S=[]:=List.length_eq_zero_iff.1 (by omega);rcases List.eq_nil_or_concat T with rfl|⟨T', z,rfl⟩
 · rfl
 {
 rw[List.concat_eq_append,List.append_assoc]at hT;have h1:par b=z:=(fQ.1 hT).2.1;have h2:par b=0:=hS.1;exact absurd (h1.symm.trans h2) (hz z (by simp))}}
 | succ n ih=>{
 intro S T hn hS hT hzS hzT;rcases List.eq_nil_or_concat T with rfl|⟨T', z,rfl⟩
 {
 rcases List.eq_nil_or_concat S with rfl|⟨S', y,rfl⟩
 · rfl
 {
 rw[List.concat_eq_append,List.append_assoc]at hS;have h1:par b=y:=(fQ.1 hS).2.1;have h2:par b=0:=hT.1;exact absurd (h1.symm.trans h2) (hzS y (by simp))}}
 {
 rcases List.eq_nil_or_concat S with rfl|⟨S', y,rfl⟩
 {
 rw[List.concat_eq_append,List.append_assoc]at hT;have h1:par b=z:=(fQ.1 hT).2.1;have h2:par b=0:=hS.1;exact absurd (h1.symm.trans h2) (hzT z (by simp))}
 {
 rw[List.concat_eq_append,List.append_assoc]at hS hT;have h1:par b=y:=(fQ.1 hS).2.1;have h2:par b=z:=(fQ.1 hT).2.1;obtain rfl:y=z:=h1.symm.trans h2;have:=ih S' T' (by simp at hn;omega) (fQ.1 hS).1 (fQ.1 hT).1 (fun x hx=>hzS x (by simp[hx])) (fun x hx=>hzT x (by simp[hx]));rw[this]}}}
section
variable {par d rt:Nat->Nat}
theorem Rtd.reroot_at(h:Rtd par d rt){a:Nat}(ha:a≠0):∃par' d' rt', Rtd par' d' rt' /\ (∀x y,Adj par' x y↔Adj par x y)/\(∀x y,rt' x=rt' y↔rt x=rt y)/\rt' a=a/\par' a=0:=by
 obtain⟨S,h1,h2,h3,_⟩:=h.chain (d a) a (qJ _) ha;obtain⟨par', d', rt', a1,_,_,a4,a5,a6,a7⟩:=aIP h h2 h3 h1;exact⟨par', d', rt', a1,a4,a5,a6,a7⟩
theorem xD{l:List Nat}{b:Nat}(h:l.getLast? =some b):∃S,l=S++[b]:=by
 rcases List.eq_nil_or_concat l with rfl|⟨S,x,rfl⟩
 · simp at h
 · simp at h;subst h;exact⟨S,by simp⟩
theorem Rtd.unique(h:Rtd par d rt){a b:Nat}(ha:a≠0){p q:List Nat}(hp:bR (Adj par) a b p)(hq:bR (Adj par) a b q):p=q:=by
 obtain⟨par', d', rt', h', hadj,_,_,hpa⟩:=h.reroot_at ha;have key:∀{p:List Nat},bR (Adj par) a b p->∃S,p=S++[b]/\Ch par' 0 p/\∀x∈p,x≠0:=by {
 intro p hp;obtain⟨l,rfl,h2,h3,h4⟩:=hp.mono (fun x y=>(hadj x y).2);obtain⟨S,hS⟩:=xD h4;have hn:=aIR h2;refine⟨S,hS,⟨hpa,aPB h2 h3 (by rw[hpa];exact fun e=>hn 0 e rfl)⟩,fun x hx=>?_⟩;rcases qB.1 hx with rfl|hx
 · exact ha
 · exact hn x hx};obtain⟨S,e1,c1,n1⟩:=key hp;obtain⟨T,e2,c2,n2⟩:=key hq;rw[e1]at c1 n1;rw[e2]at c2 n2;rw[e1,e2,aFZ S.length S T (qJ _) c1 c2 (fun x hx=>n1 x (by simp[hx])) (fun x hx=>n2 x (by simp[hx]))]
theorem aPC(h:Rtd par d rt):∀{a:Nat} {l:List Nat},Wk (Adj par) a l->∀x∈a::l,rt x=rt a
  | a,[],_,x,hx=>by simp at hx;rw[hx]
  | a,y::l,⟨h1,h2⟩,x,hx=>by
    rcases qB.1 hx with rfl|hx
    · rfl
    · rw[aPC h h2 x hx,h.adj h1]
theorem Rtd.conn(h:Rtd par d rt){a b:Nat}(ha:a≠0)(hb:b≠0):(∃p,bR (Adj par) a b p)↔rt a=rt b:=by
 constructor
 {
 rintro⟨p,l,rfl,h2,_,h4⟩;exact(aPC h h2 b (List.mem_of_getLast? h4)).symm}
 {
 intro e;obtain⟨par', d', rt', h', hadj,hrt,hra,hpa⟩:=h.reroot_at ha;obtain⟨S,c1,c2,c3,_⟩:=h'.chain (d' b) b (qJ _) hb;have e' :rt' b=a:=by rw[<-(hrt a b).2 e,hra]
 cases hS:S++[b] with
 | nil=>simp at hS
 | cons y l=>{
 have hbm:b∈y::l:=by rw[<-hS];simp
 rw[hS]at c1 c2 c3;have hy:y=a:=by rw[<-dF h'.rt0 h'.rt1 c1 c3 b hbm,e']
 subst hy;have:bR (Adj par') y b (y::l):=⟨l,rfl,aIS ha (fun x hx=>c3 x (by simp[hx])) c1.2,c2,by rw[<-hS];simp⟩;exact⟨_,this.mono (fun x y=>(hadj x y).1)⟩}}
end
section
variable {N:Nat} {σ:Tbl} {R:Fst} {par d rt:Nat->Nat} {t:BT}
end
theorem LF.new(n:Nat)(σ:Tbl)(h0:(σ 0).total=0/\(σ 0).k0=0/\(σ 0).k1=0/\(σ 0).up=0/\(σ 0).first=0)
    (h1:∀x,0<x->x<n+1->(σ x).k0=0/\(σ x).k1=0/\(σ x).up=0/\(σ x).flip=false/\(σ x).size=1/\(σ x).first=x/\(σ x).light=0/\(σ x).total=1):
    LF (n+1) σ ((List.range n).map fun v=>(.node false .nil (v+1) .nil,0)) (fun _=>0) (fun _=>0) id:=by
 have hfn:cE ((List.range n).map fun v=>(BT.node false .nil (v+1) .nil,0))=(List.range n).map (· + 1):=by {
 unfold cE;rw[List.flatMap_map];simp[BT.nodes];rw[<-List.map_eq_flatMap]};refine⟨fun p hp=>?_,?_,fun x=>?_,fun p hp=>?_,fun p hp=>?_,fun x hx=>absurd rfl hx,fun _ _=>rfl,fun _ _=>rfl,fun x hx=>absurd rfl hx,fun v hv1 hv2=>?_,h0,by omega⟩
 {
 obtain⟨v,hv,rfl⟩:=qV.1 hp;have hv:=List.mem_range.1 hv;obtain⟨a1,a2,a3,a4,a5,a6,a7,a8⟩:=h1 (v+1) (by omega) (by omega);refine⟨⟨by omega,a3,a4,a1,a2⟩,trivial,trivial,?_,?_,?_⟩
 · rw[a5];simp[BT.nodes,wrap64]
 · rw[a8];simp[BT.nodes,tot,a7,wrap64]
 · rw[a6];simp[BT.nodes,eJ]}
 {
 rw[hfn];exact List.pairwise_map.2 (List.nodup_range.imp (fun {a b} hab=>by omega))}
 {
 rw[hfn];simp only[qV,List.mem_range];constructor
 · rintro⟨v,hv,rfl⟩;omega
 · intro h;exact⟨x-1,by omega,by omega⟩}
 {
 obtain⟨v,hv,rfl⟩:=qV.1 hp;show 0<n+1;omega}
 {
 obtain⟨v,hv,rfl⟩:=qV.1 hp;simp[BT.seq,Ch]}
 {
 have hl:∀F:Fst,(∀p∈F,p.2=0)->jE σ F v=0:=by {
 intro F hF;induction F with
 | nil=>rfl
 | cons p F ih=>{
 simp only[jE];rw[ih (fun q hq=>hF q (by simp[hq])),hF p (by simp),qC (by omega)];rfl}};rw[hl _ (fun p hp=>by obtain⟨v,_,rfl⟩:=qV.1 hp;rfl),(h1 v hv1 hv2).2.2.2.2.2.2.1];simp[wrap64]}
theorem vO(l:List Nat)(x:Nat):(l++[x]).getLast? =some x:=by simp
def bW(E:Nat->Nat->Prop)(a b:Nat):Prop:=∃p,bR E a b p
theorem aCF{E:Nat->Nat->Prop}{par:Nat->Nat}(h:∀v u,E v u↔Adj par (v+1) (u+1)):∀{a:Nat} {l:List Nat},Wk E a l↔Wk (Adj par) (a+1) (l.map (· + 1))
  | _,[]=>Iff.rfl
  | a,x::l=>by simp only[Wk,List.map_cons];rw[h,aCF h]
theorem lD{l:List Nat}:(l.map (· + 1)).Nodup↔l.Nodup:=by
 constructor
 · intro h;exact(List.pairwise_map.1 h).imp (fun {a b} hab e=>hab (by rw[e]))
 · intro h;exact List.pairwise_map.2 (h.imp (fun {a b} hab=>by omega))
theorem uS{l:List Nat}(h:∀x∈l,x≠0):(l.map (· - 1)).map (· + 1)=l:=by
 rw[List.map_map];refine(List.map_congr_left (fun x hx=>?_)).trans (List.map_id l);have:=h x hx;show x-1+1=id x
 simp;omega
theorem mY(l:List Nat):(l.map (· + 1)).map (· - 1)=l:=by
 rw[List.map_map];exact(List.map_congr_left (fun x hx=>by show x+1-1=id x;simp)).trans (List.map_id l)
theorem jZ{E:Nat->Nat->Prop}{par:Nat->Nat}(h:∀v u,E v u↔Adj par (v+1) (u+1)){v u:Nat}{p:List Nat}:bR E v u p↔bR (Adj par) (v+1) (u+1) (p.map (· + 1)):=by
 constructor
 {
 rintro⟨l,rfl,h2,h3,h4⟩;refine⟨l.map (· + 1),rfl,(aCF h).1 h2,lD.2 h3,?_⟩;rw[List.getLast?_map,h4];rfl}
 {
 rintro⟨l,h1,h2,h3,h4⟩;cases p with
 | nil=>cases h1
 | cons x p=>{
 simp only[List.map_cons,List.cons.injEq]at h1;obtain⟨e,rfl⟩:=h1;obtain rfl:x=v:=by omega
 refine⟨p,rfl,(aCF h).2 h2,lD.1 h3,?_⟩;rw[List.getLast?_map]at h4;cases hl:(x::p).getLast? with
 | none=>rw[hl]at h4;cases h4
 | some y=>rw[hl]at h4;simp at h4;rw[h4]}}
theorem oI{E:Nat->Nat->Prop}{par:Nat->Nat}(h:∀v u,E v u↔Adj par (v+1) (u+1)){v u:Nat}{q:List Nat}(hq:bR (Adj par) (v+1) (u+1) q):bR E v u (q.map (· - 1))/\(q.map (· - 1)).map (· + 1)=q:=by
 have hn:∀x∈q,x≠0:=by {
 obtain⟨l,rfl,h2,_⟩:=hq;intro x hx;rcases qB.1 hx with rfl|hx
 · omega
 · exact aIR h2 x hx};have e:=uS hn;exact⟨(jZ h).2 (by rw[e];exact hq),e⟩
def Frs(E:Nat->Nat->Prop):Prop:=∃par d rt,Rtd par d rt/\∀v u,E v u↔Adj par (v+1) (u+1)
section
variable {E:Nat->Nat->Prop} {a b c:Nat} {p q r:List Nat}
theorem Frs.symm(h:Frs E){v u:Nat}(he:E v u):E u v:=by
 obtain⟨par,d,rt,_,h2⟩:=h;exact(h2 u v).2 ((h2 v u).1 he).symm
theorem Frs.irrefl(h:Frs E)(v:Nat):¬E v v:=by
 obtain⟨par,d,rt,h1,h2⟩:=h;exact fun e=>h1.irrefl _ ((h2 v v).1 e)
theorem Frs.unique(h:Frs E)(hp:bR E a b p)(hq:bR E a b q):p=q:=by
 obtain⟨par,d,rt,h1,h2⟩:=h;have:=h1.unique (by omega) ((jZ h2).1 hp) ((jZ h2).1 hq);rw[<-mY p,this,mY]
theorem fW{par d rt:Nat->Nat}(h1:Rtd par d rt)(h2:∀v u,E v u↔Adj par (v+1) (u+1)):bW E a b↔rt (a+1)=rt (b+1):=by
 rw[<-h1.conn (by omega) (by omega)];constructor
 · rintro⟨p,hp⟩;exact⟨_,(jZ h2).1 hp⟩
 · rintro⟨p,hp⟩;exact⟨_,(oI h2 hp).1⟩
theorem zS(E:Nat->Nat->Prop)(a:Nat):bR E a a [a]:=⟨[],rfl,trivial,by simp,rfl⟩
theorem bW.refl(E:Nat->Nat->Prop)(a:Nat):bW E a a:=⟨[a],zS E a⟩
theorem Frs.csymm(h:Frs E)(hc:bW E a b):bW E b a:=by
 obtain⟨par,d,rt,h1,h2⟩:=h;exact(fW h1 h2).2 ((fW h1 h2).1 hc).symm
theorem Frs.ctrans(h:Frs E)(hc:bW E a b)(hd:bW E b c):bW E a c:=by
 obtain⟨par,d,rt,h1,h2⟩:=h;exact(fW h1 h2).2 (((fW h1 h2).1 hc).trans ((fW h1 h2).1 hd))
theorem Frs.edge(h:Frs E)(he:E a b):bR E a b [a,b]:=by
 refine⟨[b],rfl,⟨he,trivial⟩,?_,rfl⟩;have:a≠b:=by rintro rfl;exact h.irrefl a he
 simp[this]
theorem aGA{x:Nat}{l m:List Nat}:Wk E a (l++x::m)↔Wk E a (l++[x])/\Wk E x m:=by
 induction l generalizing a with
 | nil=>simp[Wk]
 | cons y l ih=>simp only[zB,Wk];rw[ih,and_assoc]
theorem bR.nd(hp:bR E a b p):p.Nodup:=by obtain⟨l,_,_,h,_⟩:=hp;exact h
theorem bR.ne(hp:bR E a b p):p≠[]:=by obtain⟨l,rfl,_⟩:=hp;simp
end
end Go.Proofs.YtjdgpcjbgjnahaaGreatDoor
namespace Go.Proofs.YtjdgpcjbgjnahaaGreatDoor
open Go.RowKit Classical
def lZ(E:Nat->Nat->Prop)(v:Nat):Prop:=∀u,u<v->¬bW E v u
noncomputable def nc(n:Nat)(E:Nat->Nat->Prop):Nat:=((List.range n).filter fun v=>decide (lZ E v)).length
theorem aIT(n:Nat)(E:Nat->Nat->Prop):nc n E<=n:=by
 unfold nc;have:=List.length_filter_le (fun v=>decide (lZ E v)) (List.range n);simpa using this
theorem aPT{E E' :Nat->Nat->Prop}(h:∀v u,E v u↔E' v u)(a b:Nat):bW E a b↔bW E' a b:=
  ⟨fun⟨p,hp⟩=>⟨p,hp.mono (fun x y=>(h x y).1)⟩,fun⟨p,hp⟩=>⟨p,hp.mono (fun x y=>(h x y).2)⟩⟩
theorem vP{E E' :Nat->Nat->Prop}(h:∀v u,E v u↔E' v u):E=E' :=funext fun v=>funext fun u=>propext (h v u)
theorem gC{P P' :Nat->Bool}{m:Nat}:∀{l:List Nat},l.Nodup->m∈l->P m=true->P' m=false->(∀x∈l,x≠m->P' x=P x)->(l.filter P').length+1=(l.filter P).length
  | y::l,hn,hm,h1,h2,h3=>by
    have hn' :=qN.1 hn;by_cases e:y=m
    · subst e
      have:l.filter P' =l.filter P:=List.filter_congr (fun x hx=>h3 x (by simp[hx]) (by rintro rfl;exact hn'.1 hx));simp[h1,h2,this]
    · have hml : m ∈ l := (qB.1 hm).resolve_left (fun h => e h.symm)
      have ih:=gC hn'.2 hml h1 h2 (fun x hx=>h3 x (by simp[hx]));have hy:=h3 y (by simp) e;cases hp:P y with
      | true=>simp[hy,hp,ih]
      | false=>simp[hy,hp,ih]
def dZ(E:Nat->Nat->Prop)(a b:Nat):Nat->Nat->Prop:=fun v u=>E v u∨(v=a/\u=b)∨(v=b/\u=a)
def iP(E:Nat->Nat->Prop)(a b:Nat):Nat->Nat->Prop:=fun v u=>E v u/\¬(v=a/\u=b)/\¬(v=b/\u=a)
section
variable {E:Nat->Nat->Prop} {a b n:Nat}
theorem dQ{v u:Nat}(h:Frs E)(he:E v u):bW E v u:=⟨_,h.edge he⟩
theorem zT(h:Frs E)(h' :Frs (dZ E a b))(x y:Nat):bW (dZ E a b) x y↔bW E x y∨(bW E x a/\bW E b y)∨(bW E x b/\bW E a y):=by
 constructor
 {
 rintro⟨p,l,rfl,hw,_,hl⟩;have key:∀{l:List Nat} {x:Nat},Wk (dZ E a b) x l->∀y∈x::l,bW E x y∨(bW E x a/\bW E b y)∨(bW E x b/\bW E a y):=by {
 intro l;induction l with
 | nil=>intro x _ y hy;simp at hy;subst hy;exact .inl (bW.refl E y)
 | cons z l ih=>{
 intro x ⟨h1,h2⟩ y hy;rcases qB.1 hy with rfl|hy
 · exact .inl (bW.refl E y)
 have hz:=ih h2 y hy;rcases h1 with h1|⟨rfl,rfl⟩|⟨rfl,rfl⟩
 {
 have hxz:=dQ h h1;rcases hz with hz|⟨hz1,hz2⟩|⟨hz1,hz2⟩
 · exact .inl (h.ctrans hxz hz)
 · exact .inr (.inl ⟨h.ctrans hxz hz1,hz2⟩)
 · exact .inr (.inr ⟨h.ctrans hxz hz1,hz2⟩)}
 {
 rcases hz with hz|⟨hz1,hz2⟩|⟨hz1,hz2⟩
 · exact .inr (.inl ⟨bW.refl E x,hz⟩)
 · exact .inr (.inl ⟨bW.refl E x,hz2⟩)
 · exact .inl hz2}
 {
 rcases hz with hz|⟨hz1,hz2⟩|⟨hz1,hz2⟩
 · exact .inr (.inr ⟨bW.refl E x,hz⟩)
 · exact .inl hz2
 · exact .inr (.inr ⟨bW.refl E x,hz2⟩)}}};exact key hw y (List.mem_of_getLast? hl)}
 {
 have hm:∀{x y},bW E x y->bW (dZ E a b) x y:=fun⟨p,hp⟩=>⟨p,hp.mono (fun _ _ e=>.inl e)⟩;have hab:bW (dZ E a b) a b:=dQ h' (.inr (.inl ⟨rfl,rfl⟩));rintro(e|⟨e1,e2⟩|⟨e1,e2⟩)
 · exact hm e
 · exact h'.ctrans (hm e1) (h'.ctrans hab (hm e2))
 · exact h'.ctrans (hm e1) (h'.ctrans (h'.csymm hab) (hm e2))}
theorem zU{P:Nat->Prop}{n:Nat}(h:P n):∃m,m<=n/\P m/\∀k,k<m->¬P k:=by
 induction n using Nat.strongRecOn with
 | _ n ih=>{
 by_cases hm:∃m,m<n/\P m
 {
 obtain⟨m,hlt,hp⟩:=hm;obtain⟨m', h1,h2,h3⟩:=ih m hlt hp;exact⟨m', by omega,h2,h3⟩}
 · exact⟨n,qJ _,h,fun k hk hp=>hm ⟨k,hk,hp⟩⟩}
theorem aIU(h:Frs E)(h' :Frs (dZ E a b))(hab:¬bW E a b)(ha:a<n)(hb:b<n):nc n (dZ E a b)+1=nc n E:=by
 obtain⟨fa,ha1,ha2,ha3⟩:=zU (P:=fun k=>bW E a k) (bW.refl E a);obtain⟨fb,hb1,hb2,hb3⟩:=zU (P:=fun k=>bW E b k) (bW.refl E b);have hne:fa≠fb:=by rintro rfl;exact hab (h.ctrans ha2 (h.csymm hb2))
 have hfa:lZ E fa:=fun k hk hc=>ha3 k hk (h.ctrans ha2 hc);have hfb:lZ E fb:=fun k hk hc=>hb3 k hk (h.ctrans hb2 hc);have key:∀{a b fa fb:Nat},fa<fb->bW E a fa->bW E b fb->lZ E fa->lZ E fb->¬bW E a b->Frs (dZ E a b)->b<n->fb<=b->(∀k,k<fa->¬bW E a k)->nc n (dZ E a b)+1=nc n E:=by {
 intro a b fa fb hlt hca hcb hfa hfb hab h' hbn hfbb hmin;have hbc:=zT (a:=a) (b:=b) h h';unfold nc;refine gC (m:=fb) List.nodup_range (List.mem_range.2 (by omega)) (qG hfb) (qF ?_) ?_
 {
 intro hf;exact hf fa hlt ((hbc fb fa).2 (.inr (.inr ⟨h.csymm hcb,hca⟩)))}
 {
 intro x _ hx;refine decide_eq_decide.2 ⟨fun hf u hu hc=>hf u hu ((hbc x u).2 (.inl hc)),fun hf u hu hc=>?_⟩;rcases(hbc x u).1 hc with e|⟨e1,e2⟩|⟨e1,e2⟩
 · exact hf u hu e
 {
 -- x is with a, u with b: then x = fa, and fb ≤ u
 have hxfa:bW E x fa:=h.ctrans e1 hca;have h1:x=fa:=by {
 rcases Nat.lt_trichotomy x fa with q|q|q
 · exact absurd (h.csymm hxfa) (hfa x q)
 · exact q
 · exact absurd hxfa (hf fa q)};have:¬u<fb:=fun q=>hfb u q (h.ctrans (h.csymm hcb) e2);omega}
 {
 have hxfb:bW E x fb:=h.ctrans e1 hcb;rcases Nat.lt_trichotomy x fb with q|q|q
 · exact absurd (h.csymm hxfb) (hfb x q)
 · exact absurd q hx
 · exact absurd hxfb (hf fb q)}}};rcases Nat.lt_or_gt_of_ne hne with q|q
 · exact key q ha2 hb2 hfa hfb hab h' hb hb1 ha3
 {
 have e:dZ E a b=dZ E b a:=vP (fun v u=>by unfold dZ;constructor<;>(rintro(e|e|e);exact .inl e;exact .inr (.inr e);exact .inr (.inl e)));rw[e];exact key q hb2 ha2 hfb hfa (fun e=>hab (h.csymm e)) (by rw[<-e];exact h') ha ha1 hb3}
theorem aMN(h:Frs E)(he:E a b):dZ (iP E a b) a b=E:=by
 refine vP (fun v u=>?_);unfold dZ iP;constructor
 {
 rintro(e|⟨rfl,rfl⟩|⟨rfl,rfl⟩)
 · exact e.1
 · exact he
 · exact h.symm he}
 {
 intro e;by_cases h1:v=a/\u=b
 · exact .inr (.inl h1)
 {
 by_cases h2:v=b/\u=a
 · exact .inr (.inr h2)
 · exact .inl ⟨e,h1,h2⟩}}
theorem aMO(h:Frs E)(he:E a b):¬bW (iP E a b) a b:=by
 rintro⟨p,hp⟩;have h1:=hp.mono (E' :=E) (fun x y e=>e.1);have h2:=h.unique h1 (h.edge he);subst h2;obtain⟨l,e,hw,_⟩:=hp;simp at e;subst e;exact hw.1.2.1 ⟨rfl,rfl⟩
theorem aPU(h:Frs E)(h' :Frs (iP E a b))(he:E a b)(ha:a<n)(hb:b<n):nc n (iP E a b)=nc n E+1:=by
 have e:=aMN h he;have:=aIU (n:=n) h' (by rw[e];exact h) (aMO h he) ha hb;rw[e]at this;exact this.symm
end
theorem aMP(n:Nat):nc n (fun _ _=>False)=n:=by
 unfold nc;rw[List.filter_eq_self.2]
 · simp
 {
 intro v _;refine qG (fun u hu ⟨p,l,e,hw,_,hl⟩=>?_);cases l with
 | nil=>subst e;simp at hl;omega
 | cons x l=>exact hw.1}
end Go.Proofs.YtjdgpcjbgjnahaaGreatDoor
