/- lct: how many trees a forest has, and how an edge changes that. -/
import Derived.Test.YtjdgpcjbgjnahaaGreatDoorH4
set_option linter.unusedSimpArgs false
set_option linter.unusedVariables false
/- lct: the way from the root of a splay tree to a node; pushing along it; the sides of its nodes. -/
namespace Go.Proofs.YtjdgpcjbgjnahaaGreatDoor
open Go.RowKit
def Way:BT->List Nat->Prop
  | .nil,_=>False
  | .node _ _ _ _,[]=>False
  | .node _ l v r,x::ps=>x=v/\(ps=[]∨Way l ps∨Way r ps)
theorem yX(t:BT)(ps:List Nat):Way t.flip ps↔Way t ps:=by
 cases t with
 | nil=>exact Iff.rfl
 | node f l v r=>cases ps<;>exact Iff.rfl
theorem aII(a:Fm){t:BT}{ps:List Nat}(h:Way t ps):Way (a.fill t) (a.p::ps):=by
 unfold Fm.fill;split
 · exact⟨rfl,.inr (.inr h)⟩
 · exact⟨rfl,.inr (.inl h)⟩
theorem yY:∀(c:List Fm) {t:BT} {ps:List Nat},Way t ps->Way (aQ c t) ((c.map Fm.p).reverse++ps)
  | [],_,_,h=>by simpa[aQ] using h
  | a::c,t,ps,h=>by
    have:=yY c (aII a h);simpa[aQ] using this
theorem vG(c:List Fm)(a:Fm)(t:BT):aQ (c++[a]) t=a.fill (aQ c t):=by
 induction c generalizing t with
 | nil=>rfl
 | cons b c ih=>exact ih (b.fill t)
theorem aCA{i:Nat}:∀{t:BT},i∈t.nodes->∃c f l r,t=aQ c (.node f l i r)
  | .nil,h=>by cases h
  | .node f l v r,h=>by
    simp only[BT.nodes,qE,qB]at h;rcases h with h|rfl|h
    · obtain ⟨c, f', l', r', e⟩ := aCA h
      exact⟨c++[⟨false,f,v,r⟩],f', l', r', by rw[vG,<-e];rfl⟩
    · exact⟨[],f,l,r,rfl⟩
    · obtain ⟨c, f', l', r', e⟩ := aCA h
      exact⟨c++[⟨true,f,v,l⟩],f', l', r', by rw[vG,<-e];rfl⟩
theorem aDY{σ:Tbl}:∀{c:List Fm} {t:BT} {u:Nat},Rep σ (aQ c t) u->t.root≠0->(aQ c t).nodes.Nodup->Out σ u (aQ c t).nodes ->
    (∀k x y,(t.root::c.map Fm.p)[k]? =some x->(t.root::c.map Fm.p)[k+1]? =some y->(aT σ x).2=true/\(σ x).up=y)/\(∀x,(t.root::c.map Fm.p)[c.length]? =some x->(aT σ x).2=false)
  | [],t,u,h,h0,_,hO=>by
    refine⟨fun k x y _ h2=>by simp at h2,fun x hx=>?_⟩;simp at hx;subst hx;cases t with
    | nil=>exact absurd rfl h0
    | node f l v r=>
      simp only[aQ]at h hO;show(aT σ v).snd=false
      rw[sR h.1.2.1 hO (by simp[BT.nodes])]
  | a::c,t,u,h,h0,hnd,hO=>by
    have hi:=aDY (c:=c) (t:=a.fill t) (u:=u) h (by rw[iW];exact((eQ.1 h).2).1.1) hnd hO;rw[iW]at hi;obtain⟨hT,hC⟩:=eQ.1 h;obtain⟨⟨hp0,_,_,hpk,hpo⟩,hRo,_⟩:=hC;refine⟨fun k x y h1 h2=>?_,fun x hx=>?_⟩
    · cases k with
      | zero=>
        simp at h1 h2;subst h1;subst h2;have hup:(σ t.root).up=a.p:=by
          cases t with
          | nil=>exact absurd rfl h0
          | node f l v r=>exact hT.1.2.1
        refine⟨?_,hup⟩;rw[gT h0 hp0 hup hpk hpo];intro e;have hor:a.o.root≠0:=by rw[e];exact h0
        have h1:=BT.root_mem hor;have h2:=BT.root_mem h0;have:=(aY (a::c) t).nodup_iff.1 hnd;rw[qN]at this;exact this.2.2 _ h2 _ (by simp only[aS,zC,qB,qE];exact .inr (.inl h1)) e.symm
      | succ k=>exact hi.1 k x y (by simpa using h1) (by simpa using h2)
    · exact hi.2 x (by simpa using hx)
theorem iY(σ:Tbl)(k x:Nat):kS σ k x=if x=k/\k≠0 then { σ x with flip:= !(σ x).flip } else σ x:=by
 unfold kS;by_cases h:k=0
 · rw[qD h,qC (fun e=>e.2 h)]
 {
 rw[qC h];by_cases e:x=k
 · subst e;rw[aH,qD ⟨rfl,h⟩]
 · rw[aF e,qC (fun h=>e h.1)]}
theorem InR.push{N:Nat}{σ:Tbl}(h:InR N σ)(i:Nat)(hi:i<N):InR N (push σ i):=by
 have hK:∀(τ:Tbl) (k:Nat),InR N τ->InR N (kS τ k):=by {
 intro τ k hτ j hj;rw[iY];split<;>exact hτ j hj};unfold Proofs.YtjdgpcjbgjnahaaGreatDoor.push;split
 {
 refine hK _ _ (hK _ _ ?_);exact h.upd ⟨(h i hi).2.1,(h i hi).1,(h i hi).2.2.1,(h i hi).2.2.2⟩}
 · exact h
theorem Rep.flip{σ σ' :Tbl}{t:BT}{u:Nat}(h:Rep σ t u)(hnd:t.nodes.Nodup)(ho:∀x∈t.nodes,x≠t.root->σ' x=σ x)(hr:t.root≠0->σ' t.root={ σ t.root with flip:= !(σ t.root).flip }):Rep σ' t.flip u:=by
 cases t with
 | nil=>trivial
 | node f l v r=>{
 obtain⟨h1,hl,hrr,h2,h3,h4⟩:=h;have hv:σ' v={ σ v with flip:= !(σ v).flip }:=hr h1.1;simp only[BT.nodes,qN,qO]at hnd;have hnl:∀x∈l.nodes,x≠v:=fun x hx e=>hnd.2.2 x hx v (by simp) e;have hnr:∀x∈r.nodes,x≠v:=fun x hx e=>hnd.2.1.1 (e▸hx);have hlk:∀x∈(BT.node f l v r).nodes,(σ' x).light=(σ x).light/\(σ' x).key=(σ x).key:=by {
 intro x hx;by_cases e:x=v
 · subst e;rw[hv];exact⟨rfl,rfl⟩
 · rw[ho x hx e];exact⟨rfl,rfl⟩};refine⟨by rw[hv];exact⟨h1.1,h1.2.1,by rw[h1.2.2.1],h1.2.2.2⟩,hl.congr (fun x hx=>ho x (by simp[BT.nodes,hx]) (hnl x hx)),hrr.congr (fun x hx=>ho x (by simp[BT.nodes,hx]) (hnr x hx)),by rw[hv];exact h2,?_,?_⟩
 · rw[hv];show _=wrap64 (tot σ' (BT.node f l v r).nodes);rw[bP (fun x hx=>(hlk x hx).1)];exact h3
 · rw[hv];exact cZ (σ:=σ) (fun x hx=>(hlk x hx).2) h4}
def BT.pushed:BT->BT
  | .nil=>.nil
  | .node f l v r=>if f then .node false r.flip v l.flip else .node false l v r
theorem sT(t:BT):t.pushed.seq=t.seq:=by
 cases t with
 | nil=>rfl
 | node f l v r=>cases f<;>simp[BT.pushed,BT.seq,BT.seq_flip]
theorem kV(t:BT):t.pushed.nodes.Perm t.nodes:=by
 cases t with
 | nil=>exact .nil
 | node f l v r=>{
 cases f with
 | false=>exact .refl _
 | true=>{
 simp only[BT.pushed,if_true,BT.nodes,BT.nodes_flip];exact List.perm_middle.trans (((List.perm_append_comm).cons v).trans List.perm_middle.symm)}}
theorem yZ(t:BT):t.pushed.root=t.root:=by
 cases t with
 | nil=>rfl
 | node f l v r=>cases f<;>rfl
theorem zL{σ:Tbl}{c:List Fm}{f:Bool}{l r:BT}{v u:Nat}(h:Rep σ (aQ c (.node f l v r)) u)(hnd:(aQ c (.node f l v r)).nodes.Nodup):
    Rep (push σ v) (aQ c (BT.node f l v r).pushed) u/\cE σ (push σ v) (aQ c (.node f l v r)).nodes:=by
 have hpm:=aY c (.node f l v r);have hnd' :=hpm.nodup_iff.1 hnd;have hmem:∀x,x∈(aQ c (.node f l v r)).nodes↔x∈(BT.node f l v r).nodes++aS c:=fun x=>hpm.mem_iff;obtain⟨hT,hC⟩:=eQ.1 h;obtain⟨⟨hv0,hvu,hvf,hk0,hk1⟩,hl,hr,hs,ht,hb⟩:=id hT;simp only[BT.nodes,qN,qO,qE,qB,List.append_assoc]at hnd' hmem;cases f with
 | false=>{
 have e:push σ v=σ:=by unfold push;rw[qC (by simp[hvf])]
 rw[e];exact⟨h,fun _ _=>rfl,fun _=>⟨rfl,rfl⟩⟩}
 | true=>{
 have dvl:v∉l.nodes:=by grind
 have dvr:v∉r.nodes:=by grind
 have dlr:∀x∈l.nodes,x∉r.nodes:=by grind
 have ndl:l.nodes.Nodup:=by grind
 have ndr:r.nodes.Nodup:=by grind
 have dvc:v∉aS c:=by grind
 have dlc:∀x∈l.nodes,x∉aS c:=by grind
 have drc:∀x∈r.nodes,x∉aS c:=by grind
 have hlv:l.root≠v:=fun e=>dvl (e▸BT.root_mem (by rw[e];exact hv0));have hrv:r.root≠v:=fun e=>dvr (e▸BT.root_mem (by rw[e];exact hv0));have hx:∀x,push σ v x=if x=v then { σ v with flip:=false,k0:=r.root,k1:=l.root } else if (x=l.root∨x=r.root)/\x≠0 then { σ x with flip:= !(σ x).flip } else σ x:=by {
 intro x;unfold push;rw[qD hvf];show kS (kS (kB σ v) (σ v).k1) (σ v).k0 x=_
 rw[hk0,hk1,iY];by_cases e:x=v
 {
 subst e;rw[qC (fun h=>hlv h.1.symm),iY,qC (fun h=>hrv h.1.symm),qD rfl];simp only[kB,aH,hk0,hk1]}
 {
 rw[qC e];have e0:kB σ v x=σ x:=by simp only[kB,aF e]
 by_cases e1:x=l.root
 {
 by_cases e2:x=0
 {
 have hl0:l.root=0:=e1.symm.trans e2;rw[qC (by simp[hl0]),iY,qC (by rintro⟨h1,h2⟩;exact h2 (h1.symm.trans e2)),qC (by simp[e2]),e0]}
 {
 rw[qD ⟨e1,fun h=>e2 (e1.trans h)⟩,qD ⟨.inl e1,e2⟩];have:kS (kB σ v) r.root x=σ x:=by rw[iY,qC (by rintro⟨h1,h2⟩;exact dlr x (e1▸BT.root_mem (fun h0=>e2 (e1.trans h0))) (h1▸BT.root_mem h2)),e0]
 rw[this]}}
 {
 rw[qC (fun h=>e1 h.1),iY];by_cases e2:x=r.root
 {
 by_cases e3:x=0
 · rw[qC (fun h=>h.2 (e2.symm.trans e3)),qC (fun h=>h.2 e3),e0]
 · rw[qD ⟨e2,fun h=>e3 (e2.trans h)⟩,qD ⟨.inr e2,e3⟩,e0]}
 · rw[qC (fun h=>e2 h.1),qC (fun h=>h.1.elim e1 e2),e0]}}};have hlk:∀x,(push σ v x).light=(σ x).light/\(push σ v x).key=(σ x).key:=by {
 intro x;rw[hx];split
 · rename_i e;subst e;exact⟨rfl,rfl⟩
 · split<;>exact⟨rfl,rfl⟩};have hoth:∀x,x≠v->x∉l.nodes->x∉r.nodes->push σ v x=σ x:=by {
 intro x e1 e2 e3;rw[hx,qC e1,qC];rintro⟨e|e,h0⟩
 · exact e2 (e▸BT.root_mem (fun h=>h0 (e.trans h)))
 · exact e3 (e▸BT.root_mem (fun h=>h0 (e.trans h)))};have hvv:push σ v v={ σ v with flip:=false,k0:=r.root,k1:=l.root }:=by rw[hx,qD rfl]
 have hpp:=kV (.node true l v r);refine⟨eQ.2 ⟨?_,?_⟩,fun x hxn=>?_,hlk⟩
 {
 simp only[BT.pushed,if_true];have hll:Rep (push σ v) l.flip v:=hl.flip ndl (fun x hxn hne=>by
     rw[hx,qC (by rintro rfl;exact dvl hxn),qC];rintro⟨e|e,h0⟩
     · exact hne e
     · exact dlr x hxn (e▸BT.root_mem (fun h=>h0 (e.trans h)))) (fun h0=>by rw[hx,qC hlv,qD ⟨.inl rfl,h0⟩])
 have hrr:Rep (push σ v) r.flip v:=hr.flip ndr (fun x hxn hne=>by
     rw[hx,qC (by rintro rfl;exact dvr hxn),qC];rintro⟨e|e,h0⟩
     · exact dlr x (e▸BT.root_mem (fun h=>h0 (e.trans h))) hxn
     · exact hne e) (fun h0=>by rw[hx,qC hrv,qD ⟨.inr rfl,h0⟩])
 refine⟨⟨hv0,by rw[hvv];exact hvu,by rw[hvv],by rw[hvv,BT.root_flip],by rw[hvv,BT.root_flip]⟩,hrr,hll,?_,?_,?_⟩
 · rw[hvv];show(σ v).size=_;rw[hs];exact congrArg (fun n:Nat=>wrap64 n) hpp.length_eq.symm
 · rw[hvv];show(σ v).total=_;rw[bP (fun x _=>(hlk x).1),ht];exact congrArg wrap64 (kU hpp.symm)
 · rw[hvv];exact cZ (fun x _=>(hlk x).2) (iU hpp.symm hb)}
 {
 rw[yZ];refine nB.perm hpp.symm (hC.congr (fun y hy=>hoth y (fun e=>dvc (e▸hy)) (fun h=>dlc y h hy) (fun h=>drc y h hy)) (fun y _=>hlk y))}
 {
 have hx' :¬(x∈l.nodes∨x=v∨x∈r.nodes∨x∈aS c):=fun h=>hxn ((hmem x).2 (by grind));simp only[not_or]at hx';exact hoth x hx'.2.1 hx'.1 hx'.2.2.1}}
def pushAll(σ:Tbl)(ps:List Nat):Tbl:=ps.foldl push σ
theorem cE.trans{σ τ υ:Tbl}{ns:List Nat}(h:cE σ τ ns)(k:cE τ υ ns):cE σ υ ns:=
  ⟨fun x hx=>(k.other x hx).trans (h.other x hx),fun x=>⟨(k.lk x).1.trans (h.lk x).1,(k.lk x).2.trans (h.lk x).2⟩⟩
theorem cE.perm{σ τ:Tbl}{ns ms:List Nat}(h:cE σ τ ns)(hm:∀x,x∈ns↔x∈ms):cE σ τ ms:=⟨fun x hx=>h.other x (fun e=>hx ((hm x).1 e)),h.lk⟩
theorem pW{σ:Tbl}:∀{ps:List Nat} {c:List Fm} {t:BT} {u i:Nat},Rep σ (aQ c t) u->(aQ c t).nodes.Nodup->(∀a∈c,a.f=false)->Way t (ps++[i]) ->
    ∃c' l r,Rep (pushAll σ (ps++[i])) (aQ c' (.node false l i r)) u/\(∀a∈c', a.f=false)/\(aQ c' (.node false l i r)).seq=(aQ c t).seq/\(aQ c' (.node false l i r)).nodes.Perm (aQ c t).nodes /\
      cE σ (pushAll σ (ps++[i])) (aQ c t).nodes
  | [],c,.nil,u,i,_,_,_,hw=>hw.elim
  | [],c,.node f l v r,u,i,h,hnd,hc,hw=>by
    obtain⟨rfl,_⟩:i=v/\_:=hw;obtain⟨h1,h2⟩:=zL h hnd;have e:∃l' r', (BT.node f l i r).pushed=.node false l' i r' :=by cases f<;>exact⟨_,_,rfl⟩
    obtain⟨l', r', e⟩:=e;refine⟨c,l', r', by rw[<-e];exact h1,hc,by rw[<-e];exact iX c (sT _),?_,h2⟩;rw[<-e];exact(aY c _).trans (((kV (.node f l i r)).append_right _).trans (aY c _).symm)
  | p::ps,c,.nil,u,i,_,_,_,hw=>hw.elim
  | p::ps,c,.node f l v r,u,i,h,hnd,hc,hw=>by
    obtain⟨rfl,hw⟩:p=v/\_:=hw;obtain⟨h1,h2⟩:=zL h hnd;have hw:Way l (ps++[i])∨Way r (ps++[i]):=hw.elim (fun e=>by simp at e) id;have e:∃l' r', (BT.node f l p r).pushed=.node false l' p r' /\ (Way l' (ps++[i])∨Way r' (ps++[i])):=by
      cases f with
      | false=>exact⟨_,_,rfl,hw⟩
      | true=>exact⟨_,_,rfl,hw.symm.imp (yX _ _).2 (yX _ _).2⟩
    obtain⟨l', r', e,hw'⟩:=e;have hperm:(aQ c (.node false l' p r')).nodes.Perm (aQ c (.node f l p r)).nodes:=by
      rw[<-e];exact(aY c _).trans (((kV (.node f l p r)).append_right _).trans (aY c _).symm)
    have hseq:(aQ c (.node false l' p r')).seq=(aQ c (.node f l p r)).seq:=by rw[<-e];exact iX c (sT _)
    rw[e]at h1
    have step:∀(a:Fm) (t' :BT),a.fill t' =.node false l' p r' -> a.f=false->Way t' (ps++[i]) ->
        ∃c' l r,Rep (pushAll (push σ p) (ps++[i])) (aQ c' (.node false l i r)) u/\(∀a∈c', a.f=false)/\(aQ c' (.node false l i r)).seq=(aQ c (.node false l' p r')).seq/\(aQ c' (.node false l i r)).nodes.Perm (aQ c (.node false l' p r')).nodes /\
          cE (push σ p) (pushAll (push σ p) (ps++[i])) (aQ c (.node false l' p r')).nodes:=by
      intro a t' ha haf hwt
      have := pW (σ := push σ p) (ps := ps) (c := a :: c) (t := t') (u := u) (i := i) (by simp only [aQ]; rw [ha]; exact h1) (by simp only [aQ]; rw [ha]; exact hperm.nodup_iff.2 hnd)
        (fun b hb=>(qB.1 hb).elim (fun e=>by rw[e];exact haf) (hc b)) hwt
      simp only[aQ]at this;rw[ha]at this;exact this
    have fin:∃c' l r,Rep (pushAll (push σ p) (ps++[i])) (aQ c' (.node false l i r)) u/\(∀a∈c', a.f=false)/\(aQ c' (.node false l i r)).seq=(aQ c (.node false l' p r')).seq/\(aQ c' (.node false l i r)).nodes.Perm (aQ c (.node false l' p r')).nodes /\
          cE (push σ p) (pushAll (push σ p) (ps++[i])) (aQ c (.node false l' p r')).nodes:=by
      rcases hw' with hw' | hw'
      · exact step ⟨false,false,p,r'⟩ l' rfl rfl hw'
      · exact step ⟨true,false,p,l'⟩ r' rfl rfl hw'
    obtain⟨c', l2,r2,a1,a2,a3,a4,a5⟩:=fin;refine⟨c', l2,r2,a1,a2,a3.trans hseq,a4.trans hperm,?_⟩;exact h2.trans (a5.perm (fun x=>hperm.mem_iff))
theorem Out.congr{σ τ:Tbl}{u:Nat}{ns ms:List Nat}(h:Out σ u ns)(hr:cE σ τ ms)(hm:∀x,x∈ns↔x∈ms):Out τ u ns:=by
 rcases h with h|⟨h1,h2,h3⟩
 · exact .inl h
 {
 right
 rw[hr.other u (fun e=>h1 ((hm u).2 e))];exact⟨h1,h2,h3⟩}
theorem Out.perm{σ:Tbl}{u:Nat}{ns ms:List Nat}(h:Out σ u ns)(hm:∀x,x∈ns↔x∈ms):Out σ u ms:=by
 rcases h with h|⟨h1,h2,h3⟩
 · exact .inl h
 · exact .inr ⟨fun e=>h1 ((hm _).2 e),fun e=>h2 ((hm _).2 e),fun e=>h3 ((hm _).2 e)⟩
theorem sU{σ:Tbl}{a:Fm}{c:List Fm}{t:BT}{u:Nat}(h:Rep σ (aQ (a::c) t) u)(h0:t.root≠0)(hnd:(aQ (a::c) t).nodes.Nodup):aT σ t.root=(sd a.s,true)/\(σ t.root).up=a.p:=by
 obtain⟨hT,hC⟩:=eQ.1 h;obtain⟨⟨hp0,_,_,hpk,hpo⟩,hRo,_⟩:=hC;have hup:(σ t.root).up=a.p:=by {
 cases t with
 | nil=>exact absurd rfl h0
 | node f l v r=>exact hT.1.2.1};refine⟨?_,hup⟩;refine gT h0 hp0 hup hpk hpo ?_;intro e;have hor:a.o.root≠0:=by rw[e];exact h0
 have h1:=BT.root_mem hor;have h2:=BT.root_mem h0;have:=(aY (a::c) t).nodup_iff.1 hnd;rw[qN]at this;exact this.2.2 _ h2 _ (by simp only[aS,zC,qB,qE];exact .inr (.inl h1)) e.symm
theorem InR.rotate{N:Nat}{σ:Tbl}(h:InR N σ){i:Nat}(hi:i<N)(q0:(cV σ i (σ i).up).k0≠(σ i).up)(q1:(cV σ i (σ i).up).k1≠(σ i).up)(q2:(cV σ i i).k0≠i)(q3:(cV σ i i).k1≠i):InR N (rotate σ i):=by
 have hp:=(h i hi).2.2.1;have hR1:=h.rot1 hi;have hR2:InR N (uE σ i):=hR1.hang hp (hR1.kid hi _);have hR3:InR N (cV σ i):=hR2.hang hi hp;unfold Proofs.YtjdgpcjbgjnahaaGreatDoor.rotate;exact(hR3.refresh hp q0 q1).refresh hi (by rw[aG.1];exact q2) (by rw[aG.2.1];exact q3)
def aPL(σ:Tbl)(i:Nat):Prop:=(cV σ i (σ i).up).k0≠(σ i).up/\(cV σ i (σ i).up).k1≠(σ i).up/\(cV σ i i).k0≠i/\(cV σ i i).k1≠i
structure rJ (N:Nat) (σ τ:Tbl) (u i:Nat) (t₀:BT) (c:List Fm) (l r:BT):Prop where
  rep:Rep τ (aQ c (.node false l i r)) u
  ff:∀a∈c,a.f=false
  seq:(aQ c (.node false l i r)).seq=t₀.seq
  perm:(aQ c (.node false l i r)).nodes.Perm t₀.nodes
  rot:cE σ τ t₀.nodes
  inR:InR N τ
section
variable {N:Nat} {σ τ:Tbl} {u i:Nat} {t₀:BT} {a b:Fm} {c:List Fm} {l r:BT}
theorem rJ.nd(h:rJ N σ τ u i t₀ c l r)(hnd:t₀.nodes.Nodup):(aQ c (.node false l i r)).nodes.Nodup:=h.perm.nodup_iff.2 hnd
theorem rJ.out(h:rJ N σ τ u i t₀ c l r)(hO:Out σ u t₀.nodes):Out τ u (aQ c (.node false l i r)).nodes:=
  (hO.congr h.rot (fun _=>Iff.rfl)).perm (fun _=>h.perm.mem_iff.symm)
theorem rJ.zig(h:rJ N σ τ u i t₀ (a::c) l r)(hnd:t₀.nodes.Nodup)(hO:Out σ u t₀.nodes)(hi:i<N):aPL τ i/\∃l' r', rJ N σ (rotate τ i) u i t₀ c l' r' :=by
 obtain⟨h1,h2,h3⟩:=nC h.rep (h.ff a (by simp)) (h.nd hnd) (h.out hO);obtain⟨l', r', e⟩:∃l' r', uF a l i r=.node false l' i r' :=by unfold uF;split<;>exact⟨_,_,rfl⟩
 have hn:(aQ c (.node false l' i r')).nodes.Perm (aQ (a::c) (.node false l i r)).nodes:=by {
 rw[<-e];simp only[aQ];refine(aY c _).trans (.trans ?_ (aY c _).symm);rw[sS]};refine⟨h3,l', r', by rw[<-e];exact h1,fun b hb=>h.ff b (by simp[hb]),?_,hn.trans h.perm,?_,h.inR.rotate hi h3.1 h3.2.1 h3.2.2.1 h3.2.2.2⟩
 · rw[<-h.seq,<-e];simp only[aQ];exact iX c (aIH a (h.ff a (by simp)) l i r)
 · exact h.rot.trans (h2.perm (fun _=>h.perm.mem_iff))
theorem rJ.zigp(h:rJ N σ τ u i t₀ (a::b::c) l r)(hs:a.s=b.s)(hnd:t₀.nodes.Nodup)(hO:Out σ u t₀.nodes)(hp:a.p<N):aPL τ a.p/\∃a', rJ N σ (rotate τ a.p) u i t₀ (a' :: c) l r:=by
 have hrep:=h.rep;have hnd' :=h.nd hnd;have hO' :=h.out hO;have haf:=h.ff a (by simp);have hbf:=h.ff b (by simp);have hperm:=h.perm;have hseq:=h.seq;obtain⟨s,f,p,o⟩:=a;obtain⟨s', f', p', o'⟩:=b;dsimp only at haf hbf hs hp ⊢
 subst haf;subst hbf;subst hs;have ff:∀x∈c,x.f=false:=fun x hx=>h.ff x (by simp[hx]);cases s with
 | false=>{
 have key:=nC (σ:=τ) (a:=⟨false,false,p', o'⟩) (c:=c) (l:=.node false l i r) (i:=p) (r:=o) (u:=u) hrep rfl hnd' hO';obtain⟨h1,h2,h3⟩:=key;refine⟨h3,⟨false,false,p,.node false o p' o'⟩,h1,?_,?_,?_,h.rot.trans (h2.perm (fun _=>hperm.mem_iff)),h.inR.rotate hp h3.1 h3.2.1 h3.2.2.1 h3.2.2.2⟩
 · intro x hx;rcases qB.1 hx with rfl|hx;exact rfl;exact ff x hx
 · rw[<-hseq];simp only[aQ];exact iX c (by simp[Fm.fill,BT.seq])
 {
 refine .trans ?_ hperm;simp only[aQ];refine(aY c _).trans (.trans (.append_right _ ?_) (aY c _).symm);simp[Fm.fill,BT.nodes]}}
 | true=>{
 have key:=nC (σ:=τ) (a:=⟨true,false,p', o'⟩) (c:=c) (l:=o) (i:=p) (r:=.node false l i r) (u:=u) hrep rfl hnd' hO';obtain⟨h1,h2,h3⟩:=key;refine⟨h3,⟨true,false,p,.node false o' p' o⟩,h1,?_,?_,?_,h.rot.trans (h2.perm (fun _=>hperm.mem_iff)),h.inR.rotate hp h3.1 h3.2.1 h3.2.2.1 h3.2.2.2⟩
 · intro x hx;rcases qB.1 hx with rfl|hx;exact rfl;exact ff x hx
 · rw[<-hseq];simp only[aQ];exact iX c (by simp[Fm.fill,BT.seq])
 {
 refine .trans ?_ hperm;simp only[aQ];refine(aY c _).trans (.trans (.append_right _ ?_) (aY c _).symm);simp[Fm.fill,BT.nodes]}}
end
def Ch(par:Nat->Nat):Nat->List Nat->Prop
  | _,[]=>True
  | u,x::l=>par x=u/\Ch par x l
theorem fX{par:Nat->Nat}:∀{u:Nat} {l:List Nat} {j:Nat} {r:List Nat},Ch par u (l++j::r)↔Ch par u (l++[j])/\Ch par j r
  | u,[],j,r=>by simp[Ch]
  | u,x::l,j,r=>by simp only[zC,Ch];rw[fX,and_assoc]
theorem gI{par par' :Nat->Nat}:∀{u:Nat} {l:List Nat},(∀x∈l,par' x=par x)->Ch par u l->Ch par' u l
  | _,[],_,_=>trivial
  | u,x::l,h,⟨h1,h2⟩=>⟨(h x (by simp)).trans h1,gI (fun y hy=>h y (by simp[hy])) h2⟩
theorem aIJ{par rt:Nat->Nat}(h1:∀x,par x≠0->rt x=rt (par x)):∀{u:Nat} {l:List Nat},Ch par u l->(∀x∈l,x≠0)->u≠0->∀x∈l,rt x=rt u
  | u,y::l,⟨e,hc⟩,hn,hu,x,hx=>by
    have hy:rt y=rt u:=by rw[h1 y (by rw[e];exact hu),e]
    rcases qB.1 hx with rfl|hx
    · exact hy
    · rw[aIJ h1 hc (fun z hz=>hn z (by simp[hz])) (hn y (by simp)) x hx,hy]
theorem dA{par rt:Nat->Nat}(h0:∀x,par x=0->rt x=x)(h1:∀x,par x≠0->rt x=rt (par x)){y:Nat}{l:List Nat}(h:Ch par 0 (y::l))(hn:∀x∈y::l,x≠0):∀x∈y::l,rt x=y:=by
 intro x hx;have hy:rt y=y:=h0 y h.1;rcases qB.1 hx with rfl|hx
 · exact hy
 · rw[aIJ h1 h.2 (fun z hz=>hn z (by simp[hz])) (hn y (by simp)) x hx,hy]
theorem aCB{par d:Nat->Nat}(h1:∀x,par x≠0->d (par x)<d x):∀{u:Nat} {l:List Nat},Ch par u l->(∀x∈l,x≠0)->u≠0->∀x∈l,d u<d x
  | u,y::l,⟨e,hc⟩,hn,hu,x,hx=>by
    have hy:d u<d y:=by have:=h1 y (by rw[e];exact hu);rwa[e]at this
    rcases qB.1 hx with rfl|hx
    · exact hy
    · exact Nat.lt_trans hy (aCB h1 hc (fun z hz=>hn z (by simp[hz])) (hn y (by simp)) x hx)
abbrev Fst:=List (BT×Nat)
def bU(F:Fst):List Nat:=F.flatMap fun p=>p.1.nodes
def iZ(σ:Tbl):Fst->Nat->Int
  | [],_=>0
  | p::F,v=>(if p.2=v then tot σ p.1.nodes else 0)+iZ σ F v
theorem aP(p:BT×Nat)(F:Fst):bU (p::F)=p.1.nodes++bU F:=by simp[bU]
theorem bE{x:Nat}{F:Fst}:x∈bU F↔∃p∈F,x∈p.1.nodes:=by simp[bU]
theorem pX{F G:Fst}(h:F.Perm G):(bU F).Perm (bU G):=h.flatMap_right _
theorem aFV{σ:Tbl}{F G:Fst}(h:F.Perm G)(v:Nat):iZ σ F v=iZ σ G v:=by
 induction h with
 | nil=>rfl
 | cons p _ ih=>simp[iZ,ih]
 | swap p q F=>simp only[iZ];omega
 | trans _ _ h1 h2=>exact h1.trans h2
theorem eY{σ σ' :Tbl}:∀{F:Fst} {v:Nat},(∀x∈bU F,(σ' x).light=(σ x).light)->iZ σ' F v=iZ σ F v
  | [],_,_=>rfl
  | p::F,v,h=>by
    rw[aP]at h;simp only[iZ];rw[bP (fun x hx=>h x (by simp[hx])),eY (fun x hx=>h x (by simp[hx]))]
structure LF (N:Nat) (σ:Tbl) (F:Fst) (par d rt:Nat->Nat):Prop where
  rep:∀p∈F,Rep σ p.1 p.2
  nd:(bU F).Nodup
  mem:∀x,x∈bU F↔0<x/\x<N
  up:∀p∈F,p.2<N
  ch:∀p∈F,Ch par p.2 p.1.seq
  dep:∀x,par x≠0->d (par x)<d x
  none:∀x,¬(0<x/\x<N)->par x=0
  rt0:∀x,par x=0->rt x=x
  rt1:∀x,par x≠0->rt x=rt (par x)
  light:∀v,0<v->v<N->(σ v).light=wrap64 (iZ σ F v)
  zero:(σ 0).total=0/\(σ 0).k0=0/\(σ 0).k1=0/\(σ 0).up=0/\(σ 0).first=0
  pos:0<N
section
variable {N:Nat} {σ σ' :Tbl} {F G R:Fst} {par d rt:Nat->Nat} {t t' :BT} {u:Nat}
theorem LF.perm(h:LF N σ F par d rt)(hp:F.Perm G):LF N σ G par d rt:=
  ⟨fun p hp' =>h.rep p (hp.mem_iff.2 hp'),(pX hp).nodup_iff.1 h.nd,fun x=>(pX hp).mem_iff.symm.trans (h.mem x),fun p hp' =>h.up p (hp.mem_iff.2 hp'),fun p hp' =>h.ch p (hp.mem_iff.2 hp'),h.dep,h.none,h.rt0,h.rt1,
    fun v h1 h2=>by rw[<-aFV hp];exact h.light v h1 h2,h.zero,h.pos⟩
theorem eB{p:BT×Nat}(h:p∈F):∃R,F.Perm (p::R):=by
 obtain⟨A,B,rfl⟩:=List.append_of_mem h;exact⟨A++B,List.perm_middle⟩
theorem Rep.kids{x:Nat}:∀{t:BT} {u:Nat},Rep σ t u->x∈t.nodes->((σ x).k0=0∨(σ x).k0∈t.nodes)/\((σ x).k1=0∨(σ x).k1∈t.nodes)/\(x=t.root∨((σ x).up∈t.nodes))/\(x=t.root->(σ x).up=u)/\(σ x).first∈t.nodes
  | .nil,_,_,hx=>by cases hx
  | .node f l v r,u,⟨h1,hl,hr,_,_,hb⟩,hx=>by
    have hroot:∀t:BT,t.root=0∨t.root∈t.nodes:=fun t=>by
      by_cases e:t.root=0
      · exact .inl e
      · exact .inr (BT.root_mem e)
    simp only[BT.nodes,qE,qB]at hx ⊢;by_cases e:x=v
    · subst e
      refine⟨?_,?_,.inl rfl,fun _=>h1.2.1,?_⟩
      · rw[h1.2.2.2.1];rcases hroot l with h|h;exact .inl h;exact .inr (.inl h)
      · rw[h1.2.2.2.2];rcases hroot r with h|h;exact .inl h;exact .inr (.inr (.inr h))
      · have:=hb.1;simpa[BT.nodes] using this
    · rcases hx with hx | hx | hx
      · obtain ⟨a, b, c, c', c2⟩ := Rep.kids hl hx
        refine⟨a.imp id .inl,b.imp id .inl,.inr ?_,fun h=>absurd h e,.inl c2⟩;rcases c with c|c
        · rw[c' c];exact .inr (.inl rfl)
        · exact .inl c
      · exact absurd hx e
      · obtain ⟨a, b, c, c', c2⟩ := Rep.kids hr hx
        refine⟨a.imp id (fun h=>.inr (.inr h)),b.imp id (fun h=>.inr (.inr h)),.inr ?_,fun h=>absurd h e,.inr (.inr c2)⟩;rcases c with c|c
        · rw[c' c];exact .inr (.inl rfl)
        · exact .inr (.inr c)
theorem LF.tree(h:LF N σ F par d rt){x:Nat}(h0:0<x)(hx:x<N):∃t u R,F.Perm ((t,u)::R)/\x∈t.nodes:=by
 obtain⟨p,hp,hxp⟩:=bE.1 ((h.mem x).2 ⟨h0,hx⟩);obtain⟨R,hR⟩:=eB hp;exact⟨p.1,p.2,R,hR,hxp⟩
theorem LF.inR(h:LF N σ F par d rt):InR N σ:=by
 intro x hx;by_cases h0:x=0
 {
 subst h0;have:=h.pos;rw[h.zero.2.1,h.zero.2.2.1,h.zero.2.2.2.1,h.zero.2.2.2.2];exact⟨this,this,this,this⟩}
 {
 obtain⟨t,u,R,hR,hxt⟩:=h.tree (by omega) hx;have h' :=h.perm hR;have hk:=(h'.rep (t,u) (by simp)).kids hxt;have hN:∀y,y∈t.nodes->y<N:=fun y hy=>((h'.mem y).1 (by rw[aP];simp[hy])).2;have hp:=h.pos;refine⟨hk.1.elim (fun e=>by omega) (hN _),hk.2.1.elim (fun e=>by omega) (hN _),?_,hN _ hk.2.2.2.2⟩;rcases hk.2.2.1 with e|e
 · rw[hk.2.2.2.1 e];exact h'.up (t,u) (by simp)
 · exact hN _ e}
theorem bW{t:BT}{x:Nat}:x∈t.seq↔x∈t.nodes:=(BT.seq_perm t).mem_iff
theorem LF.lt(h:LF N σ F par d rt){p:BT×Nat}(hp:p∈F){x:Nat}(hx:x∈p.1.nodes):0<x/\x<N:=(h.mem x).1 (bE.2 ⟨p,hp,hx⟩)
theorem LF.seq0(h:LF N σ F par d rt){p:BT×Nat}(hp:p∈F):∀x∈p.1.seq,x≠0:=fun x hx=>by have:=(h.lt hp (bW.1 hx)).1;omega
theorem LF.outs(h:LF N σ ((t,u)::R) par d rt):Out σ u t.nodes:=by
 by_cases hu:u=0
 · exact .inl hu
 {
 right
 have hm:(t,u)∈(t,u)::R:=by simp
 have hd:=aCB h.dep (h.ch _ hm) (h.seq0 hm) hu;have hut:u∉t.nodes:=fun e=>Nat.lt_irrefl _ (hd u (bW.2 e));have huN:=h.up _ hm;obtain⟨q,hq,hqu⟩:=bE.1 ((h.mem u).2 ⟨by omega,huN⟩);have hqR:q∈R:=by {
 rcases qB.1 hq with rfl|hq
 · exact absurd hqu hut
 · exact hq};have hk:=(h.rep q hq).kids hqu;have hnd:=h.nd;rw[aP,qN]at hnd;have hdis:∀y,y∈q.1.nodes->y∉t.nodes:=fun y hy hyt=>hnd.2.2 y hyt y (bE.2 ⟨q,hqR,hy⟩) rfl;have h0:(0:Nat)∉t.nodes:=fun e=>by have:=(h.lt hm e).1;omega
 exact⟨hut,hk.1.elim (fun e=>by rw[e];exact h0) (hdis _),hk.2.1.elim (fun e=>by rw[e];exact h0) (hdis _)⟩}
theorem LF.splay(h:LF N σ ((t,u)::R) par d rt)(hrep:Rep σ' t' u)(hseq:t'.seq=t.seq)(hperm:t'.nodes.Perm t.nodes)(hrot:cE σ σ' t.nodes):LF N σ' ((t', u)::R) par d rt:=by
 have hnd:=h.nd;rw[aP,qN]at hnd;have hfp:(bU ((t', u)::R)).Perm (bU ((t,u)::R)):=by rw[aP,aP];exact hperm.append_right _
 refine⟨fun p hp=>?_,hfp.nodup_iff.2 h.nd,fun x=>hfp.mem_iff.trans (h.mem x),fun p hp=>?_,fun p hp=>?_,h.dep,h.none,h.rt0,h.rt1,fun v h1 h2=>?_,?_,h.pos⟩
 {
 rcases qB.1 hp with rfl|hp
 · exact hrep
 · exact(h.rep p (by simp[hp])).congr (fun x hx=>hrot.other x (fun e=>hnd.2.2 x e x (bE.2 ⟨p,hp,hx⟩) rfl))}
 {
 rcases qB.1 hp with rfl|hp
 · exact h.up (t,u) (by simp)
 · exact h.up p (by simp[hp])}
 {
 rcases qB.1 hp with rfl|hp
 · show Ch par u t'.seq;rw[hseq];exact h.ch (t,u) (by simp)
 · exact h.ch p (by simp[hp])}
 {
 rw[(hrot.lk v).1,h.light v h1 h2];congr 1
 rw[eY (fun x _=>(hrot.lk x).1)];simp only[iZ];rw[kU hperm]}
 · rw[hrot.other 0 (fun e=>by have:=(h.lt (p:=(t,u)) (by simp) e).1;omega)];exact h.zero
theorem nD(hz:(σ 0).total=0)(h:Rep σ t u):(σ t.root).total=wrap64 (tot σ t.nodes):=by
 cases t with
 | nil=>show(σ 0).total=_;rw[hz];simp[BT.nodes,tot,wrap64]
 | node f l v r=>exact h.2.2.2.2.1
end
def aIK(σ:Tbl)(j B:Nat):Tbl:=σ.upd j { σ j with light:=wrap64 ((σ j).light+wrap64 ((σ (σ j).k1).total-(σ B).total)) }
def mG(σ:Tbl)(j B:Nat):Tbl:=(aIK σ j B).upd j { aIK σ j B j with k1:=B }
def xstep(σ:Tbl)(j B:Nat):Tbl:=refresh (mG σ j B) j
theorem sV{σ:Tbl}{j B x:Nat}(h:x≠j):mG σ j B x=σ x:=by unfold mG aIK;rw[aF h,aF h]
theorem gU(σ:Tbl)(j B:Nat):mG σ j B j={ σ j with light:=wrap64 ((σ j).light+wrap64 ((σ (σ j).k1).total-(σ B).total)),k1:=B }:=by unfold mG aIK;rw[aH,aH]
section
variable {N:Nat} {σ:Tbl} {R:Fst} {par d rt:Nat->Nat} {l r B:BT} {j u:Nat}
theorem LF.xstep(h:LF N σ ((.node false l j r,u)::(B,j)::R) par d rt):
    LF N (xstep σ j B.root) ((.node false l j B,u)::(r,j)::R) par d rt/\(∀x,x≠j->xstep σ j B.root x=σ x)/\(∀x,(xstep σ j B.root x).key=(σ x).key) /\
      (σ j).k1=r.root/\(mG σ j B.root j).k0≠j/\(mG σ j B.root j).k1≠j/\InR N (mG σ j B.root):=by
 have m1:(BT.node false l j r,u)∈(BT.node false l j r,u)::(B,j)::R:=by simp
 have m2:(B,j)∈(BT.node false l j r,u)::(B,j)::R:=by simp
 obtain⟨⟨hj0,hju,hjf,hk0,hk1⟩,hl,hr,_⟩:=h.rep _ m1;have hB:Rep σ B j:=h.rep _ m2;have hnd:=h.nd;have hmem:=h.mem;simp only[aP,BT.nodes,qN,qO,qE,qB,List.append_assoc,zC]at hnd hmem;have djl:j∉l.nodes:=by grind
 have djr:j∉r.nodes:=by grind
 have djB:j∉B.nodes:=by grind
 have djR:j∉bU R:=by grind
 have hB0:∀b:BT,j∉b.nodes->b.root≠j:=fun b hb e=>hb (e▸BT.root_mem (by rw[e];exact hj0));have hjN:j<N:=(h.lt m1 (by simp[BT.nodes])).2;have htr:=nD h.zero.1 hr;have htB:=nD h.zero.1 hB;have huj:u≠j:=by {
 rintro rfl;have:=h.outs;rcases this with e|⟨e,_⟩
 · exact hj0 e
 · exact e (by simp[BT.nodes])};have hR2:InR N (mG σ j B.root):=by {
 have hi:=h.inR;intro x hx;by_cases e:x=j
 {
 subst e;rw[gU];refine⟨(hi x hx).1,?_,(hi x hx).2.2.1,(hi x hx).2.2.2⟩;by_cases e:B.root=0
 · show B.root<N;rw[e];exact h.pos
 · exact(h.lt m2 (BT.root_mem e)).2}
 · rw[sV e];exact hi x hx};have hcg:∀x,x≠j->mG σ j B.root x=σ x:=fun x hx=>sV hx;have hq0:(mG σ j B.root j).k0≠j:=by rw[gU];show(σ j).k0≠j;rw[hk0];exact hB0 l djl
 have hq1:(mG σ j B.root j).k1≠j:=by rw[gU];exact hB0 B djB
 have hoth:∀x,x≠j->Proofs.YtjdgpcjbgjnahaaGreatDoor.xstep σ j B.root x=σ x:=fun x hx=>by unfold Proofs.YtjdgpcjbgjnahaaGreatDoor.xstep;rw[cJ hx,hcg x hx]
 have hkey:∀x,(Proofs.YtjdgpcjbgjnahaaGreatDoor.xstep σ j B.root x).key=(σ x).key:=by {
 intro x;by_cases e:x=j
 · subst e;unfold Proofs.YtjdgpcjbgjnahaaGreatDoor.xstep;rw[aG.2.2.2.2.1,gU]
 · rw[hoth x e]};have hnew:Rep (Proofs.YtjdgpcjbgjnahaaGreatDoor.xstep σ j B.root) (.node false l j B) u:=
   dJ hj0 (by rw[gU];exact hju) (by rw[gU];exact hjf) (by rw[gU];exact hk0) (by rw[gU]) (hl.congr (fun x hx=>hcg x (fun e=>djl (e▸hx)))) (hB.congr (fun x hx=>hcg x (fun e=>djB (e▸hx)))) djl djB
 have hll:(Proofs.YtjdgpcjbgjnahaaGreatDoor.xstep σ j B.root j).light=wrap64 ((σ j).light+(tot σ r.nodes-tot σ B.nodes)):=by {
 unfold Proofs.YtjdgpcjbgjnahaaGreatDoor.xstep;rw[aG.2.2.2.2.2,gU];show wrap64 ((σ j).light+wrap64 ((σ (σ j).k1).total-(σ B.root).total))=_
 rw[hk1,htr,htB];unfold wrap64;omega};have hch:=h.ch _ m1;simp only[BT.seq,Bool.false_eq_true,if_false]at hch;have hchB:Ch par j B.seq:=h.ch _ m2;have hfp:(bU ((.node false l j B,u)::(r,j)::R)).Perm (bU ((.node false l j r,u)::(B,j)::R)):=by {
 simp only[aP,BT.nodes,List.append_assoc,zC];refine .append_left _ (.cons _ ?_);rw[<-List.append_assoc,<-List.append_assoc];exact List.perm_append_comm.append_right _};refine⟨⟨fun p hp=>?_,hfp.nodup_iff.2 h.nd,fun x=>hfp.mem_iff.trans (h.mem x),fun p hp=>?_,fun p hp=>?_,h.dep,h.none,h.rt0,h.rt1,fun v h1 h2=>?_,?_,h.pos⟩,hoth,hkey,hk1,hq0,hq1,hR2⟩
 {
 rcases qB.1 hp with rfl|hp
 · exact hnew
 rcases qB.1 hp with rfl|hp
 · exact hr.congr (fun x hx=>hoth x (fun e=>djr (e▸hx)))
 · exact(h.rep p (by simp[hp])).congr (fun x hx=>hoth x (fun e=>djR (e▸bE.2 ⟨p,hp,hx⟩)))}
 {
 rcases qB.1 hp with rfl|hp
 · exact h.up (BT.node false l j r,u) m1
 rcases qB.1 hp with rfl|hp
 · exact hjN
 · exact h.up p (by simp[hp])}
 {
 rcases qB.1 hp with rfl|hp
 {
 simp only[BT.seq,Bool.false_eq_true,if_false];exact fX.2 ⟨(fX.1 hch).1,hchB⟩};rcases qB.1 hp with rfl|hp
 · exact(fX.1 hch).2
 · exact h.ch p (by simp[hp])}
 {
 have e1:tot (Proofs.YtjdgpcjbgjnahaaGreatDoor.xstep σ j B.root) l.nodes=tot σ l.nodes:=bP (fun x hx=>by rw[hoth x (fun e=>djl (e▸hx))]);have e2:tot (Proofs.YtjdgpcjbgjnahaaGreatDoor.xstep σ j B.root) r.nodes=tot σ r.nodes:=bP (fun x hx=>by rw[hoth x (fun e=>djr (e▸hx))]);have e3:tot (Proofs.YtjdgpcjbgjnahaaGreatDoor.xstep σ j B.root) B.nodes=tot σ B.nodes:=bP (fun x hx=>by rw[hoth x (fun e=>djB (e▸hx))]);have e4:iZ (Proofs.YtjdgpcjbgjnahaaGreatDoor.xstep σ j B.root) R v=iZ σ R v:=eY (fun x hx=>by rw[hoth x (fun e=>djR (e▸hx))]);have tn:∀(τ:Tbl) (b:BT),tot τ (BT.node false l j b).nodes=tot τ l.nodes+(1+(τ j).light)+tot τ b.nodes:=by intro τ b;simp only[BT.nodes,tot,List.map_append,List.map_cons,List.sum_append,List.sum_cons];omega
 have hlv:=h.light v h1 h2;simp only[iZ]at hlv ⊢;rw[tn]at hlv ⊢;rw[e1,e2,e3,e4,hll];by_cases ev:v=j
 {
 subst ev;rw[hll];rw[qC huj]at hlv ⊢;rw[qD rfl]at hlv ⊢;rw[hlv];unfold wrap64;omega}
 {
 rw[hoth v ev,hlv,qC (show ¬j=v from fun e=>ev e.symm)];by_cases eu:u=v
 · rw[qD eu,qD eu,qC (show ¬j=v from fun e=>ev e.symm)];unfold wrap64;omega
 · rw[qC eu,qC eu,qC (show ¬j=v from fun e=>ev e.symm)]}}
 · rw[hoth 0 (fun e=>hj0 e.symm)];exact h.zero
end
section
variable {N:Nat} {σ:Tbl} {F R:Fst} {par d rt:Nat->Nat} {t:BT} {u:Nat}
theorem LF.same(h:LF N σ F par d rt){p:BT×Nat}(hp:p∈F):(∀x∈p.1.nodes,∀y∈p.1.nodes,rt x=rt y)/\(p.2≠0->∀x∈p.1.nodes,rt x=rt p.2):=by
 have hc:=h.ch p hp;have h0:=h.seq0 hp;have hu:p.2≠0->∀x∈p.1.nodes,rt x=rt p.2:=fun hu x hx=>aIJ h.rt1 hc h0 hu x (bW.2 hx);refine⟨fun x hx y hy=>?_,hu⟩;by_cases e:p.2=0
 {
 rw[e]at hc;have hx' :=bW.2 hx;have hy' :=bW.2 hy;generalize p.1.seq=s at *;cases s with
 | nil=>cases hx'
 | cons z s=>rw[dA h.rt0 h.rt1 hc h0 x hx', dA h.rt0 h.rt1 hc h0 y hy']}
 · rw[hu e x hx,hu e y hy]
theorem LF.addNil(h:LF N σ F par d rt){j:Nat}(hj:j<N):LF N σ ((.nil,j)::F) par d rt:=by
 have e:bU ((BT.nil,j)::F)=bU F:=by rw[aP];rfl
 refine⟨fun p hp=>?_,by rw[e];exact h.nd,fun x=>by rw[e];exact h.mem x,fun p hp=>?_,fun p hp=>?_,h.dep,h.none,h.rt0,h.rt1,fun v h1 h2=>?_,h.zero,h.pos⟩
 {
 rcases qB.1 hp with rfl|hp
 · trivial
 · exact h.rep p hp}
 {
 rcases qB.1 hp with rfl|hp
 · exact hj
 · exact h.up p hp}
 {
 rcases qB.1 hp with rfl|hp
 · trivial
 · exact h.ch p hp}
 · rw[h.light v h1 h2];simp[iZ,BT.nodes,tot]
theorem LF.disj(h:LF N σ ((t,u)::R) par d rt){p:BT×Nat}(hp:p∈R):∀x∈t.nodes,x∉p.1.nodes:=by
 have hnd:=h.nd;rw[aP,qN]at hnd;exact fun x hx hxp=>hnd.2.2 x hx x (bE.2 ⟨p,hp,hxp⟩) rfl
end
theorem aMZ{l r S:List Nat}{i:Nat}(h:l++i::r=S++[i])(hnd:(l++i::r).Nodup):r=[]/\l=S:=by
 have hi:i∉l:=fun e=>(qN.1 hnd).2.2 i e i (by simp) rfl;have hr:i∉r:=(qO.1 (qN.1 hnd).2.1).1;rcases List.eq_nil_or_concat r with rfl|⟨r', x,rfl⟩
 · exact⟨rfl,by simpa using h⟩
 {
 rw[List.concat_eq_append]at h hr;rw[<-zC,<-List.append_assoc]at h;have:=List.append_inj_right' h rfl;simp at this;exact absurd (by simp[this]) hr}
theorem nF{t:BT}(h:t.seq=[]):t=.nil:=by
 cases t with
 | nil=>rfl
 | node f l v r=>cases f<;>simp[BT.seq]at h
structure XI (N:Nat) (σ:Tbl) (F:Fst) (par d rt:Nat->Nat) (i:Nat) (τ:Tbl) (B:BT) (j:Nat) (R:Fst):Prop where
  lf:LF N τ ((B,j)::R) par d rt
  key:∀x,(τ x).key=(σ x).key
  frame:∀x,rt x≠rt i->τ x=σ x
  trees:∀p∈F,(∃x∈p.1.nodes,rt x≠rt i)->p∈R
  rtj:j≠0->rt j=rt i
  rtB:∀x∈B.nodes,rt x=rt i
  last:(B=.nil/\j=i)∨∃S,B.seq=S++[i]
  tops:j≠0->∀T,(T,0)∈F↔(T,0)∈R
  fin:j=0->∃T0 A Bq Rq,(T0,0)∈F/\T0.seq=A++B.root::Rq/\B.seq=A++B.root::Bq/\∀x∈Bq,x∉T0.nodes
section
variable {N:Nat} {σ τ τ' :Tbl} {F R R2:Fst} {par d rt:Nat->Nat} {i j u:Nat} {t B l r:BT}
theorem XI.start(h:LF N σ F par d rt)(hi:i<N)(h0:0<i):XI N σ F par d rt i σ .nil i F:=
  ⟨h.addNil hi,fun _=>rfl,fun _ _=>rfl,fun _ hp _=>hp,fun _=>rfl,fun _ hx=>(by cases hx),.inl ⟨rfl,rfl⟩,fun _ _=>Iff.rfl,fun e=>by omega⟩
theorem XI.split(h:XI N σ F par d rt i τ B j R)(hj:j≠0):∃t u R2,R.Perm ((t,u)::R2)/\j∈t.nodes:=by
 have hjN:j<N:=h.lf.up (B,j) (by simp);obtain⟨p,hp,hxp⟩:=bE.1 ((h.lf.mem j).2 ⟨by omega,hjN⟩);have hpR:p∈R:=by {
 rcases qB.1 hp with rfl|hp
 {
 rcases h.lf.outs with e|⟨e,_⟩
 · exact absurd e hj
 · exact absurd hxp e}
 · exact hp};obtain⟨R2,h2⟩:=eB hpR;exact⟨p.1,p.2,R2,h2,hxp⟩
theorem XI.lf2(h:XI N σ F par d rt i τ B j R)(hR:R.Perm ((t,u)::R2)):LF N τ ((t,u)::(B,j)::R2) par d rt:=
  h.lf.perm ((List.Perm.cons _ hR).trans (List.Perm.swap _ _ _))
theorem XI.next(h:XI N σ F par d rt i τ B j R)(hj:j≠0)(hR:R.Perm ((t,u)::R2))(hjt:j∈t.nodes)
    (hrep:Rep τ' (.node false l j r) u) (hseq:(BT.node false l j r).seq=t.seq) (hperm:(BT.node false l j r).nodes.Perm t.nodes) (hrot:cE τ τ' t.nodes):
    XI N σ F par d rt i (xstep τ' j B.root) (.node false l j B) u ((r,j)::R2)/\((τ' j).k1=r.root/\(mG τ' j B.root j).k0≠j/\(mG τ' j B.root j).k1≠j/\InR N (mG τ' j B.root))/\(u≠0->d u<d j)/\(xstep τ' j B.root j).up=u:=by
 have h2:=h.lf2 hR;have h3:=h2.splay hrep hseq hperm hrot;obtain⟨h4,hoth,hkey,hk1,hq0,hq1,hin⟩:=h3.xstep;have mt:(t,u)∈(t,u)::(B,j)::R2:=by simp
 have hst:=h2.same mt;have hrj:=h.rtj hj;have hrt:∀x∈t.nodes,rt x=rt i:=fun x hx=>(hst.1 x hx j hjt).trans hrj;have hru:u≠0->rt u=rt i:=fun hu=>(hst.2 hu j hjt).symm.trans hrj;have mB:(BT.node false l j B,u)∈(BT.node false l j B,u)::(r,j)::R2:=by simp
 refine⟨⟨h4,fun x=>(hkey x).trans ((hrot.lk x).2.trans (h.key x)),fun x hx=>?_,fun p hp hx=>?_,hru,fun x hx=>?_,.inr ?_,fun hu T=>?_,fun hu=>?_⟩,⟨hk1,hq0,hq1,hin⟩,fun hu=>?_,?_⟩
 · rw[hoth x (fun e=>hx (by rw[e];exact hrj)),hrot.other x (fun e=>hx (hrt x e)),h.frame x hx]
 {
 have h5:=hR.mem_iff.1 (h.trees p hp hx);rcases qB.1 h5 with rfl|h5
 · obtain⟨x,hx,hne⟩:=hx;exact absurd (hrt x hx) hne
 · simp[h5]}
 · exact((h4.same mB).1 x hx j (by simp[BT.nodes])).trans hrj
 {
 simp only[BT.seq,Bool.false_eq_true,if_false];rcases h.last with⟨rfl,rfl⟩|⟨S,hS⟩
 · exact⟨l.seq,rfl⟩
 · exact⟨l.seq++j::S,by rw[hS];simp⟩}
 {
 rw[h.tops hj T,hR.mem_iff];simp only[qB,zE];constructor
 {
 rintro(⟨_,e⟩|e)
 · exact absurd e.symm hu
 · exact .inr e}
 {
 rintro(⟨_,e⟩|e)
 · exact absurd e.symm hj
 · exact .inr e}}
 {
 subst hu;refine⟨t,l.seq,B.seq,r.seq,(h.tops hj t).2 (hR.mem_iff.2 (by simp)),?_,?_,fun x hx=>?_⟩
 · rw[<-hseq];simp[BT.seq,BT.root]
 · simp[BT.seq,BT.root]
 · exact fun e=>h2.disj (p:=(B,j)) (by simp) x e (bW.1 hx)}
 · exact aCB h2.dep (h2.ch _ mt) (h2.seq0 mt) hu j (bW.2 hjt)
 · exact(h4.rep _ mB).1.2.1
theorem XI.done(h:XI N σ F par d rt i τ B 0 R)(hi:i≠0):i∈B.nodes/\∃S,B.seq=S++[i]:=by
 rcases h.last with⟨_,e⟩|⟨S,hS⟩
 · exact absurd e.symm hi
 · exact⟨bW.1 (by rw[hS];simp),S,hS⟩
end
structure xD (N:Nat) (σ:Tbl) (F:Fst) (par d rt:Nat->Nat) (i m:Nat) (τ:Tbl) (l:BT) (R:Fst):Prop where
  lf:LF N τ ((.node false l i .nil,0)::R) par d rt
  key:∀x,(τ x).key=(σ x).key
  frame:∀x,rt x≠rt i->τ x=σ x
  trees:∀p∈F,(∃x∈p.1.nodes,rt x≠rt i)->p∈R
  meets:∃T0 A Bq Rq,(T0,0)∈F/\T0.seq=A++m::Rq/\l.seq++[i]=A++m::Bq/\∀x∈Bq,x∉T0.nodes
theorem XI.exposed{N:Nat}{σ τ τ' :Tbl}{F R:Fst}{par d rt:Nat->Nat}{i:Nat}{B l r:BT}(h:XI N σ F par d rt i τ B 0 R)(hi:i≠0)(hrep:Rep τ' (.node false l i r) 0)(hseq:(BT.node false l i r).seq=B.seq)(hperm:(BT.node false l i r).nodes.Perm B.nodes)(hrot:cE τ τ' B.nodes):
    xD N σ F par d rt i B.root τ' l R:=by
 have h1:=h.lf.splay hrep hseq hperm hrot;obtain⟨hiB,S,hS⟩:=h.done hi;have hnd:(l.seq++i::r.seq).Nodup:=by {
 have:=h1.nd;rw[aP,qN]at this;have h2:=(BT.seq_perm (.node false l i r)).nodup_iff.2 this.1;simpa[BT.seq] using h2};have he:l.seq++i::r.seq=S++[i]:=by {
 have:(BT.node false l i r).seq=l.seq++i::r.seq:=by simp[BT.seq]
 rw[<-this,hseq,hS]};obtain⟨hr,hl⟩:=aMZ he hnd;have hrn:=nF hr;subst hrn;refine⟨h1,fun x=>((hrot.lk x).2).trans (h.key x),fun x hx=>?_,h.trees,?_⟩
 · rw[hrot.other x (fun e=>hx (h.rtB x e)),h.frame x hx]
 {
 obtain⟨T0,A,Bq,Rq,a1,a2,a3,a4⟩:=h.fin rfl;exact⟨T0,A,Bq,Rq,a1,a2,by rw[hl,<-hS];exact a3,a4⟩}
def Adj(par:Nat->Nat)(x y:Nat):Prop:=x≠0/\y≠0/\(par x=y∨par y=x)
theorem Adj.symm{par:Nat->Nat}{x y:Nat}(h:Adj par x y):Adj par y x:=⟨h.2.1,h.1,h.2.2.symm⟩
structure Rtd (par d rt:Nat->Nat):Prop where
  dep:∀x,par x≠0->d (par x)<d x
  rt0:∀x,par x=0->rt x=x
  rt1:∀x,par x≠0->rt x=rt (par x)
theorem LF.rtd{N:Nat}{σ:Tbl}{F:Fst}{par d rt:Nat->Nat}(h:LF N σ F par d rt):Rtd par d rt:=⟨h.dep,h.rt0,h.rt1⟩
def rtF(par:Nat->Nat):Nat->Nat->Nat
  | 0,x=>x
  | k+1,x=>if par x=0 then x else rtF par k (par x)
theorem aQI{par d:Nat->Nat}(dep:∀x,par x≠0->d (par x)<d x):∀(k:Nat) (x m:Nat),d x<=k->d x<=m->rtF par k x=rtF par m x:=by
 intro k;induction k with
 | zero=>{
 intro x m hk hm;have h0:par x=0:=by apply qQ;intro h;have:=dep x h;omega
 cases m with
 | zero=>rfl
 | succ m=>simp[rtF,h0]}
 | succ k ih=>{
 intro x m hk hm;by_cases h0:par x=0
 {
 cases m with
 | zero=>simp[rtF,h0]
 | succ m=>simp[rtF,h0]}
 {
 have:=dep x h0;cases m with
 | zero=>omega
 | succ m=>simp only[rtF,qC h0];exact ih _ _ (by omega) (by omega)}}
theorem aPM{par d:Nat->Nat}(dep:∀x,par x≠0->d (par x)<d x):∃rt,Rtd par d rt:=by
 refine⟨fun x=>rtF par (d x) x,dep,fun x h=>?_,fun x h=>?_⟩
 {
 cases e:d x with
 | zero=>simp[rtF]
 | succ k=>simp[rtF,h]}
 {
 have:=dep x h;show rtF par (d x) x=rtF par (d (par x)) (par x)
 obtain⟨k,hk⟩:∃k,d x=k+1:=⟨d x-1,by omega⟩;rw[hk];simp only[rtF,qC h];exact aQI dep _ _ _ (by omega) (by omega)}
section
variable {par d rt:Nat->Nat}
theorem Rtd.root(h:Rtd par d rt):∀(k x:Nat),d x<=k->par (rt x)=0:=by
 intro k;induction k with
 | zero=>{
 intro x hk;have h0:par x=0:=by apply qQ;intro e;have:=h.dep x e;omega
 rw[h.rt0 x h0];exact h0}
 | succ k ih=>{
 intro x hk;by_cases h0:par x=0
 · rw[h.rt0 x h0];exact h0
 · rw[h.rt1 x h0];have:=h.dep x h0;exact ih _ (by omega)}
theorem Rtd.par_rt(h:Rtd par d rt)(x:Nat):par (rt x)=0:=h.root _ x (qK _)
theorem Rtd.idem(h:Rtd par d rt)(x:Nat):rt (rt x)=rt x:=h.rt0 _ (h.par_rt x)
theorem Rtd.adj(h:Rtd par d rt){x y:Nat}(ha:Adj par x y):rt x=rt y:=by
 rcases ha with⟨hx,hy,e|e⟩
 · rw[h.rt1 x (by rw[e];exact hy),e]
 · rw[h.rt1 y (by rw[e];exact hx),e]
theorem Rtd.irrefl(h:Rtd par d rt)(x:Nat):¬Adj par x x:=by
 rintro⟨hx,_,e|e⟩<;>· have:=h.dep x (by rw[e];exact hx);rw[e]at this;omega
theorem Rtd.chain(h:Rtd par d rt):∀(k x:Nat),d x<=k->x≠0->∃S,Ch par 0 (S++[x])/\(S++[x]).Nodup/\(∀y∈S++[x],y≠0)/\(∀y∈S,d y<d x):=by
 intro k;induction k with
 | zero=>{
 intro x hk hx;have h0:par x=0:=by apply qQ;intro e;have:=h.dep x e;omega
 exact⟨[],⟨h0,trivial⟩,by simp,by simpa using hx,by simp⟩}
 | succ k ih=>{
 intro x hk hx;by_cases h0:par x=0
 · exact⟨[],⟨h0,trivial⟩,by simp,by simpa using hx,by simp⟩
 {
 have hd:=h.dep x h0;obtain⟨S,h1,h2,h3,h4⟩:=ih (par x) (by omega) h0;have hlt:∀y∈S++[par x],d y<d x:=by {
 intro y hy;rcases qE.1 hy with hy|hy
 · have:=h4 y hy;omega
 · simp at hy;rw[hy];exact hd};refine⟨S++[par x],?_,?_,?_,hlt⟩
 · rw[List.append_assoc];exact fX.2 ⟨h1,rfl,trivial⟩
 {
 rw[qN];exact⟨h2,by simp,fun a ha b hb=>by simp at hb;subst hb;rintro rfl;have:=hlt a ha;omega⟩}
 {
 intro y hy;rcases qE.1 hy with hy|hy
 · exact h3 y hy
 · simp at hy;rw[hy];exact hx}}}
end
def pv:Nat->List Nat->Nat->Nat
  | _,[],_=>0
  | u,y::l,x=>if x=y then u else pv y l x
theorem aPN:∀{u:Nat} {L:List Nat},L.Nodup->Ch (pv u L) u L
  | _,[],_=>trivial
  | u,y::l,h=>by
    have hy:y∉l:=(qO.1 h).1;refine⟨by simp[pv],gI (fun x hx=>?_) (aPN (u:=y) (qO.1 h).2)⟩;simp only[pv];rw[qC (by rintro rfl;exact hy hx)]
theorem kW{par:Nat->Nat}{x:Nat}:∀{u:Nat} {L:List Nat},Ch par u L->x∈L->(∃B,L=x::B/\par x=u)∨∃A B,L=A++par x::x::B
  | u,y::l,⟨e,hc⟩,hx=>by
    rcases qB.1 hx with rfl|hx
    · exact .inl ⟨l,rfl,e⟩
    · rcases kW hc hx with ⟨B, hB, hp⟩ | ⟨A, B, hA⟩
      · exact .inr ⟨[],B,by rw[hB,hp];rfl⟩
      · exact .inr ⟨y::A,B,by rw[hA];rfl⟩
theorem aPO{par:Nat->Nat}{u x y:Nat}{A B:List Nat}(h:Ch par u (A++y::x::B)):par x=y:=(fX.1 h).2.1
theorem aIL{par d rt:Nat->Nat}(h:Rtd par d rt){S:List Nat}{i:Nat}(hn:(S++[i]).Nodup)(hz:∀x∈S++[i],x≠0)(hc:Ch par 0 (S++[i])):
    ∃par' d' rt', Rtd par' d' rt' /\ (∀x,x∉S++[i]->par' x=par x)/\Ch par' 0 (S++[i]).reverse/\(∀x y,Adj par' x y↔Adj par x y)/\(∀x y,rt' x=rt' y↔rt x=rt y)/\rt' i=i/\par' i=0:=by
 generalize hL:S++[i]=L at *;have hrev:L.reverse=i::S.reverse:=by rw[<-hL];simp
 have hiL:i∈L:=by rw[<-hL];simp
 obtain⟨par', hp'⟩:∃par' :Nat->Nat,par' =fun x=>if x∈L then pv 0 L.reverse x else par x:=⟨_,rfl⟩;have hout:∀x,x∉L->par' x=par x:=fun x hx=>by rw[hp'];simp[hx]
 have hc' :Ch par' 0 L.reverse:=gI (fun x hx=>by rw[hp'];simp only[List.mem_reverse]at hx;simp[hx]) (aPN (u:=0) (((List.reverse_perm L).nodup_iff.2 hn)));have hpi:par' i=0:=by rw[hrev]at hc'; exact hc'.1
 have turn1:∀x∈L,par x≠0->par x∈L/\par' (par x)=x:=by {
 intro x hx h0;rcases kW hc hx with⟨B,_,e⟩|⟨A,B,e⟩
 · exact absurd e h0
 {
 refine⟨by rw[e];simp,?_⟩;have e2:L.reverse=B.reverse++x::par x::A.reverse:=by rw[e];simp
 rw[e2]at hc'; exact aPO hc'}};have turn2:∀x∈L,par' x≠0->par' x∈L/\par (par' x)=x:=by {
 intro x hx h0;rcases kW hc' (List.mem_reverse.2 hx) with⟨B,_,e⟩|⟨A,B,e⟩
 · exact absurd e h0
 {
 have e2:L=B.reverse++x::par' x::A.reverse:=by have:=congrArg List.reverse e;simpa using this
 exact⟨by rw[e2];simp,by rw[e2]at hc;exact aPO hc⟩}};have hrtL:∀x∈L,rt x=rt i:=by {
 cases hL0:L with
 | nil=>rw[hL0]at hiL;cases hiL
 | cons y l=>{
 rw[hL0]at hc hz hiL;intro x hx;rw[dA h.rt0 h.rt1 hc hz x hx,dA h.rt0 h.rt1 hc hz i hiL]}};have hroot:∀x,par x=0->rt x=rt i->x∈L:=by {
 intro x hx he;cases hL0:L with
 | nil=>rw[hL0]at hiL;cases hiL
 | cons y l=>{
 rw[hL0]at hc hz hiL;have:=dA h.rt0 h.rt1 hc hz i hiL;rw[h.rt0 x hx]at he;rw[he,this];simp}};refine⟨par', fun x=>if x∈L then L.reverse.idxOf x else d x+L.length,fun x=>if rt x=rt i then i else rt x,⟨fun x h0=>?_,fun x h0=>?_,fun x h0=>?_⟩,hout,hc', ?_,?_,by simp,hpi⟩
 {
 by_cases hx:x∈L
 {
 rcases kW hc' (List.mem_reverse.2 hx) with⟨B,_,e⟩|⟨A,B,e⟩
 · exact absurd e h0
 {
 have hm:=(turn2 x hx h0).1;simp only[qD hx,qD hm];have hnr:=((List.reverse_perm L).nodup_iff.2 hn);rw[e]at hnr ⊢;generalize par' x=y at *;have n1:y∉A:=fun ha=>(qN.1 hnr).2.2 y ha y (by simp) rfl;have n2:x∉A:=fun ha=>(qN.1 hnr).2.2 x ha x (by simp) rfl;have n3:x≠y:=by {
 have:=(qO.1 (qN.1 hnr).2.1).1;rintro rfl;exact this (by simp)};have n4:¬y=x:=fun e=>n3 e.symm;rw[List.idxOf_append,qC n1,List.idxOf_append,qC n2];have n5:(y == x)=false:=qR.2 n4;simp[List.idxOf_cons,n5]}}
 {
 rw[hout x hx]at h0 ⊢;have hd:=h.dep x h0;simp only[qC hx];by_cases hm:par x∈L
 {
 simp only[qD hm];have:=List.idxOf_lt_length_of_mem (List.mem_reverse.2 hm);rw[List.length_reverse]at this;omega}
 · simp only[qC hm];omega}}
 {
 show(if rt x=rt i then i else rt x)=x
 by_cases hx:x∈L
 {
 rw[qD (hrtL x hx)];rcases kW hc' (List.mem_reverse.2 hx) with⟨B,e,_⟩|⟨A,B,e⟩
 · rw[hrev]at e;exact(List.cons.inj e).1
 {
 exfalso
 have:par' x∈L:=by rw[<-List.mem_reverse,e];simp
 exact hz _ this h0}}
 {
 rw[hout x hx]at h0;rw[qC (fun e=>hx (hroot x h0 e)),h.rt0 x h0]}}
 {
 show(if rt x=rt i then i else rt x)=if rt (par' x)=rt i then i else rt (par' x)
 by_cases hx:x∈L
 · rw[qD (hrtL x hx),qD (hrtL _ (turn2 x hx h0).1)]
 {
 rw[hout x hx]at h0 ⊢;rw[h.rt1 x h0]}}
 {
 intro x y;constructor
 {
 rintro⟨hx,hy,e⟩;refine⟨hx,hy,?_⟩;have key:∀x y,y≠0->par' x=y->par x=y∨par y=x:=by {
 intro x y hy e;by_cases hxL:x∈L
 · right;have:=(turn2 x hxL (by rw[e];exact hy)).2;rwa[e]at this
 · left;rw[<-hout x hxL];exact e};rcases e with e|e
 · exact key x y hy e
 · exact(key y x hx e).symm}
 {
 rintro⟨hx,hy,e⟩;refine⟨hx,hy,?_⟩;have key:∀x y,y≠0->par x=y->par' x=y∨par' y=x:=by {
 intro x y hy e;by_cases hxL:x∈L
 · right;have:=(turn1 x hxL (by rw[e];exact hy)).2;rwa[e]at this
 · left;rw[hout x hxL];exact e};rcases e with e|e
 · exact key x y hy e
 · exact(key y x hx e).symm}}
 {
 intro x y;show(if rt x=rt i then i else rt x)=(if rt y=rt i then i else rt y)↔_
 have hne:∀z,rt z≠rt i->i≠rt z:=by {
 rintro z hz rfl;exact hz (h.idem z).symm};by_cases h1:rt x=rt i
 {
 by_cases h2:rt y=rt i
 · rw[qD h1,qD h2,h1,h2];simp
 {
 rw[qD h1,qC h2,h1];exact⟨fun e=>absurd e (hne y h2),fun e=>absurd e.symm h2⟩}}
 {
 by_cases h2:rt y=rt i
 {
 rw[qC h1,qD h2,h2];exact⟨fun e=>absurd e.symm (hne x h1),fun e=>absurd e h1⟩}
 · rw[qC h1,qC h2]}}
section
variable {N:Nat} {σ:Tbl} {R:Fst} {par d rt:Nat->Nat} {l Ta:BT} {i a b:Nat}
theorem LF.top_seq(h:LF N σ ((.node false l i .nil,0)::R) par d rt):(l.seq++[i]).Nodup/\(∀x∈l.seq++[i],x≠0)/\Ch par 0 (l.seq++[i]):=by
 have m1:(BT.node false l i .nil,0)∈(BT.node false l i .nil,0)::R:=by simp
 have e:(BT.node false l i .nil).seq=l.seq++[i]:=by simp[BT.seq]
 have hnd:=h.nd;rw[aP,qN]at hnd;exact⟨by rw[<-e];exact(BT.seq_perm _).nodup_iff.2 hnd.1,by rw[<-e];exact h.seq0 m1,by rw[<-e];exact h.ch _ m1⟩
theorem LF.lead(h:LF N σ ((.node false l i .nil,0)::R) par d rt):∃par' d' rt', LF N (σ.upd i { σ i with flip:=true }) ((.node true l i .nil,0)::R) par' d' rt' /\ (∀x y,Adj par' x y↔Adj par x y)/\(∀x y,rt' x=rt' y↔rt x=rt y)/\rt' i=i/\par' i=0:=by
 obtain⟨hn,hz,hc⟩:=h.top_seq;obtain⟨par', d', rt', hR,hout,hc', hadj,hrt,hi,hpi⟩:=aIL h.rtd hn hz hc;have m1:(BT.node false l i .nil,0)∈(BT.node false l i .nil,0)::R:=by simp
 have hseq:∀x,x∈l.seq++[i]↔x∈(BT.node false l i .nil).nodes:=by intro x;rw[<-bW];simp[BT.seq]
 have hnd:=h.nd;rw[aP,qN]at hnd;have hi1:i∉l.nodes:=by have:=hnd.1;simp only[BT.nodes,qN]at this;exact fun e=>this.2.2 i e i (by simp) rfl
 have hoth:∀x,x≠i->(σ.upd i { σ i with flip:=true }) x=σ x:=fun x hx=>aF hx;have hii:(σ.upd i { σ i with flip:=true }) i={ σ i with flip:=true }:=aH _ _ _;have hlk:∀x,((σ.upd i { σ i with flip:=true }) x).light=(σ x).light/\((σ.upd i { σ i with flip:=true }) x).key=(σ x).key:=by {
 intro x;by_cases e:x=i
 · subst e;rw[hii];exact⟨rfl,rfl⟩
 · rw[hoth x e];exact⟨rfl,rfl⟩};refine⟨par', d', rt', ⟨fun p hp=>?_,h.nd,h.mem,fun p hp=>?_,fun p hp=>?_,hR.dep,fun x hx=>?_,hR.rt0,hR.rt1,fun v h1 h2=>?_,?_,h.pos⟩,hadj,hrt,hi,hpi⟩
 {
 rcases qB.1 hp with rfl|hp
 {
 obtain⟨q1,q2,q3,q4,q5,q6⟩:=h.rep _ m1;refine⟨by rw[hii];exact⟨q1.1,q1.2.1,rfl,q1.2.2.2⟩,q2.congr (fun x hx=>hoth x (fun e=>hi1 (e▸hx))),trivial,by rw[hii];exact q4,?_,?_⟩
 · rw[hii,bP (fun x _=>(hlk x).1)];exact q5
 · rw[hii];exact cZ (fun x _=>(hlk x).2) q6}
 · exact(h.rep p (by simp[hp])).congr (fun x hx=>hoth x (fun e=>hnd.2.2 i (by simp[BT.nodes]) i (bE.2 ⟨p,hp,e▸hx⟩) rfl))}
 {
 rcases qB.1 hp with rfl|hp
 · exact h.pos
 · exact h.up p (by simp[hp])}
 {
 rcases qB.1 hp with rfl|hp
 {
 show Ch par' 0 (BT.node true l i .nil).seq
 simp only[BT.seq,if_true];exact hc'}
 {
 refine gI (fun x hx=>hout x ?_) (h.ch p (by simp[hp]));rw[hseq];exact fun e=>hnd.2.2 x e x (bE.2 ⟨p,hp,bW.1 hx⟩) rfl}}
 {
 rw[hout x ?_]
 · exact h.none x hx
 · rw[hseq];exact fun e=>hx ((h.mem x).1 (by rw[aP];simp only[qE];exact .inl e))}
 · rw[(hlk v).1,h.light v h1 h2,eY (σ:=σ) (σ' :=σ.upd i { σ i with flip:=true }) (fun x _=>(hlk x).1)];rfl
 {
 have:(0:Nat)≠i:=fun e=>hz i (by simp) e.symm;rw[hoth 0 this];exact h.zero}
def zM(σ:Tbl)(a b:Nat):Tbl:=σ.upd a { σ a with up:=b }
def fT(σ:Tbl)(a b:Nat):Tbl:=(zM σ a b).upd b { zM σ a b b with light:=wrap64 ((zM σ a b b).light+(zM σ a b a).total) }
theorem LF.link(h:LF N σ ((Ta,0)::(.node false l b .nil,0)::R) par d rt)(hra:Ta.root=a)(ha0:a≠0)(ha:rt a=a)(hab:rt b≠a):
    (∃par' d' rt', LF N (refresh (fT σ a b) b) ((Ta,b)::(.node false l b .nil,0)::R) par' d' rt' /\ (∀x y,Adj par' x y↔Adj par x y∨(x=a/\y=b)∨(x=b/\y=a))) /\
      (∀x,(refresh (fT σ a b) b x).key=(σ x).key)/\(fT σ a b b).k0≠b/\(fT σ a b b).k1≠b/\InR N (fT σ a b):=by
 have m1:(Ta,0)∈(Ta,0)::(BT.node false l b .nil,0)::R:=by simp
 have m2:(BT.node false l b .nil,0)∈(Ta,0)::(BT.node false l b .nil,0)::R:=by simp
 have haT:a∈Ta.nodes:=hra▸BT.root_mem (by rw[hra];exact ha0);have hTa:=h.rep _ m1;obtain⟨⟨hb0,hbu,hbf,hk0,hk1⟩,hl,hr,_⟩:=h.rep _ m2;have hnd:=h.nd;simp only[aP,BT.nodes,qN,qO,qE,qB,List.append_assoc,zC,List.nil_append]at hnd;have dbl:b∉l.nodes:=by grind
 have dbT:b∉Ta.nodes:=by grind
 have dbR:b∉bU R:=by grind
 have dal:a∉l.nodes:=by grind
 have daR:a∉bU R:=by grind
 have ndT:Ta.nodes.Nodup:=by grind
 have hne:a≠b:=fun e=>dbT (e▸haT);have hne' :b≠a:=fun e=>hne e.symm;have hbN:=(h.lt m2 (x:=b) (by simp[BT.nodes])).2;have haN:=(h.lt m1 haT).2;have l1b:zM σ a b b=σ b:=aF hne';have l1a:zM σ a b a={ σ a with up:=b }:=aH _ _ _;have l2:∀x,x≠a->x≠b->fT σ a b x=σ x:=fun x e1 e2=>by unfold fT zM;rw[aF e2,aF e1]
 have l2a:fT σ a b a={ σ a with up:=b }:=by unfold fT;rw[aF hne,l1a]
 have l2b:fT σ a b b={ σ b with light:=wrap64 ((σ b).light+(σ a).total) }:=by unfold fT;rw[aH,l1b,l1a]
 have htA:(σ a).total=wrap64 (tot σ Ta.nodes):=by rw[<-hra];exact nD h.zero.1 hTa
 have r3:∀x,x≠b->refresh (fT σ a b) b x=fT σ a b x:=fun x hx=>cJ hx;have lk3:=@aG (fT σ a b) b b;have hkey:∀x,(refresh (fT σ a b) b x).key=(σ x).key:=by {
 intro x;rw[aG.2.2.2.2.1];by_cases e1:x=a
 · subst e1;rw[l2a]
 {
 by_cases e2:x=b
 · subst e2;rw[l2b]
 · rw[l2 x e1 e2]}};have hlt3:∀x,x≠b->(refresh (fT σ a b) b x).light=(σ x).light:=by {
 intro x hx;rw[r3 x hx];by_cases e1:x=a
 · subst e1;rw[l2a]
 · rw[l2 x e1 hx]};have hq0:(fT σ a b b).k0≠b:=by rw[l2b];show(σ b).k0≠b;rw[hk0];intro e;exact dbl (e▸BT.root_mem (by rw[e];exact hb0))
 have hq1:(fT σ a b b).k1≠b:=by rw[l2b];show(σ b).k1≠b;rw[hk1];exact fun e=>hb0 e.symm
 have hin:InR N (fT σ a b):=by {
 have hi:=h.inR;intro x hx;by_cases e1:x=a
 · subst e1;rw[l2a];exact⟨(hi x hx).1,(hi x hx).2.1,hbN,(hi x hx).2.2.2⟩
 {
 by_cases e2:x=b
 · subst e2;rw[l2b];exact hi x hx
 · rw[l2 x e1 e2];exact hi x hx}};refine⟨⟨fun x=>if x=a then b else par x,fun x=>if rt x=a then d x+d b+1 else d x,fun x=>if rt x=a then rt b else rt x,⟨fun p hp=>?_,h.nd,h.mem,fun p hp=>?_,fun p hp=>?_,fun x hx=>?_,fun x hx=>?_,fun x hx=>?_,fun x hx=>?_,fun v h1 h2=>?_,?_,h.pos⟩,fun x y=>?_⟩,hkey,hq0,hq1,hin⟩
 {
 rcases qB.1 hp with rfl|hp
 {
 have:Rep (fT σ a b) Ta b:=hTa.reup ndT (fun x hx hxr=>l2 x (by rw[<-hra];exact hxr) (fun e=>dbT (e▸hx))) (fun _=>by rw[hra];exact l2a);exact this.congr (fun x hx=>r3 x (fun e=>dbT (e▸hx)))};rcases qB.1 hp with rfl|hp
 · refine dJ hb0 (by rw[l2b];exact hbu) (by rw[l2b];exact hbf) (by rw[l2b];exact hk0) (by rw[l2b];exact hk1) (hl.congr (fun x hx=>l2 x (fun e=>dal (e▸hx)) (fun e=>dbl (e▸hx)))) trivial dbl (by simp[BT.nodes])
 {
 refine(h.rep p (by simp[hp])).congr (fun x hx=>?_);have hxR:=bE.2 ⟨p,hp,hx⟩;rw[r3 x (fun e=>dbR (e▸hxR)),l2 x (fun e=>daR (e▸hxR)) (fun e=>dbR (e▸hxR))]}}
 {
 rcases qB.1 hp with rfl|hp
 · exact hbN
 rcases qB.1 hp with rfl|hp
 · exact h.pos
 · exact h.up p (by simp[hp])}
 {
 rcases qB.1 hp with rfl|hp
 {
 have hc:=h.ch _ m1;have h0:=h.seq0 m1;have haS:=bW.2 haT;have hndS:=(BT.seq_perm Ta).nodup_iff.2 ndT;show Ch (fun x=>if x=a then b else par x) b Ta.seq
 dsimp only at hc h0
 generalize Ta.seq=s at *;cases s with
 | nil=>trivial
 | cons y s=>{
 have hy:y=a:=by rw[<-dA h.rt0 h.rt1 hc h0 a haS,ha]
 subst hy;refine⟨by simp,gI (fun x hx=>?_) hc.2⟩;rw[qC (by rintro rfl;exact(qO.1 hndS).1 hx)]}};rcases qB.1 hp with rfl|hp
 {
 refine gI (fun x hx=>?_) (h.ch _ m2);rw[qC];rintro rfl;have:=bW.1 hx;simp only[BT.nodes,qE,qB,List.not_mem_nil,or_false]at this;exact this.elim dal hne}
 {
 refine gI (fun x hx=>?_) (h.ch p (by simp[hp]));rw[qC];rintro rfl;exact daR (bE.2 ⟨p,hp,bW.1 hx⟩)}}
 {
 try dsimp only at hx ⊢
 by_cases e:x=a
 {
 subst e;simp only[if_true,ha,qC hab];omega}
 {
 rw[qC e]at hx ⊢;have:=h.dep x hx;rw[h.rt1 x hx];split<;>omega}}
 {
 try dsimp only
 have hxa:x≠a:=by rintro rfl;exact hx ⟨by omega,haN⟩
 rw[qC hxa];exact h.none x hx}
 {
 try dsimp only at hx ⊢
 by_cases e:x=a
 · rw[qD e]at hx;exact absurd hx hb0
 {
 rw[qC e]at hx;rw[h.rt0 x hx,qC e]}}
 {
 try dsimp only at hx ⊢
 by_cases e:x=a
 {
 subst e;simp only[if_true,ha,qC hab]}
 {
 rw[qC e]at hx ⊢;rw[h.rt1 x hx]}}
 {
 have eT:tot (refresh (fT σ a b) b) Ta.nodes=tot σ Ta.nodes:=bP (fun x hx=>hlt3 x (fun e=>dbT (e▸hx)));have eR:iZ (refresh (fT σ a b) b) R v=iZ σ R v:=eY (fun x hx=>hlt3 x (fun e=>dbR (e▸hx)));have hlv:=h.light v h1 h2;have hv0:¬(0=v):=by omega
 simp only[iZ,qC hv0]at hlv ⊢;rw[eT,eR];by_cases ev:b=v
 {
 subst ev;rw[qD rfl,lk3.2.2.2.2.2,l2b];show wrap64 ((σ b).light+(σ a).total)=_
 rw[hlv,htA];unfold wrap64;omega}
 · rw[qC ev,hlt3 v (fun e=>ev e.symm),hlv]}
 {
 have h0a:(0:Nat)≠a:=fun e=>ha0 e.symm;have h0b:(0:Nat)≠b:=fun e=>hb0 e.symm;rw[r3 0 h0b,l2 0 h0a h0b];exact h.zero}
 {
 have hpa:par a=0:=by have:=h.rtd.par_rt a;rwa[ha]at this
 constructor
 {
 rintro⟨hx,hy,e⟩;dsimp only at e
 rcases e with e|e
 {
 by_cases ex:x=a
 · rw[qD ex]at e;exact .inr (.inl ⟨ex,e.symm⟩)
 · rw[qC ex]at e;exact .inl ⟨hx,hy,.inl e⟩}
 {
 by_cases ey:y=a
 · rw[qD ey]at e;exact .inr (.inr ⟨e.symm,ey⟩)
 · rw[qC ey]at e;exact .inl ⟨hx,hy,.inr e⟩}}
 {
 rintro(⟨hx,hy,e⟩|⟨rfl,rfl⟩|⟨rfl,rfl⟩)
 {
 refine⟨hx,hy,?_⟩;dsimp only
 rcases e with e|e
 {
 left;rw[qC];exact e
 rintro rfl;rw[hpa]at e;exact hy e.symm}
 {
 right;rw[qC];exact e
 rintro rfl;rw[hpa]at e;exact hx e.symm}}
 · exact⟨ha0,hb0,.inl (by simp)⟩
 · exact⟨hb0,ha0,.inr (by simp)⟩}}
theorem uG{t:BT}{a:Nat}(h:t.seq=[a]):∃f,t=.node f .nil a .nil:=by
 cases t with
 | nil=>cases h
 | node f l v r=>{
 have e:l.seq++v::r.seq=[a]:=by {
 cases f with
 | false=>simpa[BT.seq] using h
 | true=>{
 have:=congrArg List.reverse h;simpa[BT.seq] using this}};have hl:l.seq=[]:=by {
 cases hls:l.seq with
 | nil=>rfl
 | cons x s=>rw[hls]at e;simp at e};rw[hl]at e;simp at e;have h1:=nF hl;have h2:=nF e.2;subst h1;subst h2;exact⟨f,by rw[e.1]⟩}
def aIM(σ:Tbl)(a:Nat):Tbl:=σ.upd a { σ a with up:=0 }
def iF(σ:Tbl)(a b:Nat):Tbl:=(aIM σ a).upd b { aIM σ a b with k0:=0 }
theorem LF.cut(h:LF N σ ((.node false l b .nil,0)::R) par d rt)(hl:l.seq=[a]):
    (∃par' d' rt' F', LF N (refresh (iF σ a b) b) F' par' d' rt' /\ (∀x y,Adj par' x y↔Adj par x y/\¬(x=a/\y=b)/\¬(x=b/\y=a))) /\
      (∀x,(refresh (iF σ a b) b x).key=(σ x).key)/\(iF σ a b b).k0≠b/\(iF σ a b b).k1≠b/\InR N (iF σ a b):=by
 obtain⟨f,rfl⟩:=uG hl;have m1:(BT.node false (.node f .nil a .nil) b .nil,0)∈(BT.node false (.node f .nil a .nil) b .nil,0)::R:=by simp
 obtain⟨⟨hb0,hbu,hbf,hk0,hk1⟩,hla,_,_⟩:=h.rep _ m1;have hnd:=h.nd;simp only[aP,BT.nodes,qO,qB,zC,List.nil_append]at hnd;have hne:a≠b:=by grind
 have hne' :b≠a:=fun e=>hne e.symm;have dbR:b∉bU R:=by grind
 have daR:a∉bU R:=by grind
 have ha0:a≠0:=hla.1.1;have hab:Ch par 0 [a,b]:=by {
 have e:(BT.node false (.node f .nil a .nil) b .nil).seq=[a,b]:=by cases f<;>simp[BT.seq]
 rw[<-e];exact h.ch _ m1};have hpb:par b=a:=hab.2.1;have hpa:par a=0:=hab.1;have l2:∀x,x≠a->x≠b->iF σ a b x=σ x:=fun x e1 e2=>by unfold iF aIM;rw[aF e2,aF e1]
 have l2a:iF σ a b a={ σ a with up:=0 }:=by unfold iF aIM;rw[aF hne,aH]
 have l2b:iF σ a b b={ σ b with k0:=0 }:=by unfold iF aIM;rw[aH,aF hne']
 have r3:∀x,x≠b->refresh (iF σ a b) b x=iF σ a b x:=fun x hx=>cJ hx;have hlk:∀x,(refresh (iF σ a b) b x).light=(σ x).light/\(refresh (iF σ a b) b x).key=(σ x).key:=by {
 intro x;have:=@aG (iF σ a b) b x;rw[this.2.2.2.2.2,this.2.2.2.2.1];by_cases e1:x=a
 · subst e1;rw[l2a];exact⟨rfl,rfl⟩
 {
 by_cases e2:x=b
 · subst e2;rw[l2b];exact⟨rfl,rfl⟩
 · rw[l2 x e1 e2];exact⟨rfl,rfl⟩}};have hq0:(iF σ a b b).k0≠b:=by rw[l2b];exact fun e=>hb0 e.symm
 have hq1:(iF σ a b b).k1≠b:=by rw[l2b];show(σ b).k1≠b;rw[hk1];exact fun e=>hb0 e.symm
 have hin:InR N (iF σ a b):=by {
 have hi:=h.inR;intro x hx;by_cases e1:x=a
 · subst e1;rw[l2a];exact⟨(hi x hx).1,(hi x hx).2.1,h.pos,(hi x hx).2.2.2⟩
 {
 by_cases e2:x=b
 · subst e2;rw[l2b];exact⟨h.pos,(hi x hx).2⟩
 · rw[l2 x e1 e2];exact hi x hx}};have dep' :∀x,(if x=b then 0 else par x)≠0->d (if x=b then 0 else par x)<d x:=by {
 intro x hx;by_cases e:x=b
 · rw[qD e]at hx;exact absurd rfl hx
 · rw[qC e]at hx ⊢;exact h.dep x hx};obtain⟨rt', hrt⟩:=aPM (par:=fun x=>if x=b then 0 else par x) (d:=d) dep';have hfp:bU ((BT.node f .nil a .nil,0)::(BT.node false .nil b .nil,0)::R)=bU ((BT.node false (.node f .nil a .nil) b .nil,0)::R):=by simp[aP,BT.nodes]
 refine⟨⟨fun x=>if x=b then 0 else par x,d,rt', (.node f .nil a .nil,0)::(.node false .nil b .nil,0)::R,⟨fun p hp=>?_,by rw[hfp];exact h.nd,fun x=>by rw[hfp];exact h.mem x,fun p hp=>?_,fun p hp=>?_,dep', fun x hx=>?_,hrt.rt0,hrt.rt1,fun v h1 h2=>?_,?_,h.pos⟩,fun x y=>?_⟩,fun x=>(hlk x).2,hq0,hq1,hin⟩
 {
 rcases qB.1 hp with rfl|hp
 {
 have:Rep (iF σ a b) (.node f .nil a .nil) 0:=hla.reup (by simp[BT.nodes]) (fun x hx hxr=>absurd (show x=a by simpa[BT.nodes] using hx) hxr) (fun _=>l2a);exact this.congr (fun x hx=>r3 x (by simp[BT.nodes]at hx;rw[hx];exact hne))};rcases qB.1 hp with rfl|hp
 · exact dJ hb0 (by rw[l2b];exact hbu) (by rw[l2b];exact hbf) (by rw[l2b];rfl) (by rw[l2b];exact hk1) trivial trivial (by simp[BT.nodes]) (by simp[BT.nodes])
 {
 refine(h.rep p (by simp[hp])).congr (fun x hx=>?_);have hxR:=bE.2 ⟨p,hp,hx⟩;rw[r3 x (fun e=>dbR (e▸hxR)),l2 x (fun e=>daR (e▸hxR)) (fun e=>dbR (e▸hxR))]}}
 {
 rcases qB.1 hp with rfl|hp
 · exact h.pos
 rcases qB.1 hp with rfl|hp
 · exact h.pos
 · exact h.up p (by simp[hp])}
 {
 rcases qB.1 hp with rfl|hp
 {
 have e:(BT.node f .nil a .nil).seq=[a]:=hl;show Ch _ 0 (BT.node f .nil a .nil).seq
 rw[e];exact⟨by show(if a=b then 0 else par a)=0;rw[qC hne,hpa],trivial⟩};rcases qB.1 hp with rfl|hp
 {
 show Ch _ 0 (BT.node false .nil b .nil).seq
 simp[BT.seq,Ch]}
 · exact gI (fun x hx=>qC (show ¬x=b from fun e=>dbR (bE.2 ⟨p,hp,e▸bW.1 hx⟩))) (h.ch p (by simp[hp]))}
 {
 try dsimp only
 split
 · rfl
 · exact h.none x hx}
 {
 have hlv:=h.light v h1 h2;have hv0:¬(0=v):=by omega
 rw[(hlk v).1,hlv];simp only[iZ,qC hv0];rw[eY (σ:=σ) (σ' :=refresh (iF σ a b) b) (fun x _=>(hlk x).1)];congr 1;omega}
 {
 have h0a:(0:Nat)≠a:=fun e=>ha0 e.symm;have h0b:(0:Nat)≠b:=fun e=>hb0 e.symm;rw[r3 0 h0b,l2 0 h0a h0b];exact h.zero}
 {
 constructor
 {
 rintro⟨hx,hy,e⟩;dsimp only at e
 rcases e with e|e
 {
 by_cases ex:x=b
 · rw[qD ex]at e;exact absurd e.symm hy
 {
 rw[qC ex]at e;refine⟨⟨hx,hy,.inl e⟩,?_,fun h=>ex h.1⟩;rintro⟨rfl,rfl⟩;rw[hpa]at e;exact hy e.symm}}
 {
 by_cases ey:y=b
 · rw[qD ey]at e;exact absurd e.symm hx
 {
 rw[qC ey]at e;refine⟨⟨hx,hy,.inr e⟩,fun h=>ey h.2,?_⟩;rintro⟨rfl,rfl⟩;rw[hpa]at e;exact hx e.symm}}}
 {
 rintro⟨⟨hx,hy,e⟩,n1,n2⟩;refine⟨hx,hy,?_⟩;dsimp only
 rcases e with e|e
 {
 left;rw[qC];exact e
 rintro rfl;rw[hpb]at e;exact n2 ⟨rfl,e.symm⟩}
 {
 right;rw[qC];exact e
 rintro rfl;rw[hpb]at e;exact n1 ⟨e.symm,rfl⟩}}}
def set1(σ:Tbl)(i:Nat)(k:Int):Tbl:=σ.upd i { σ i with key:=k }
theorem LF.set(h:LF N σ ((.node false l i .nil,0)::R) par d rt)(k:Int):
    LF N (refresh (set1 σ i k) i) ((.node false l i .nil,0)::R) par d rt/\(∀x,(refresh (set1 σ i k) i x).key=if x=i then k else(σ x).key)/\(set1 σ i k i).k0≠i/\(set1 σ i k i).k1≠i/\InR N (set1 σ i k):=by
 have m1:(BT.node false l i .nil,0)∈(BT.node false l i .nil,0)::R:=by simp
 obtain⟨⟨hi0,hiu,hif,hk0,hk1⟩,hl,_,_⟩:=h.rep _ m1;have hnd:=h.nd;simp only[aP,BT.nodes,qN,qO,qB,List.append_assoc,zC,List.nil_append]at hnd;have dil:i∉l.nodes:=by grind
 have diR:i∉bU R:=by grind
 have l1:∀x,x≠i->set1 σ i k x=σ x:=fun x e=>by unfold set1;rw[aF e]
 have l1i:set1 σ i k i={ σ i with key:=k }:=by unfold set1;rw[aH]
 have r3:∀x,x≠i->refresh (set1 σ i k) i x=σ x:=fun x hx=>by rw[cJ hx,l1 x hx]
 have hli:∀x,(refresh (set1 σ i k) i x).light=(σ x).light:=by {
 intro x;by_cases e:x=i
 · subst e;rw[aG.2.2.2.2.2,l1i]
 · rw[r3 x e]};have hq0:(set1 σ i k i).k0≠i:=by rw[l1i];show(σ i).k0≠i;rw[hk0];intro e;exact dil (e▸BT.root_mem (by rw[e];exact hi0))
 have hq1:(set1 σ i k i).k1≠i:=by rw[l1i];show(σ i).k1≠i;rw[hk1];exact fun e=>hi0 e.symm
 refine⟨⟨fun p hp=>?_,h.nd,h.mem,h.up,h.ch,h.dep,h.none,h.rt0,h.rt1,fun v h1 h2=>?_,?_,h.pos⟩,fun x=>?_,hq0,hq1,?_⟩
 {
 rcases qB.1 hp with rfl|hp
 · exact dJ hi0 (by rw[l1i];exact hiu) (by rw[l1i];exact hif) (by rw[l1i];exact hk0) (by rw[l1i];exact hk1) (hl.congr (fun x hx=>l1 x (fun e=>dil (e▸hx)))) trivial dil (by simp[BT.nodes])
 · exact(h.rep p (by simp[hp])).congr (fun x hx=>r3 x (fun e=>diR (e▸bE.2 ⟨p,hp,hx⟩)))}
 · rw[hli v,h.light v h1 h2,eY (σ:=σ) (σ' :=refresh (set1 σ i k) i) (fun x _=>hli x)]
 · rw[r3 0 (fun e=>hi0 e.symm)];exact h.zero
 {
 by_cases e:x=i
 · subst e;rw[qD rfl,aG.2.2.2.2.1,l1i]
 · rw[qC e,r3 x e]}
 {
 have hi:=h.inR;intro x hx;by_cases e1:x=i
 · subst e1;rw[l1i];exact hi x hx
 · rw[l1 x e1];exact hi x hx}
end
def Wk(E:Nat->Nat->Prop):Nat->List Nat->Prop
  | _,[]=>True
  | a,x::l=>E a x/\Wk E x l
def bD(E:Nat->Nat->Prop)(a b:Nat)(p:List Nat):Prop:=∃l,p=a::l/\Wk E a l/\p.Nodup/\p.getLast? =some b
theorem aIN{par:Nat->Nat}:∀{a:Nat} {l:List Nat},Wk (Adj par) a l->∀x∈l,x≠0
  | a,y::l,⟨h1,h2⟩,x,hx=>by
    rcases qB.1 hx with rfl|hx
    · exact h1.2.1
    · exact aIN h2 x hx
theorem aDZ{E E' :Nat->Nat->Prop}(h:∀x y,E x y->E' x y):∀{a:Nat} {l:List Nat},Wk E a l->Wk E' a l
  | _,[],_=>trivial
  | _,_y::_l,⟨h1,h2⟩=>⟨h _ _ h1,aDZ h h2⟩
theorem bD.mono{E E' :Nat->Nat->Prop}(h:∀x y,E x y->E' x y){a b:Nat}{p:List Nat}(hp:bD E a b p):bD E' a b p:=by
 obtain⟨l,h1,h2,h3,h4⟩:=hp;exact⟨l,h1,aDZ h h2,h3,h4⟩
theorem aIO{par:Nat->Nat}:∀{a:Nat} {l:List Nat},a≠0->(∀x∈l,x≠0)->Ch par a l->Wk (Adj par) a l
  | _,[],_,_,_=>trivial
  | a,y::l,ha,hn,⟨h1,h2⟩=>⟨⟨ha,hn y (by simp),.inr h1⟩,aIO (hn y (by simp)) (fun x hx=>hn x (by simp[hx])) h2⟩
theorem aPP{par:Nat->Nat}:∀{a:Nat} {l:List Nat},Wk (Adj par) a l->(a::l).Nodup->par a∉l->Ch par a l
  | _,[],_,_,_=>trivial
  | a,y::l,⟨h1,h2⟩,hn,hp=>by
    have hy:par y=a:=by
      rcases h1.2.2 with e|e
      · exact absurd (by rw[e];simp) hp
      · exact e
    have hn2:=qO.1 hn;exact⟨hy,aPP h2 hn2.2 (by rw[hy];exact fun e=>hn2.1 (by simp[e]))⟩
theorem aFW{par:Nat->Nat}{b:Nat}:∀(n:Nat) (S T:List Nat),S.length<=n->Ch par 0 (S++[b])->Ch par 0 (T++[b])->(∀x∈S,x≠0)->(∀x∈T,x≠0)->S=T:=by
 intro n;induction n generalizing b with
 | zero=>{
 intro S T hn hS hT _ hz;obtain rfl:S=[]:=List.length_eq_zero_iff.1 (by omega);rcases List.eq_nil_or_concat T with rfl|⟨T', z,rfl⟩
 · rfl
 {
 rw[List.concat_eq_append,List.append_assoc]at hT;have h1:par b=z:=(fX.1 hT).2.1;have h2:par b=0:=hS.1;exact absurd (h1.symm.trans h2) (hz z (by simp))}}
 | succ n ih=>{
 intro S T hn hS hT hzS hzT;rcases List.eq_nil_or_concat T with rfl|⟨T', z,rfl⟩
 {
 rcases List.eq_nil_or_concat S with rfl|⟨S', y,rfl⟩
 · rfl
 {
 rw[List.concat_eq_append,List.append_assoc]at hS;have h1:par b=y:=(fX.1 hS).2.1;have h2:par b=0:=hT.1;exact absurd (h1.symm.trans h2) (hzS y (by simp))}}
 {
 rcases List.eq_nil_or_concat S with rfl|⟨S', y,rfl⟩
 {
 rw[List.concat_eq_append,List.append_assoc]at hT;have h1:par b=z:=(fX.1 hT).2.1;have h2:par b=0:=hS.1;exact absurd (h1.symm.trans h2) (hzT z (by simp))}
 {
 rw[List.concat_eq_append,List.append_assoc]at hS hT;have h1:par b=y:=(fX.1 hS).2.1;have h2:par b=z:=(fX.1 hT).2.1;obtain rfl:y=z:=h1.symm.trans h2;have:=ih S' T' (by simp at hn;omega) (fX.1 hS).1 (fX.1 hT).1 (fun x hx=>hzS x (by simp[hx])) (fun x hx=>hzT x (by simp[hx]));rw[this]}}}
section
variable {par d rt:Nat->Nat}
theorem Rtd.reroot_at(h:Rtd par d rt){a:Nat}(ha:a≠0):∃par' d' rt', Rtd par' d' rt' /\ (∀x y,Adj par' x y↔Adj par x y)/\(∀x y,rt' x=rt' y↔rt x=rt y)/\rt' a=a/\par' a=0:=by
 obtain⟨S,h1,h2,h3,_⟩:=h.chain (d a) a (qK _) ha;obtain⟨par', d', rt', a1,_,_,a4,a5,a6,a7⟩:=aIL h h2 h3 h1;exact⟨par', d', rt', a1,a4,a5,a6,a7⟩
theorem xE{l:List Nat}{b:Nat}(h:l.getLast? =some b):∃S,l=S++[b]:=by
 rcases List.eq_nil_or_concat l with rfl|⟨S,x,rfl⟩
 · simp at h
 · simp at h;subst h;exact⟨S,by simp⟩
theorem Rtd.unique(h:Rtd par d rt){a b:Nat}(ha:a≠0){p q:List Nat}(hp:bD (Adj par) a b p)(hq:bD (Adj par) a b q):p=q:=by
 obtain⟨par', d', rt', h', hadj,_,_,hpa⟩:=h.reroot_at ha;have key:∀{p:List Nat},bD (Adj par) a b p->∃S,p=S++[b]/\Ch par' 0 p/\∀x∈p,x≠0:=by {
 intro p hp;obtain⟨l,rfl,h2,h3,h4⟩:=hp.mono (fun x y=>(hadj x y).2);obtain⟨S,hS⟩:=xE h4;have hn:=aIN h2;refine⟨S,hS,⟨hpa,aPP h2 h3 (by rw[hpa];exact fun e=>hn 0 e rfl)⟩,fun x hx=>?_⟩;rcases qB.1 hx with rfl|hx
 · exact ha
 · exact hn x hx};obtain⟨S,e1,c1,n1⟩:=key hp;obtain⟨T,e2,c2,n2⟩:=key hq;rw[e1]at c1 n1;rw[e2]at c2 n2;rw[e1,e2,aFW S.length S T (qK _) c1 c2 (fun x hx=>n1 x (by simp[hx])) (fun x hx=>n2 x (by simp[hx]))]
theorem aPQ(h:Rtd par d rt):∀{a:Nat} {l:List Nat},Wk (Adj par) a l->∀x∈a::l,rt x=rt a
  | a,[],_,x,hx=>by simp at hx;rw[hx]
  | a,y::l,⟨h1,h2⟩,x,hx=>by
    rcases qB.1 hx with rfl|hx
    · rfl
    · rw[aPQ h h2 x hx,h.adj h1]
theorem Rtd.conn(h:Rtd par d rt){a b:Nat}(ha:a≠0)(hb:b≠0):(∃p,bD (Adj par) a b p)↔rt a=rt b:=by
 constructor
 {
 rintro⟨p,l,rfl,h2,_,h4⟩;exact(aPQ h h2 b (List.mem_of_getLast? h4)).symm}
 {
 intro e;obtain⟨par', d', rt', h', hadj,hrt,hra,hpa⟩:=h.reroot_at ha;obtain⟨S,c1,c2,c3,_⟩:=h'.chain (d' b) b (qK _) hb;have e' :rt' b=a:=by rw[<-(hrt a b).2 e,hra]
 cases hS:S++[b] with
 | nil=>simp at hS
 | cons y l=>{
 have hbm:b∈y::l:=by rw[<-hS];simp
 rw[hS]at c1 c2 c3;have hy:y=a:=by rw[<-dA h'.rt0 h'.rt1 c1 c3 b hbm,e']
 subst hy;have:bD (Adj par') y b (y::l):=⟨l,rfl,aIO ha (fun x hx=>c3 x (by simp[hx])) c1.2,c2,by rw[<-hS];simp⟩;exact⟨_,this.mono (fun x y=>(hadj x y).1)⟩}}
end
section
variable {N:Nat} {σ:Tbl} {R:Fst} {par d rt:Nat->Nat} {t:BT}
end
theorem LF.new(n:Nat)(σ:Tbl)(h0:(σ 0).total=0/\(σ 0).k0=0/\(σ 0).k1=0/\(σ 0).up=0/\(σ 0).first=0)
    (h1:∀x,0<x->x<n+1->(σ x).k0=0/\(σ x).k1=0/\(σ x).up=0/\(σ x).flip=false/\(σ x).size=1/\(σ x).first=x/\(σ x).light=0/\(σ x).total=1):
    LF (n+1) σ ((List.range n).map fun v=>(.node false .nil (v+1) .nil,0)) (fun _=>0) (fun _=>0) id:=by
 have hfn:bU ((List.range n).map fun v=>(BT.node false .nil (v+1) .nil,0))=(List.range n).map (· + 1):=by {
 unfold bU;rw[List.flatMap_map];simp[BT.nodes];rw[<-List.map_eq_flatMap]};refine⟨fun p hp=>?_,?_,fun x=>?_,fun p hp=>?_,fun p hp=>?_,fun x hx=>absurd rfl hx,fun _ _=>rfl,fun _ _=>rfl,fun x hx=>absurd rfl hx,fun v hv1 hv2=>?_,h0,by omega⟩
 {
 obtain⟨v,hv,rfl⟩:=qW.1 hp;have hv:=List.mem_range.1 hv;obtain⟨a1,a2,a3,a4,a5,a6,a7,a8⟩:=h1 (v+1) (by omega) (by omega);refine⟨⟨by omega,a3,a4,a1,a2⟩,trivial,trivial,?_,?_,?_⟩
 · rw[a5];simp[BT.nodes,wrap64]
 · rw[a8];simp[BT.nodes,tot,a7,wrap64]
 · rw[a6];simp[BT.nodes,eM]}
 {
 rw[hfn];exact List.pairwise_map.2 (List.nodup_range.imp (fun {a b} hab=>by omega))}
 {
 rw[hfn];simp only[qW,List.mem_range];constructor
 · rintro⟨v,hv,rfl⟩;omega
 · intro h;exact⟨x-1,by omega,by omega⟩}
 {
 obtain⟨v,hv,rfl⟩:=qW.1 hp;show 0<n+1;omega}
 {
 obtain⟨v,hv,rfl⟩:=qW.1 hp;simp[BT.seq,Ch]}
 {
 have hl:∀F:Fst,(∀p∈F,p.2=0)->iZ σ F v=0:=by {
 intro F hF;induction F with
 | nil=>rfl
 | cons p F ih=>{
 simp only[iZ];rw[ih (fun q hq=>hF q (by simp[hq])),hF p (by simp),qC (by omega)];rfl}};rw[hl _ (fun p hp=>by obtain⟨v,_,rfl⟩:=qW.1 hp;rfl),(h1 v hv1 hv2).2.2.2.2.2.2.1];simp[wrap64]}
theorem vH(l:List Nat)(x:Nat):(l++[x]).getLast? =some x:=by simp
def bJ(E:Nat->Nat->Prop)(a b:Nat):Prop:=∃p,bD E a b p
theorem aCC{E:Nat->Nat->Prop}{par:Nat->Nat}(h:∀v u,E v u↔Adj par (v+1) (u+1)):∀{a:Nat} {l:List Nat},Wk E a l↔Wk (Adj par) (a+1) (l.map (· + 1))
  | _,[]=>Iff.rfl
  | a,x::l=>by simp only[Wk,List.map_cons];rw[h,aCC h]
theorem kX{l:List Nat}:(l.map (· + 1)).Nodup↔l.Nodup:=by
 constructor
 · intro h;exact(List.pairwise_map.1 h).imp (fun {a b} hab e=>hab (by rw[e]))
 · intro h;exact List.pairwise_map.2 (h.imp (fun {a b} hab=>by omega))
theorem uH{l:List Nat}(h:∀x∈l,x≠0):(l.map (· - 1)).map (· + 1)=l:=by
 rw[List.map_map];refine(List.map_congr_left (fun x hx=>?_)).trans (List.map_id l);have:=h x hx;show x-1+1=id x
 simp;omega
theorem mO(l:List Nat):(l.map (· + 1)).map (· - 1)=l:=by
 rw[List.map_map];exact(List.map_congr_left (fun x hx=>by show x+1-1=id x;simp)).trans (List.map_id l)
theorem jP{E:Nat->Nat->Prop}{par:Nat->Nat}(h:∀v u,E v u↔Adj par (v+1) (u+1)){v u:Nat}{p:List Nat}:bD E v u p↔bD (Adj par) (v+1) (u+1) (p.map (· + 1)):=by
 constructor
 {
 rintro⟨l,rfl,h2,h3,h4⟩;refine⟨l.map (· + 1),rfl,(aCC h).1 h2,kX.2 h3,?_⟩;rw[List.getLast?_map,h4];rfl}
 {
 rintro⟨l,h1,h2,h3,h4⟩;cases p with
 | nil=>cases h1
 | cons x p=>{
 simp only[List.map_cons,List.cons.injEq]at h1;obtain⟨e,rfl⟩:=h1;obtain rfl:x=v:=by omega
 refine⟨p,rfl,(aCC h).2 h2,kX.1 h3,?_⟩;rw[List.getLast?_map]at h4;cases hl:(x::p).getLast? with
 | none=>rw[hl]at h4;cases h4
 | some y=>rw[hl]at h4;simp at h4;rw[h4]}}
theorem nW{E:Nat->Nat->Prop}{par:Nat->Nat}(h:∀v u,E v u↔Adj par (v+1) (u+1)){v u:Nat}{q:List Nat}(hq:bD (Adj par) (v+1) (u+1) q):bD E v u (q.map (· - 1))/\(q.map (· - 1)).map (· + 1)=q:=by
 have hn:∀x∈q,x≠0:=by {
 obtain⟨l,rfl,h2,_⟩:=hq;intro x hx;rcases qB.1 hx with rfl|hx
 · omega
 · exact aIN h2 x hx};have e:=uH hn;exact⟨(jP h).2 (by rw[e];exact hq),e⟩
def Frs(E:Nat->Nat->Prop):Prop:=∃par d rt,Rtd par d rt/\∀v u,E v u↔Adj par (v+1) (u+1)
section
variable {E:Nat->Nat->Prop} {a b c:Nat} {p q r:List Nat}
theorem Frs.symm(h:Frs E){v u:Nat}(he:E v u):E u v:=by
 obtain⟨par,d,rt,_,h2⟩:=h;exact(h2 u v).2 ((h2 v u).1 he).symm
theorem Frs.irrefl(h:Frs E)(v:Nat):¬E v v:=by
 obtain⟨par,d,rt,h1,h2⟩:=h;exact fun e=>h1.irrefl _ ((h2 v v).1 e)
theorem Frs.unique(h:Frs E)(hp:bD E a b p)(hq:bD E a b q):p=q:=by
 obtain⟨par,d,rt,h1,h2⟩:=h;have:=h1.unique (by omega) ((jP h2).1 hp) ((jP h2).1 hq);rw[<-mO p,this,mO]
theorem gD{par d rt:Nat->Nat}(h1:Rtd par d rt)(h2:∀v u,E v u↔Adj par (v+1) (u+1)):bJ E a b↔rt (a+1)=rt (b+1):=by
 rw[<-h1.conn (by omega) (by omega)];constructor
 · rintro⟨p,hp⟩;exact⟨_,(jP h2).1 hp⟩
 · rintro⟨p,hp⟩;exact⟨_,(nW h2 hp).1⟩
theorem zN(E:Nat->Nat->Prop)(a:Nat):bD E a a [a]:=⟨[],rfl,trivial,by simp,rfl⟩
theorem bJ.refl(E:Nat->Nat->Prop)(a:Nat):bJ E a a:=⟨[a],zN E a⟩
theorem Frs.csymm(h:Frs E)(hc:bJ E a b):bJ E b a:=by
 obtain⟨par,d,rt,h1,h2⟩:=h;exact(gD h1 h2).2 ((gD h1 h2).1 hc).symm
theorem Frs.ctrans(h:Frs E)(hc:bJ E a b)(hd:bJ E b c):bJ E a c:=by
 obtain⟨par,d,rt,h1,h2⟩:=h;exact(gD h1 h2).2 (((gD h1 h2).1 hc).trans ((gD h1 h2).1 hd))
theorem Frs.edge(h:Frs E)(he:E a b):bD E a b [a,b]:=by
 refine⟨[b],rfl,⟨he,trivial⟩,?_,rfl⟩;have:a≠b:=by rintro rfl;exact h.irrefl a he
 simp[this]
theorem aFX{x:Nat}{l m:List Nat}:Wk E a (l++x::m)↔Wk E a (l++[x])/\Wk E x m:=by
 induction l generalizing a with
 | nil=>simp[Wk]
 | cons y l ih=>simp only[zC,Wk];rw[ih,and_assoc]
theorem bD.nd(hp:bD E a b p):p.Nodup:=by obtain⟨l,_,_,h,_⟩:=hp;exact h
theorem bD.ne(hp:bD E a b p):p≠[]:=by obtain⟨l,rfl,_⟩:=hp;simp
end
end Go.Proofs.YtjdgpcjbgjnahaaGreatDoor
namespace Go.Proofs.YtjdgpcjbgjnahaaGreatDoor
open Go.RowKit Classical
def lR(E:Nat->Nat->Prop)(v:Nat):Prop:=∀u,u<v->¬bJ E v u
noncomputable def nc(n:Nat)(E:Nat->Nat->Prop):Nat:=((List.range n).filter fun v=>decide (lR E v)).length
theorem aIP(n:Nat)(E:Nat->Nat->Prop):nc n E<=n:=by
 unfold nc;have:=List.length_filter_le (fun v=>decide (lR E v)) (List.range n);simpa using this
theorem aQJ{E E' :Nat->Nat->Prop}(h:∀v u,E v u↔E' v u)(a b:Nat):bJ E a b↔bJ E' a b:=
  ⟨fun⟨p,hp⟩=>⟨p,hp.mono (fun x y=>(h x y).1)⟩,fun⟨p,hp⟩=>⟨p,hp.mono (fun x y=>(h x y).2)⟩⟩
theorem vI{E E' :Nat->Nat->Prop}(h:∀v u,E v u↔E' v u):E=E' :=funext fun v=>funext fun u=>propext (h v u)
theorem gO{P P' :Nat->Bool}{m:Nat}:∀{l:List Nat},l.Nodup->m∈l->P m=true->P' m=false->(∀x∈l,x≠m->P' x=P x)->(l.filter P').length+1=(l.filter P).length
  | y::l,hn,hm,h1,h2,h3=>by
    have hn' :=qO.1 hn;by_cases e:y=m
    · subst e
      have:l.filter P' =l.filter P:=List.filter_congr (fun x hx=>h3 x (by simp[hx]) (by rintro rfl;exact hn'.1 hx));simp[h1,h2,this]
    · have hml : m ∈ l := (qB.1 hm).resolve_left (fun h => e h.symm)
      have ih:=gO hn'.2 hml h1 h2 (fun x hx=>h3 x (by simp[hx]));have hy:=h3 y (by simp) e;cases hp:P y with
      | true=>simp[hy,hp,ih]
      | false=>simp[hy,hp,ih]
def dZ(E:Nat->Nat->Prop)(a b:Nat):Nat->Nat->Prop:=fun v u=>E v u∨(v=a/\u=b)∨(v=b/\u=a)
def iN(E:Nat->Nat->Prop)(a b:Nat):Nat->Nat->Prop:=fun v u=>E v u/\¬(v=a/\u=b)/\¬(v=b/\u=a)
section
variable {E:Nat->Nat->Prop} {a b n:Nat}
theorem dL{v u:Nat}(h:Frs E)(he:E v u):bJ E v u:=⟨_,h.edge he⟩
theorem zO(h:Frs E)(h' :Frs (dZ E a b))(x y:Nat):bJ (dZ E a b) x y↔bJ E x y∨(bJ E x a/\bJ E b y)∨(bJ E x b/\bJ E a y):=by
 constructor
 {
 rintro⟨p,l,rfl,hw,_,hl⟩;have key:∀{l:List Nat} {x:Nat},Wk (dZ E a b) x l->∀y∈x::l,bJ E x y∨(bJ E x a/\bJ E b y)∨(bJ E x b/\bJ E a y):=by {
 intro l;induction l with
 | nil=>intro x _ y hy;simp at hy;subst hy;exact .inl (bJ.refl E y)
 | cons z l ih=>{
 intro x ⟨h1,h2⟩ y hy;rcases qB.1 hy with rfl|hy
 · exact .inl (bJ.refl E y)
 have hz:=ih h2 y hy;rcases h1 with h1|⟨rfl,rfl⟩|⟨rfl,rfl⟩
 {
 have hxz:=dL h h1;rcases hz with hz|⟨hz1,hz2⟩|⟨hz1,hz2⟩
 · exact .inl (h.ctrans hxz hz)
 · exact .inr (.inl ⟨h.ctrans hxz hz1,hz2⟩)
 · exact .inr (.inr ⟨h.ctrans hxz hz1,hz2⟩)}
 {
 rcases hz with hz|⟨hz1,hz2⟩|⟨hz1,hz2⟩
 · exact .inr (.inl ⟨bJ.refl E x,hz⟩)
 · exact .inr (.inl ⟨bJ.refl E x,hz2⟩)
 · exact .inl hz2}
 {
 rcases hz with hz|⟨hz1,hz2⟩|⟨hz1,hz2⟩
 · exact .inr (.inr ⟨bJ.refl E x,hz⟩)
 · exact .inl hz2
 · exact .inr (.inr ⟨bJ.refl E x,hz2⟩)}}};exact key hw y (List.mem_of_getLast? hl)}
 {
 have hm:∀{x y},bJ E x y->bJ (dZ E a b) x y:=fun⟨p,hp⟩=>⟨p,hp.mono (fun _ _ e=>.inl e)⟩;have hab:bJ (dZ E a b) a b:=dL h' (.inr (.inl ⟨rfl,rfl⟩));rintro(e|⟨e1,e2⟩|⟨e1,e2⟩)
 · exact hm e
 · exact h'.ctrans (hm e1) (h'.ctrans hab (hm e2))
 · exact h'.ctrans (hm e1) (h'.ctrans (h'.csymm hab) (hm e2))}
theorem nX{P:Nat->Prop}{n:Nat}(h:P n):∃m,m<=n/\P m/\∀k,k<m->¬P k:=by
 induction n using Nat.strongRecOn with
 | _ n ih=>{
 by_cases hm:∃m,m<n/\P m
 {
 obtain⟨m,hlt,hp⟩:=hm;obtain⟨m', h1,h2,h3⟩:=ih m hlt hp;exact⟨m', by omega,h2,h3⟩}
 · exact⟨n,qK _,h,fun k hk hp=>hm ⟨k,hk,hp⟩⟩}
theorem aIQ(h:Frs E)(h' :Frs (dZ E a b))(hab:¬bJ E a b)(ha:a<n)(hb:b<n):nc n (dZ E a b)+1=nc n E:=by
 obtain⟨fa,ha1,ha2,ha3⟩:=nX (P:=fun k=>bJ E a k) (bJ.refl E a);obtain⟨fb,hb1,hb2,hb3⟩:=nX (P:=fun k=>bJ E b k) (bJ.refl E b);have hne:fa≠fb:=by rintro rfl;exact hab (h.ctrans ha2 (h.csymm hb2))
 have hfa:lR E fa:=fun k hk hc=>ha3 k hk (h.ctrans ha2 hc);have hfb:lR E fb:=fun k hk hc=>hb3 k hk (h.ctrans hb2 hc);have key:∀{a b fa fb:Nat},fa<fb->bJ E a fa->bJ E b fb->lR E fa->lR E fb->¬bJ E a b->Frs (dZ E a b)->b<n->fb<=b->(∀k,k<fa->¬bJ E a k)->nc n (dZ E a b)+1=nc n E:=by {
 intro a b fa fb hlt hca hcb hfa hfb hab h' hbn hfbb hmin;have hbc:=zO (a:=a) (b:=b) h h';unfold nc;refine gO (m:=fb) List.nodup_range (List.mem_range.2 (by omega)) (qG hfb) (qF ?_) ?_
 {
 intro hf;exact hf fa hlt ((hbc fb fa).2 (.inr (.inr ⟨h.csymm hcb,hca⟩)))}
 {
 intro x _ hx;refine decide_eq_decide.2 ⟨fun hf u hu hc=>hf u hu ((hbc x u).2 (.inl hc)),fun hf u hu hc=>?_⟩;rcases(hbc x u).1 hc with e|⟨e1,e2⟩|⟨e1,e2⟩
 · exact hf u hu e
 {
 -- x is with a, u with b: then x = fa, and fb ≤ u
 have hxfa:bJ E x fa:=h.ctrans e1 hca;have h1:x=fa:=by {
 rcases Nat.lt_trichotomy x fa with q|q|q
 · exact absurd (h.csymm hxfa) (hfa x q)
 · exact q
 · exact absurd hxfa (hf fa q)};have:¬u<fb:=fun q=>hfb u q (h.ctrans (h.csymm hcb) e2);omega}
 {
 have hxfb:bJ E x fb:=h.ctrans e1 hcb;rcases Nat.lt_trichotomy x fb with q|q|q
 · exact absurd (h.csymm hxfb) (hfb x q)
 · exact absurd q hx
 · exact absurd hxfb (hf fb q)}}};rcases Nat.lt_or_gt_of_ne hne with q|q
 · exact key q ha2 hb2 hfa hfb hab h' hb hb1 ha3
 {
 have e:dZ E a b=dZ E b a:=vI (fun v u=>by unfold dZ;constructor<;>(rintro(e|e|e);exact .inl e;exact .inr (.inr e);exact .inr (.inl e)));rw[e];exact key q hb2 ha2 hfb hfa (fun e=>hab (h.csymm e)) (by rw[<-e];exact h') ha ha1 hb3}
theorem aNA(h:Frs E)(he:E a b):dZ (iN E a b) a b=E:=by
 refine vI (fun v u=>?_);unfold dZ iN;constructor
 {
 rintro(e|⟨rfl,rfl⟩|⟨rfl,rfl⟩)
 · exact e.1
 · exact he
 · exact h.symm he}
 {
 intro e;by_cases h1:v=a/\u=b
 · exact .inr (.inl h1)
 {
 by_cases h2:v=b/\u=a
 · exact .inr (.inr h2)
 · exact .inl ⟨e,h1,h2⟩}}
theorem aNB(h:Frs E)(he:E a b):¬bJ (iN E a b) a b:=by
 rintro⟨p,hp⟩;have h1:=hp.mono (E' :=E) (fun x y e=>e.1);have h2:=h.unique h1 (h.edge he);subst h2;obtain⟨l,e,hw,_⟩:=hp;simp at e;subst e;exact hw.1.2.1 ⟨rfl,rfl⟩
theorem aQK(h:Frs E)(h' :Frs (iN E a b))(he:E a b)(ha:a<n)(hb:b<n):nc n (iN E a b)=nc n E+1:=by
 have e:=aNA h he;have:=aIQ (n:=n) h' (by rw[e];exact h) (aNB h he) ha hb;rw[e]at this;exact this.symm
end
theorem aNC(n:Nat):nc n (fun _ _=>False)=n:=by
 unfold nc;rw[List.filter_eq_self.2]
 · simp
 {
 intro v _;refine qG (fun u hu ⟨p,l,e,hw,_,hl⟩=>?_);cases l with
 | nil=>subst e;simp at hl;omega
 | cons x l=>exact hw.1}
end Go.Proofs.YtjdgpcjbgjnahaaGreatDoor
