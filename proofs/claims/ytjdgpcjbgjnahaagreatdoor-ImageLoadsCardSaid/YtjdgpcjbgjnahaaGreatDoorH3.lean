/- The plain model of a window: its state, a tick, an edge more. -/
import Derived.Test.YtjdgpcjbgjnahaaGreatDoorH1
import Derived.Deep.Quiet
import Derived.Test.YtjdgpcjbgjnahaaGreatDoorH2
import Derived.Deep.RegionHeld3
import Derived.StillTailTactics
import Derived.Shelf.SlicesE.Index
import Derived.Shelf.SlicesG.Delete
import Derived.Sort.OwnSortedInts
set_option maxRecDepth 10000
set_option maxHeartbeats 1600000
set_option linter.unusedSimpArgs false
set_option linter.unusedVariables false
/- A region that draws its order, of whose operations ONE changes the world (a call, a store, an append): one walk in the order of the text serves every order. -/
namespace Go.Proofs.YtjdgpcjbgjnahaaGreatDoor
open Go.RowKit
section
variable {P:Program} {ops:Array Oper} {md:Region.Mode} (G:Nat->Sem Go.Next->Value->Prop)
def gOp(ops:Array Oper)(i:Nat)(K:Act->Prop)(a:Act):Prop:=
  match ops[i]? with
  | none=>K a
  | some o=>if Region.wanted o (yielded ops a.tmps) then ∃v,G i (execOp a.eval o) v/\K (a.put o.dst v) else K (a.put o.dst undef)
def dI(ops:Array Oper)(Q:Act->Prop):Nat->List Oper->Act->Prop
  | _,[],a=>Q a
  | k,o::rest,a=>if Region.wanted o (yielded ops a.tmps) then ∃v,G k (execOp a.eval o) v/\dI ops Q (k+1) rest (a.put o.dst v) else dI ops Q (k+1) rest (a.put o.dst undef)
def yQ(md:Region.Mode)(ops:Array Oper)(Q:Act->Prop):Nat->Array Bool->Act->Prop
  | 0,listed,a=>Region.ready md ops listed=[]/\Q a
  | fuel+1,listed,a=>
    (Region.ready md ops listed=[]->Q a)/\∀i∈Region.ready md ops listed,gOp G ops i (yQ md ops Q fuel (listed.setIfInBounds i true)) a
variable {G}
def eV(G:Nat->Sem Go.Next->Value->Prop)(ops:Array Oper)(i:Nat)(o:Oper)(v:Value)(a:Act):Prop:=
  (Region.wanted o (yielded ops a.tmps)=true/\G i (execOp a.eval o) v)∨(Region.wanted o (yielded ops a.tmps)=false/\v=undef)
theorem eV.op{i:Nat}{o:Oper}{v:Value}{a:Act}(hi:ops[i]? =some o)(hy:eV G ops i o v a){K:Act->Prop}(h:K (a.put o.dst v)):gOp G ops i K a:=by
 unfold gOp;simp only[hi];rcases hy with⟨hw,hv⟩|⟨hw,rfl⟩
 · rw[qD hw];exact⟨v,hv,h⟩
 · rw[qC (by simp[hw])];exact h
theorem eV.same{i:Nat}{o:Oper}{v:Value}{a a' :Act}(hy:eV G ops i o v a)(he:execOp a'.eval o=execOp a.eval o)
    (hw:Region.wanted o (yielded ops a'.tmps)=Region.wanted o (yielded ops a.tmps)):eV G ops i o v a' :=by
 unfold eV at *;rw[he,hw];exact hy
theorem aHS{i:Nat}{a:Act}{K K' :Act->Prop}(h:∀a,K a->K' a)(hh:gOp G ops i K a):gOp G ops i K' a:=by
 unfold gOp at *;cases ho:ops[i]? with
 | none=>simp only[ho]at hh ⊢;exact h _ hh
 | some o=>{
 simp only[ho]at hh ⊢;by_cases hw:Region.wanted o (yielded ops a.tmps)=true
 · rw[qD hw]at *;obtain⟨v,h1,h2⟩:=hh;exact⟨v,h1,h _ h2⟩
 · rw[qC hw]at *;exact h _ hh}
theorem uA{i:Nat}{o:Oper}{a:Act}{K:Act->Prop}(hi:ops[i]? =some o)(h:gOp G ops i K a):∃v,eV G ops i o v a/\K (a.put o.dst v):=by
 unfold gOp at h;simp only[hi]at h;by_cases hw:Region.wanted o (yielded ops a.tmps)=true
 {
 rw[qD hw]at h;obtain⟨v,h1,h2⟩:=h;exact⟨v,.inl ⟨hw,h1⟩,h2⟩}
 {
 rw[qC hw]at h;exact⟨undef,.inr ⟨by simpa using hw,rfl⟩,h⟩}
theorem aMX{i j:Nat}{oi oj:Oper}{v:Value}(hj:ops[j]? =some oj)(hap:oi.apart ops oj=true)
    (hsi:∀cs b,oi.op≠.select cs b) (hsj:∀cs b,oj.op≠.select cs b) {K:Act->Prop} {a:Act}
    (hy:eV G ops i oi v a) (h:gOp G ops j K (a.put oi.dst v)):
    gOp G ops j (fun a' =>eV G ops i oi v a' /\ K (a'.put oi.dst v)) a:=by
 obtain⟨h1,h2,h3⟩:=Oper.apart_spec hap;have keep:∀(a:Act),eV G ops i oi v a->∀u,eV G ops i oi v (a.put oj.dst u):=fun a hy u=>
   hy.same (execOp_put oi hsi a oj.dst u h3) (wanted_put oi a oj.dst u h3)
 unfold gOp at *;simp only[hj]at *;rw[wanted_put oj a oi.dst v h1]at h;by_cases hw:Region.wanted oj (yielded ops a.tmps)=true
 {
 rw[qD hw]at *;obtain⟨u,hu,hn⟩:=h;rw[execOp_put oj hsj a oi.dst v h1]at hu;exact⟨u,hu,keep a hy u,by rw[<-Act.put_comm a v u h2];exact hn⟩}
 {
 rw[qC hw]at *;exact⟨keep a hy _,by rw[<-Act.put_comm a v undef h2];exact h⟩}
theorem aBR{Q:Act->Prop}{i:Nat}{oi:Oper}{v:Value}(hi:ops[i]? =some oi)(hsel:∀(j:Nat) (o:Oper) cs b,ops[j]? =some o->o.op≠.select cs b):
    ∀(fuel:Nat) (listed:Array Bool) (a:Act),
      (∀j oj,ops[j]? =some oj->j≠i->listed.getD j true=false->(∀e∈oj.after,Region.binds md e=true->e.on≠i)->oi.apart ops oj=true) ->
      i∈Region.ready md ops listed->eV G ops i oi v a ->
      yQ G md ops Q fuel (listed.setIfInBounds i true) (a.put oi.dst v)->yQ G md ops Q (fuel+1) listed a:=by
  intro fuel;induction fuel with
  | zero=>
    intro listed a _ hr hy H;refine⟨fun h=>(by rw[h]at hr;cases hr),fun j hj=>?_⟩;by_cases hji:j=i
    · subst hji;exact hy.op hi H
    · have := ready_mono hj hji
      rw[H.1]at this;cases this
  | succ fuel ih=>
    intro listed a hfree hr hy H;refine⟨fun h=>(by rw[h]at hr;cases hr),fun j hj=>?_⟩;by_cases hji:j=i
    · subst hji;exact hy.op hi H
    · have h1 := H.2 j (ready_mono hj hji)
      obtain⟨hjun,oj,hoj,hall⟩:=mem_ready.1 hj;have hnot:∀e∈oj.after,Region.binds md e=true->e.on≠i:=fun e he hb heq=>by
        have h1:=hall e he hb;have h0:=(mem_ready.1 hr).1;rw[heq]at h1;rcases Nat.lt_or_ge i listed.size with h' | h'
        · simp[h']at h0 h1;rw[h0]at h1;cases h1
        · simp[Array.getElem?_eq_none h']at h1
      have h2:=aMX hoj (hfree j oj hoj hji hjun hnot) (fun cs b=>hsel i oi cs b hi) (fun cs b=>hsel j oj cs b hoj) hy h1
      have hfree' :∀k ok,ops[k]? =some ok->k≠i->(listed.setIfInBounds j true).getD k true=false ->
          (∀e∈ok.after,Region.binds md e=true->e.on≠i)->oi.apart ops ok=true:=fun k ok hk hki hun hno=>by
        refine hfree k ok hk hki ?_ hno;by_cases hjk:j=k
        · subst hjk;exact hjun
        · rw[getD_set_ne true hjk]at hun;exact hun
      refine aHS (fun a' h3=>ih (listed.setIfInBounds j true) a' hfree' (ready_mono hr (Ne.symm hji)) h3.1 ?_) h2;rw[Array.setIfInBounds_comm _ _ hji];exact h3.2
theorem sH{Q:Act->Prop}(hs:Region.noSelect ops=true):∀(l:List Oper) (k:Nat) (listed:Array Bool) (a:Act),(∀j,l[j]? =ops[k+j]?) ->
    Region.lexFrom md ops l.length k listed=true->dI G ops Q k l a->yQ G md ops Q l.length listed a
  | [],_,_,_,_,hB,h=>⟨by simpa[Region.lexFrom] using hB,h⟩
  | o::l,k,listed,a,hl,hB,h=>by
    have h0:ops[k]? =some o:=by simpa using (hl 0).symm
    simp only[qZ,Region.lexFrom,qX]at hB;obtain⟨⟨hr,hf⟩,hB'⟩:=hB;have hst:gOp G ops k (dI G ops Q (k+1) l) a:=by unfold gOp;simp only[h0];exact h
    obtain⟨v,hy,hK⟩:=uA h0 hst
    exact aBR h0 (Region.noSelect_spec hs) l.length listed a (Region.free_spec h0 hf) (by simpa using hr) hy
      (sH hs l (k+1) _ _ (fun j=>by have:=hl (j+1);simpa[Nat.add_assoc,Nat.add_comm 1 j] using this) hB' hK)
end
def cR(P:Program)(C1:World->Prop)(v:Value):Result Go.Next->Prop
  | .ok (.value u) w' =>u=v/\C1 w'
  | .ok .skip w' =>v=undef/\C1 w'
  | .ok (.enter f args) w' =>Calls P f args w' (fun e w'' =>e=.returned v/\C1 w'')
  | _=>False
def kO(w:World)(v:Value):Result Go.Next->Prop
  | .ok (.value u) w' =>w' =w/\u=v
  | .ok .skip w' =>w' =w/\v=undef
  | _=>False
def mD(P:Program)(c:Nat)(C0 C1:World->Prop)(i:Nat)(s:Sem Go.Next)(v:Value):Prop:=
  if i<c then ∀w,C0 w->Oper.quietUpon P C0 w v (s.run P w) else if i=c then ∀w,C0 w->cR P C1 v (s.run P w) else ∀w,kO w v (s.run P w)
theorem mW{P:Program}{o:Oper}{a:Act}{v:Value}{C:World->Prop}{w:World}{K' :Act->World->Prop}{Q' :Exit->Act->World->Prop}(hw:C w)(h:∀w', C w' -> K' (a.put o.dst v) w')
    {r:Result Go.Next} (h3:Oper.quietUpon P C w v r):o.upon P a K' Q' r:=by
 cases r with
 | halt x w' =>exact h3.elim
 | ok x w' =>{
 cases x with
 | value u=>obtain⟨rfl,rfl⟩:=h3;exact h _ hw
 | skip=>obtain⟨rfl,rfl⟩:=h3;exact h _ hw
 | enter f args=>{
 obtain⟨rfl,hc⟩:=h3;exact hc.mono fun e w'' ⟨he,hw''⟩=>by subst he;exact h _ hw''}
 | _=>exact h3.elim}
theorem mX{P:Program}{o:Oper}{a:Act}{v:Value}{C:World->Prop}{K' :Act->World->Prop}{Q' :Exit->Act->World->Prop}(h:∀w', C w' -> K' (a.put o.dst v) w')
    {r:Result Go.Next} (h3:cR P C v r):o.upon P a K' Q' r:=by
 cases r with
 | halt x w' =>exact h3.elim
 | ok x w' =>{
 cases x with
 | value u=>obtain⟨rfl,hc⟩:=h3;exact h _ hc
 | skip=>obtain⟨rfl,hc⟩:=h3;exact h _ hc
 | enter f args=>exact Calls.mono h3 fun e w'' ⟨he,hw''⟩=>by subst he;exact h _ hw''
 | _=>exact h3.elim}
theorem uY{P:Program}{o:Oper}{a:Act}{v:Value}{w:World}{K' :Act->World->Prop}{Q' :Exit->Act->World->Prop}(h:K' (a.put o.dst v) w)
    {r:Result Go.Next} (h3:kO w v r):o.upon P a K' Q' r:=by
 cases r with
 | halt x w' =>exact h3.elim
 | ok x w' =>{
 cases x with
 | value u=>obtain⟨rfl,rfl⟩:=h3;exact h
 | skip=>obtain⟨rfl,rfl⟩:=h3;exact h
 | _=>exact h3.elim}
section
variable {P:Program} {ops:Array Oper} {md:Region.Mode} {C0 C1:World->Prop} {c:Nat}
theorem dT(m j:Nat):(Array.replicate m false).getD j false=false:=by
 by_cases h:j<m<;>simp[h]
def sI(md:Region.Mode)(ops:Array Oper):Nat->Array Bool->Array Bool
  | 0,S=>S
  | j+1,S=>sI md ops j (if S.getD j false then(match ops[j]? with|some o=>o.after.toList.foldl (fun S e=>if Region.binds md e then S.setIfInBounds e.on true else S) S|none=>S) else S)
def oX(md:Region.Mode)(ops:Array Oper)(c:Nat):Bool:=(List.range c).all fun i=>(sI md ops (c+1) ((Array.replicate ops.size false).setIfInBounds c true)).getD i false
def rI(md:Region.Mode)(ops:Array Oper)(L:Array Bool):Prop:=∀j oj,ops[j]? =some oj->L.getD j false=true->∀e∈oj.after,Region.binds md e=true->L.getD e.on false=true
theorem lQ{L:Array Bool}(hL:rI md ops L):∀(j:Nat) (S:Array Bool),(∀i,S.getD i false=true->L.getD i false=true)->∀i,(sI md ops j S).getD i false=true->L.getD i false=true
  | 0,S,h=>h
  | j+1,S,h=>by
    unfold sI;refine lQ hL j _ ?_;by_cases hj:S.getD j false=true
    · rw [qD hj]
      cases ho:ops[j]? with
      | none=>exact h
      | some o=>
        have hcl:=hL j o ho (h j hj)
        have key:∀(es:List Edge) (T:Array Bool),(∀e∈es,e∈o.after.toList)->(∀i,T.getD i false=true->L.getD i false=true) ->
            ∀i,(es.foldl (fun S e=>if Region.binds md e then S.setIfInBounds e.on true else S) T).getD i false=true->L.getD i false=true:=by
          intro es;induction es with
          | nil=>intro T _ hT;exact hT
          | cons e es ih=>
            intro T hes hT;rw[List.foldl_cons];refine ih _ (fun e' he' =>hes e' (List.mem_cons_of_mem _ he')) ?_;by_cases hb:Region.binds md e=true
            · rw [qD hb]
              intro i hi;by_cases hei:e.on=i
              · rw[<-hei];exact hcl e (by simpa using hes e (by simp)) hb
              · rw[getD_set_ne false hei]at hi;exact hT i hi
            · rw[qC hb];exact hT
        exact key _ S (fun e he=>he) h
    · rw[qC hj];exact h
theorem uB{L:Array Bool}(hL:rI md ops L)(hB:oX md ops c=true)(hc:L.getD c false=true):∀i,i<c->L.getD i false=true:=by
 intro i hi;have h1:=List.all_eq_true.1 hB i (by simpa using hi);refine lQ hL (c+1) _ ?_ i h1;intro j hj;by_cases e:c=j
 · rw[<-e];exact hc
 {
 rw[getD_set_ne false e,dT]at hj;cases hj}
theorem rI.set{L:Array Bool}{i:Nat}(h:rI md ops L)(hi:i∈Region.ready md ops L):rI md ops (L.setIfInBounds i true):=by
 obtain⟨_,oi,hoi,hall⟩:=mem_ready.1 hi;intro j oj hj hl e he hb;by_cases hij:i=j
 {
 subst hij;have:oj=oi:=Option.some.inj (hj.symm.trans hoi);subst this;exact getD_set_true (hall e he hb)}
 {
 rw[getD_set_ne false hij]at hl;exact getD_set_true (h j oj hj hl e he hb)}
def kP(c:Nat)(C0 C1:World->Prop)(listed:Array Bool)(w:World):Prop:=if listed.getD c false=true then C1 w else C0 w
def fC(md:Region.Mode)(ops:Array Oper):Bool:=(List.range ops.size).all fun j=>match ops[j]? with
  | some o=>o.after.all fun e=> !Region.binds md e||decide (e.on<j)
  | none=>true
theorem iT{listed:Array Bool}(hs:listed.size=ops.size)(hb:fC md ops=true)(h:Region.ready md ops listed=[]):∀j,j<ops.size->listed.getD j false=true:=by
 intro j;induction j using Nat.strongRecOn with
 | _ j ih=>{
 intro hj;apply qQ;intro hno;have hun:listed.getD j true=false:=by simp[hs,hj]at hno ⊢;exact hno
 obtain⟨o,ho⟩:∃o,ops[j]? =some o:=⟨_,Array.getElem?_eq_getElem hj⟩;have hin:j∈Region.ready md ops listed:=by {
 refine mem_ready.2 ⟨hun,o,ho,fun e he hbe=>?_⟩;have h1:=List.all_eq_true.1 hb j (by simpa using hj);simp only[ho]at h1;have h2:=Array.all_eq_true'.1 h1 e he;simp[hbe]at h2;exact ih e.on h2 (by omega)};rw[h]at hin;cases hin}
theorem pV(hc:c<ops.size)(hb:fC md ops=true)(hbf:oX md ops c=true)(hu:∀o,ops[c]? =some o->o.guard=none){Q:Act->Prop}{Q' :Exit->Act->World->Prop}(hQ:∀a w,C1 w->Q a->Q' .normal a w):∀(fuel:Nat) (listed:Array Bool) (a:Act) (w:World),listed.size=ops.size ->
    rI md ops listed->kP c C0 C1 listed w->yQ (mD P c C0 C1) md ops Q fuel listed a->wpAny P md ops Q' fuel listed a w
  | 0,listed,a,w,hs,_,hp,h=>⟨h.1,hQ _ _ (by unfold kP at hp;rw[qD (iT hs hb h.1 c hc)]at hp;exact hp) h.2⟩
  | fuel+1,listed,a,w,hs,hsh,hp,h=>by
    refine⟨fun h0=>hQ _ _ (by unfold kP at hp;rw[qD (iT hs hb h0 c hc)]at hp;exact hp) (h.1 h0),fun i hi=>?_⟩;have hg:=h.2 i hi;obtain⟨hun,oi,hoi,_⟩:=mem_ready.1 hi;have hil:i<ops.size:=(qM.1 hoi).1;have hs' :(listed.setIfInBounds i true).size=ops.size:=by simp[hs]
    have hl0:listed.getD i false=false:=by
      simp[hs,hil]at hun ⊢;exact hun
    have next:∀a' w', kP c C0 C1 (listed.setIfInBounds i true) w' -> yQ (mD P c C0 C1) md ops Q fuel (listed.setIfInBounds i true) a' -> wpAny P md ops Q' fuel (listed.setIfInBounds i true) a' w' :=
      fun a' w' hp' hg' =>pV hc hb hbf hu hQ fuel _ a' w' hs' (hsh.set hi) hp' hg'
    unfold gOp at hg;unfold wpOp;simp only[hoi]at hg ⊢;by_cases hic:i=c
    · subst hic
      have hl1:(listed.setIfInBounds i true).getD i false=true:=by simp[hs,hil]
      unfold kP at hp;rw[qC (by simp[hl0])]at hp;have hw:Region.wanted oi (yielded ops a.tmps)=true:=by simp[Region.wanted,hu oi hoi]
      rw[qD hw]at hg ⊢;obtain⟨v,hv,hk⟩:=hg;unfold mD at hv;rw[qC (Nat.lt_irrefl _),qD rfl]at hv;exact .inl (mX (fun w' hc' =>next _ w' (by unfold kP;rw[qD hl1];exact hc') hk) (hv w hp))
    · have hlc : (listed.setIfInBounds i true).getD c false = listed.getD c false := getD_set_ne false hic
      by_cases hw:Region.wanted oi (yielded ops a.tmps)=true
      · rw [qD hw] at hg ⊢
        obtain⟨v,hv,hk⟩:=hg;unfold mD at hv;left
        by_cases hlt:i<c
        · have hcl : ¬ listed.getD c false = true := fun hcl => by rw [uB hsh hbf hcl i hlt] at hl0; cases hl0
          rw[qD hlt]at hv;unfold kP at hp;rw[qC hcl]at hp;exact mW hp (fun w' hc' =>next _ w' (by unfold kP;rw[hlc,qC hcl];exact hc') hk) (hv w hp)
        · rw [qC hlt, qC hic] at hv
          exact uY (next _ w (by unfold kP at hp ⊢;rw[hlc];exact hp) hk) (hv w)
      · rw [qC hw] at hg ⊢
        exact next _ w (by unfold kP at hp ⊢;rw[hlc];exact hp) hg
theorem bS(c:Nat){id:Nat}{Q:Exit->Act->World->Prop}{a:Act}{w:World}{l:List Oper}(C1:World->Prop)(hm:P.follows .mixedOrders=true)(hB:Region.lexB .any l.toArray=true)
    (hk:((fC .any l.toArray&&oX .any l.toArray c)&&match l[c]? with|some o=>o.guard.isNone|none=>false)=true)
    (h:dI (mD P c (fun w' =>∃n,w' =w.drewN n) C1) l.toArray (fun a' =>∀w', C1 w' -> Q .normal a' w') 0 l a):(Code.region id l.toArray true).wp P Q a w:=by
 simp only[Region.lexB,qX]at hB;rw[qX,qX]at hk;obtain⟨⟨hk1,hk3⟩,hk2⟩:=hk;have hcl:c<l.length:=by {
 cases ho:l[c]? with
 | none=>rw[ho]at hk2;cases hk2
 | some o=>exact(qT.1 ho).1};have hg:∀o,l.toArray[c]? =some o->o.guard=none:=by {
 intro o ho;simp only[List.getElem?_toArray]at ho;rw[ho]at hk2;simpa using hk2};refine wp_region_any hm (pV (Q:=fun a' =>∀w', C1 w' -> Q .normal a' w') (C0:=fun w' =>∃n,w' =w.drewN n) (C1:=C1) (c:=c) (by simpa using hcl) hk1 hk3 hg (fun _ w' hw' h=>h w' hw') _ _ _ _ (by simp) ?_ ?_ ?_)
 · intro j oj _ hl;rw[dT]at hl;cases hl
 {
 unfold kP;rw[qC (by simp[hcl])];exact⟨1,rfl⟩}
 {
 have:=sH (G:=mD P c (fun w' =>∃n,w' =w.drewN n) C1) (md:=.any) hB.1 l 0 (Array.replicate l.toArray.size false) a (by simp) (by simpa using hB.2) h;simpa using this}
theorem cK{C0 C1:World->Prop}{Q:Act->Prop}{k:Nat}{o:Oper}{rest:List Oper}{a:Act}(hk:k<c)
    (h:∀K:Act->Prop,(∀a,dI (mD P c C0 C1) ops Q (k+1) rest a->K a)->if Region.wanted o (yielded ops a.tmps) then o.quiet P a C0 K else K (a.put o.dst undef)):dI (mD P c C0 C1) ops Q k (o::rest) a:=by
 have h:=h _ (fun _ h=>h);unfold dI;by_cases hw:Region.wanted o (yielded ops a.tmps)=true
 {
 rw[qD hw]at *;obtain⟨v,h1,h2⟩:=h;refine⟨v,?_,h2⟩;unfold mD;rw[qD hk];exact h1}
 · rw[qC hw]at *;exact h
theorem bL{C0 C1:World->Prop}{Q:Act->Prop}{o:Oper}{rest:List Oper}{a:Act}(hg:o.guard=none)(v:Value)
    (h0:∀w,C0 w->cR P C1 v ((execOp a.eval o).run P w)) (h:dI (mD P c C0 C1) ops Q (c+1) rest (a.put o.dst v)):dI (mD P c C0 C1) ops Q c (o::rest) a:=by
 unfold dI;rw[qD (by simp[Region.wanted,hg])];refine⟨v,?_,h⟩;unfold mD;rw[qC (Nat.lt_irrefl _),qD rfl];exact h0
def Oper.pure_(P:Program)(o:Oper)(a:Act)(next:Act->Prop):Prop:=∃v,(∀w,kO w v ((execOp a.eval o).run P w))/\next (a.put o.dst v)
theorem jL{C0 C1:World->Prop}{Q:Act->Prop}{k:Nat}{o:Oper}{rest:List Oper}{a:Act}(hk:c<k)
    (h:∀K:Act->Prop,(∀a,dI (mD P c C0 C1) ops Q (k+1) rest a->K a)->if Region.wanted o (yielded ops a.tmps) then Oper.pure_ P o a K else K (a.put o.dst undef)):dI (mD P c C0 C1) ops Q k (o::rest) a:=by
 have h:=h _ (fun _ h=>h);unfold dI;by_cases hw:Region.wanted o (yielded ops a.tmps)=true
 {
 rw[qD hw]at *;obtain⟨v,h1,h2⟩:=h;refine⟨v,?_,h2⟩;unfold mD;rw[qC (by omega),qC (by omega)];exact h1}
 · rw[qC hw]at *;exact h
theorem cL{C0 C1:World->Prop}{Q:Act->Prop}{k:Nat}{a:Act}(h:Q a):dI (mD P c C0 C1) ops Q k [] a:=h
attribute [go_sem] Oper.pure_ kO cR
end
def gP(P:Program)(cs ps:List Nat)(C:Nat->World->Prop)(i:Nat)(s:Sem Go.Next)(v:Value):Prop:=
  if i<cs.headD 0/\i∉ps then ∀w,C 0 w->Oper.quietUpon P (C 0) w v (s.run P w)
  else if i∈cs then ∀w,C (cs.idxOf i) w->cR P (C (cs.idxOf i+1)) v (s.run P w) else ∀w,kO w v (s.run P w)
section
variable {P:Program} {ops:Array Oper} {md:Region.Mode} {C:Nat->World->Prop} {cs ps:List Nat}
def rowB(md:Region.Mode)(ops:Array Oper):List Nat->Bool
  | []=>true
  | [c]=>decide (c<ops.size)
  | c::d::r=>decide (c<ops.size)&&decide (c<d)&&(sI md ops (d+1) ((Array.replicate ops.size false).setIfInBounds d true)).getD c false&&rowB md ops (d::r)
theorem wV{L:Array Bool}(hL:rI md ops L){c d:Nat}(hB:(sI md ops (d+1) ((Array.replicate ops.size false).setIfInBounds d true)).getD c false=true)(hd:L.getD d false=true):L.getD c false=true:=by
 refine lQ hL (d+1) _ ?_ c hB;intro j hj;by_cases e:d=j
 · rw[<-e];exact hd
 {
 rw[getD_set_ne false e,dT]at hj;cases hj}
def cnt(cs:List Nat)(L:Array Bool):Nat:=cs.countP (fun c=>L.getD c false)
theorem aBS:∀{cs:List Nat},rowB md ops cs=true->∀c∈cs,c<ops.size
  | [],_,c,hc=>by cases hc
  | [d],h,c,hc=>by simp[rowB]at h;simp at hc;omega
  | d::e::r,h,c,hc=>by
    simp only[rowB,qX,decide_eq_true_eq]at h;rcases qB.1 hc with rfl|hc
    · exact h.1.1.1
    · exact aBS h.2 c hc
theorem jM:∀{cs:List Nat},rowB md ops cs=true->cs.Pairwise (· < ·)
  | [],_=>.nil
  | [d],_=>by simp
  | d::e::r,h=>by
    simp only[rowB,qX,decide_eq_true_eq]at h;have ih:=jM h.2;refine List.Pairwise.cons (fun x hx=>?_) ih;rcases qB.1 hx with rfl|hx
    · exact h.1.1.2
    · exact Nat.lt_trans h.1.1.2 (List.rel_of_pairwise_cons ih hx)
theorem fU{L:Array Bool}(hL:rI md ops L):∀{cs:List Nat},rowB md ops cs=true->∀q c,cs[q]? =some c->(L.getD c false=true↔q<cnt cs L)
  | [],_,q,c,h=>by simp at h
  | [d],_,q,c,h=>by
    cases q with
    | succ q=>simp at h
    | zero=>
      simp at h;subst h;simp only[cnt,List.countP_cons,List.countP_nil];by_cases hd:L.getD d false=true<;>simp[hd]
  | d::e::r,hB,q,c,h=>by
    simp only[rowB,qX]at hB;have ih:=fU hL hB.2;by_cases hd:L.getD d false=true
    · have hcnt : cnt (d :: e :: r) L = cnt (e :: r) L + 1 := by simp only [cnt, List.countP_cons, hd]; simp
      cases q with
      | zero=>simp at h;subst h;rw[hcnt];simp[hd]
      | succ q=>
        have:=ih q c (by simpa using h);rw[hcnt,this];omega
    · have he : ¬ L.getD e false = true := fun he => hd (wV hL hB.1.2 he)
      have h0:cnt (e::r) L=0:=by
        have:=ih 0 e (by simp);apply qQ;intro hne;exact he (this.2 (by omega))
      have hcnt:cnt (d::e::r) L=0:=by
        have:cnt (d::e::r) L=cnt (e::r) L:=by simp only[cnt,List.countP_cons];simp[hd]
        rw[this,h0]
      rw[hcnt];cases q with
      | zero=>simp at h;subst h;simp[hd]
      | succ q=>
        have:=ih q c (by simpa using h);rw[h0]at this;rw[this];omega
theorem aDV{L:Array Bool}{i:Nat}(hs:i<L.size)(hl:L.getD i false=false)(hnd:cs.Nodup)(hi:i∈cs):cnt cs (L.setIfInBounds i true)=cnt cs L+1:=by
 unfold cnt;induction cs with
 | nil=>cases hi
 | cons d r ih=>{
 simp only[qO]at hnd;simp only[List.countP_cons];by_cases e:d=i
 {
 subst e;have h1:r.countP (fun c=>(L.setIfInBounds d true).getD c false)=r.countP (fun c=>L.getD c false):=by {
 apply List.countP_congr;intro c hc;rw[getD_set_ne false (show d≠c by rintro rfl;exact hnd.1 hc)]};rw[h1];have h2:(L.setIfInBounds d true).getD d false=true:=by simp[hs]
 rw[h2,hl];simp}
 {
 rw[ih hnd.2 ((qB.1 hi).resolve_left (fun h=>e h.symm)),getD_set_ne false (fun h=>e h.symm)];omega}}
theorem uZ{L:Array Bool}{i:Nat}(hi:i∉cs):cnt cs (L.setIfInBounds i true)=cnt cs L:=by
 unfold cnt;apply List.countP_congr;intro c hc;rw[getD_set_ne false (show i≠c by rintro rfl;exact hi hc)]
def allBefore' (md:Region.Mode)(ops:Array Oper)(c:Nat)(ps:List Nat):Bool:=(List.range c).all fun i=>ps.contains i||(sI md ops (c+1) ((Array.replicate ops.size false).setIfInBounds c true)).getD i false
theorem before_listed' {L:Array Bool}{c:Nat}(hL:rI md ops L)(hB:allBefore' md ops c ps=true)(hc:L.getD c false=true):∀i,i<c/\i∉ps->L.getD i false=true:=by
 intro i hi;have h1:=List.all_eq_true.1 hB i (by simpa using hi.1);simp only[Bool.or_eq_true,List.contains_iff_mem]at h1;refine lQ hL (c+1) _ ?_ i (h1.resolve_left hi.2);intro j hj;by_cases e:c=j
 · rw[<-e];exact hc
 {
 rw[getD_set_ne false e,dT]at hj;cases hj}
theorem wW(hrow:rowB md ops cs=true)(hne:cs≠[])(hb:fC md ops=true)(hbf:allBefore' md ops (cs.headD 0) ps=true)(hu:∀c∈cs,∀o,ops[c]? =some o->o.guard=none){Q:Act->Prop}{Q' :Exit->Act->World->Prop}(hQ:∀a w,C cs.length w->Q a->Q' .normal a w):∀(fuel:Nat) (listed:Array Bool) (a:Act) (w:World),listed.size=ops.size ->
    rI md ops listed->C (cnt cs listed) w->yQ (gP P cs ps C) md ops Q fuel listed a->wpAny P md ops Q' fuel listed a w:=by
 have hend:∀listed:Array Bool,listed.size=ops.size->Region.ready md ops listed=[]->cnt cs listed=cs.length:=by {
 intro listed hs h0;unfold cnt;rw[List.countP_eq_length];intro c hc;exact iT hs hb h0 c (aBS hrow c hc)};have hnd:cs.Nodup:=(jM hrow).imp (fun h=>Nat.ne_of_lt h);intro fuel;induction fuel with
 | zero=>{
 intro listed a w hs _ hp h;exact⟨h.1,hQ _ _ (by rw[hend listed hs h.1]at hp;exact hp) h.2⟩}
 | succ fuel ih=>{
 intro listed a w hs hsh hp h;refine⟨fun h0=>hQ _ _ (by rw[hend listed hs h0]at hp;exact hp) (h.1 h0),fun i hi=>?_⟩;have hg:=h.2 i hi;obtain⟨hun,oi,hoi,_⟩:=mem_ready.1 hi;have hil:i<ops.size:=(qM.1 hoi).1;have hs' :(listed.setIfInBounds i true).size=ops.size:=by simp[hs]
 have hl0:listed.getD i false=false:=by simp[hs,hil]at hun ⊢;exact hun
 have next:∀a' w', C (cnt cs (listed.setIfInBounds i true)) w' -> yQ (gP P cs ps C) md ops Q fuel (listed.setIfInBounds i true) a' -> wpAny P md ops Q' fuel (listed.setIfInBounds i true) a' w' :=
   fun a' w' hp' hg' =>ih _ a' w' hs' (hsh.set hi) hp' hg'
 unfold gOp at hg;unfold wpOp;simp only[hoi]at hg ⊢;by_cases hmem:i∈cs
 {
 have hcs:=aDV (L:=listed) (by omega) hl0 hnd hmem;have hhead:¬i<cs.headD 0:=by {
 cases hcc:cs with
 | nil=>exact absurd hcc hne
 | cons d r=>{
 rw[hcc]at hmem;have:=jM hrow;rw[hcc]at this;rcases qB.1 hmem with rfl|hm
 · simp
 · have:=List.rel_of_pairwise_cons this hm;simp;omega}};have hidx:cs.idxOf i=cnt cs listed:=by {
 have hlt:=List.idxOf_lt_length_of_mem hmem;have hget:cs[cs.idxOf i]? =some i:=by rw[qL hlt,List.getElem_idxOf]
 have h1:=fU hsh hrow _ _ hget;rw[hl0]at h1;have hge:cnt cs listed<=cs.idxOf i:=by {
 apply qQ;intro hx;have:=h1.2 (by omega);cases this};have h2:=fU (hsh.set hi) hrow _ _ hget;rw[hcs]at h2;have h3:(listed.setIfInBounds i true).getD i false=true:=by simp[hs,hil]
 have:=h2.1 h3;omega};have hw:Region.wanted oi (yielded ops a.tmps)=true:=by simp[Region.wanted,hu i hmem oi hoi]
 rw[qD hw]at hg ⊢;obtain⟨v,hv,hk⟩:=hg;unfold gP at hv;rw[qC (fun hx=>hhead hx.1),qD hmem,hidx]at hv;exact .inl (mX (fun w' hc' =>next _ w' (by rw[hcs];exact hc') hk) (hv w hp))}
 {
 have hcs:=uZ (L:=listed) hmem;by_cases hw:Region.wanted oi (yielded ops a.tmps)=true
 {
 rw[qD hw]at hg ⊢;obtain⟨v,hv,hk⟩:=hg;unfold gP at hv;left
 by_cases hlt:i<cs.headD 0/\i∉ps
 {
 have h0:cnt cs listed=0:=by {
 cases hcc:cs with
 | nil=>exact absurd hcc hne
 | cons d r=>{
 apply qQ;intro hx;have h1:=(fU hsh hrow 0 d (by rw[hcc];rfl)).2 (by rw[hcc];omega);rw[hcc]at hlt hbf;rw[before_listed' hsh hbf h1 i hlt]at hl0;cases hl0}};rw[qD hlt]at hv;rw[h0]at hp;exact mW hp (fun w' hc' =>next _ w' (by rw[hcs,h0];exact hc') hk) (hv w hp)}
 {
 rw[qC hlt,qC hmem]at hv;exact uY (next _ w (by rw[hcs];exact hp) hk) (hv w)}}
 {
 rw[qC hw]at hg ⊢;exact next _ w (by rw[hcs];exact hp) hg}}}
theorem kQ(cs ps:List Nat){id:Nat}{Q:Exit->Act->World->Prop}{a:Act}{w:World}{l:List Oper}(C:Nat->World->Prop)(hC:∀w', C 0 w' ↔ ∃n,w' =w.drewN n)(hm:P.follows .mixedOrders=true)(hB:Region.lexB .any l.toArray=true)
    (hk:(((fC .any l.toArray&&allBefore' .any l.toArray (cs.headD 0) ps)&&(rowB .any l.toArray cs&&!cs.isEmpty))&&cs.all fun c=>match l[c]? with|some o=>o.guard.isNone|none=>false)=true)
    (h:dI (gP P cs ps C) l.toArray (fun a' =>∀w', C cs.length w' -> Q .normal a' w') 0 l a):(Code.region id l.toArray true).wp P Q a w:=by
 simp only[Region.lexB,qX]at hB;rw[qX,qX,qX,qX]at hk;obtain⟨⟨⟨hk1,hk3⟩,hk4,hk5⟩,hk2⟩:=hk;have hne:cs≠[]:=by rintro rfl;simp at hk5
 have hg:∀c∈cs,∀o,l.toArray[c]? =some o->o.guard=none:=by {
 intro c hc o ho;have h1:=List.all_eq_true.1 hk2 c hc;simp only[List.getElem?_toArray]at ho;rw[ho]at h1;simpa using h1};refine wp_region_any hm (wW (Q:=fun a' =>∀w', C cs.length w' -> Q .normal a' w') (C:=C) (cs:=cs) (ps:=ps) hk4 hne hk1 hk3 hg (fun _ w' hw' h=>h w' hw') _ _ _ _ (by simp) ?_ ?_ ?_)
 · intro j oj _ hl;rw[dT]at hl;cases hl
 {
 have:cnt cs (Array.replicate l.toArray.size false)=0:=by unfold cnt;rw[List.countP_eq_zero];intro c _;rw[dT];simp
 rw[this];exact(hC _).2 ⟨1,rfl⟩}
 {
 have:=sH (G:=gP P cs ps C) (md:=.any) hB.1 l 0 (Array.replicate l.toArray.size false) a (by simp) (by simpa using hB.2) h;simpa using this}
theorem gW{Q:Act->Prop}{k:Nat}{o:Oper}{rest:List Oper}{a:Act}(hk:decide (k<cs.headD 0/\k∉ps)=true)
    (h:∀K:Act->Prop,(∀a,dI (gP P cs ps C) ops Q (k+1) rest a->K a)->if Region.wanted o (yielded ops a.tmps) then o.quiet P a (C 0) K else K (a.put o.dst undef)):dI (gP P cs ps C) ops Q k (o::rest) a:=by
 have h:=h _ (fun _ h=>h);unfold dI;by_cases hw:Region.wanted o (yielded ops a.tmps)=true
 {
 rw[qD hw]at *;obtain⟨v,h1,h2⟩:=h;refine⟨v,?_,h2⟩;unfold gP;rw[qD (of_decide_eq_true hk)];exact h1}
 · rw[qC hw]at *;exact h
theorem fD{Q:Act->Prop}{k q:Nat}{o:Oper}{rest:List Oper}{a:Act}(hk:(decide (¬(k<cs.headD 0/\k∉ps))&&decide (k∈cs)&&decide (cs.idxOf k=q))=true)(hg:o.guard=none)(v:Value)
    (h0:∀w,C q w->cR P (C (q+1)) v ((execOp a.eval o).run P w)) (h:dI (gP P cs ps C) ops Q (k+1) rest (a.put o.dst v)):dI (gP P cs ps C) ops Q k (o::rest) a:=by
 simp only[qX,decide_eq_true_eq]at hk;unfold dI;rw[qD (by simp[Region.wanted,hg])];refine⟨v,?_,h⟩;unfold gP;rw[qC hk.1.1,qD hk.1.2,hk.2];exact h0
theorem fV{Q:Act->Prop}{k:Nat}{o:Oper}{rest:List Oper}{a:Act}(hk:(decide (¬(k<cs.headD 0/\k∉ps))&&decide (k∉cs))=true)
    (h:∀K:Act->Prop,(∀a,dI (gP P cs ps C) ops Q (k+1) rest a->K a)->if Region.wanted o (yielded ops a.tmps) then Oper.pure_ P o a K else K (a.put o.dst undef)):dI (gP P cs ps C) ops Q k (o::rest) a:=by
 simp only[qX,decide_eq_true_eq]at hk;have h:=h _ (fun _ h=>h);unfold dI;by_cases hw:Region.wanted o (yielded ops a.tmps)=true
 {
 rw[qD hw]at *;obtain⟨v,h1,h2⟩:=h;refine⟨v,?_,h2⟩;unfold gP;rw[qC hk.1,qC hk.2];exact h1}
 · rw[qC hw]at *;exact h
theorem oY{Q:Act->Prop}{k:Nat}{a:Act}(h:Q a):dI (gP P cs ps C) ops Q k [] a:=h
end
section
variable {P:Program} {ops:Array Oper} {C:World->Prop}
theorem wX{id:Nat}{Q:Exit->Act->World->Prop}{a:Act}{w:World}{l:List Oper}(C:World->Prop)(hm:P.follows .mixedOrders=true)(hB:Region.lexB .any l.toArray=true)(hC:C w.drew)
    (h:wpQuiet P l.toArray C (fun a' =>∀w', C w' -> Q .normal a' w') l a):(Code.region id l.toArray true).wp P Q a w:=
  wp_region_quiet hm hB hC (by simpa using h)
theorem aBT{Q:Act->Prop}{o:Oper}{rest:List Oper}{a:Act}
    (h:∀K:Act->Prop,(∀a,wpQuiet P ops C Q rest a->K a)->if Region.wanted o (yielded ops a.tmps) then Oper.pure_ P o a K else K (a.put o.dst undef)):wpQuiet P ops C Q (o::rest) a:=by
 have h:=h _ (fun _ h=>h);unfold wpQuiet;by_cases hw:Region.wanted o (yielded ops a.tmps)=true
 {
 rw[qD hw]at *;obtain⟨v,h1,h2⟩:=h;refine⟨v,fun w _=>?_,h2⟩;have:=h1 w;unfold Oper.quietAt;revert this;generalize (execOp a.eval o).run P w=r;intro this;cases r with
 | halt x w' =>exact this.elim
 | ok x w' =>{
 cases x with
 | value u=>exact⟨this.1,this.2⟩
 | skip=>exact⟨this.1,this.2⟩
 | _=>exact this.elim}}
 · rw[qC hw]at *;exact h
structure CW (P:Program) (ops:Array Oper) (C:World->Prop) (Q:Act->Prop) (l:List Oper) (a:Act):Prop where
  out:wpQuiet P ops C Q l a
theorem eH{id:Nat}{Q:Exit->Act->World->Prop}{a:Act}{w:World}{l:List Oper}(C:World->Prop)(hm:P.follows .mixedOrders=true)(hB:Region.lexB .any l.toArray=true)(hC:C w.drew)
    (h:CW P l.toArray C (fun a' =>∀w', C w' -> Q .normal a' w') l a):(Code.region id l.toArray true).wp P Q a w:=wX C hm hB hC h.out
theorem rM{Q:Act->Prop}{o:Oper}{rest:List Oper}{a:Act}(hw:Region.wanted o (yielded ops a.tmps)=false)(h:CW P ops C Q rest (a.put o.dst undef)):CW P ops C Q (o::rest) a:=by
 refine⟨?_⟩;unfold wpQuiet;rw[qC (by rw[hw];exact Bool.false_ne_true)];exact h.out
theorem aJ{Q:Act->Prop}{o:Oper}{rest:List Oper}{a:Act}(hw:Region.wanted o (yielded ops a.tmps)=true)
    (h:∀K:Act->Prop,Hid (∀a,CW P ops C Q rest a->K a)->Oper.pure_ P o a K):CW P ops C Q (o::rest) a:=
  ⟨aBT fun K hK=>by rw[qD hw];exact h K (qA (fun a h=>hK a h.out))⟩
theorem bO{Q:Act->Prop}{o:Oper}{rest:List Oper}{a:Act}(hw:Region.wanted o (yielded ops a.tmps)=true)(v:Value)
    (h0:∀w,C w->Oper.quietUpon P C w v ((execOp a.eval o).run P w)) (h:CW P ops C Q rest (a.put o.dst v)):CW P ops C Q (o::rest) a:=by
 refine⟨?_⟩;unfold wpQuiet;rw[qD hw];exact⟨v,h0,h.out⟩
theorem jN{Q:Act->Prop}{a:Act}(h:Q a):CW P ops C Q [] a:=⟨h⟩
end
theorem mL{w:World}{base:Nat}{e:TypeId}{size:Nat}{v:Value}{n:Nat}{xs:List Value}(h:w.ownsRow base e size v n xs):w.ownsRow 0 e size v n xs:=
  ⟨h.1,h.2.elim .inl (fun⟨g,cap,cur,k1,_,k3⟩=>.inr ⟨g,cap,cur,k1,qS _,k3⟩)⟩
theorem aHT{P:Program}{w:World}{o:Oper}{a:Act}{K:Act->World->Prop}{Q:Exit->Act->World->Prop}(s x:Operand)(t:TypeId)
    (ho:o.op=.call { callee:=.builtin .append,args:=#[s,x],argTypes:=#[t,t] })
    (e:TypeId) (z:Value) (size bytes:Nat) (ht:P.underlying t=some (.slice e)) (hinfo:(P.info? e).map (fun i=>(i.zero,i.size,i.bytes))=some (some z,size,bytes)) (hzs:z.cells.size=size) (hsz:0<size)
    (v:Value) (n:Nat) (xs:List Value) (hs:a.eval s=v) (hown:w.ownsRow 0 e size v n xs)
    (b:Nat) (et:TypeId) (news:List Value) (hx:a.eval x=.slice (some ⟨b,0,none⟩) 1 1) (hb:Blk w b et news) (hl:news.length=size) (h1:∀u∈news,u.oneCell' =true)
    (hn:n+1<=4294967296) (hby:bytes<=1024)
    (h:∀g cap w', w'.ownsRow 0 e size (.slice (some ⟨g,0,none⟩) (n+1) cap) (n+1) (xs++news)->w.grownBy w' v.ownBlock->(v.ownBlock=some g∨w.heap.size<=g) ->
      K (a.put o.dst (.slice (some ⟨g,0,none⟩) (n+1) cap)) w'):o.wp P a w K Q:=by
 obtain⟨i0,hi,hz0,hz1,hz2⟩:=info_parts hinfo;have hbb:(n+1)*bytes<=140737488355328:=by {
 have:(n+1)*bytes<=4294967296*1024:=Nat.mul_le_mul hn hby;omega};obtain⟨g,cap,w', hr,h2,h3,h4⟩:=wL (P:=P) w t o.type e i0 z size bytes ht hi hz0 hz1 hz2 hzs hsz v n xs hown ⟨b,0,none⟩ 1 1 news (by rw[Nat.one_mul];exact hl) (fun j u hj=>by rw[Addr.add_lit,Nat.zero_add,hb.cell];exact hj) h1 (by decide) (by unfold maxLen;omega) hbb;unfold Oper.wp execOp;simp only[ho,resolve,invoke,builtin,Sem.run_bind,Sem.run_pure,Result.andThen_ok,List.map_toArray,List.map_cons,List.map_nil,hs,hx,hr];exact h g cap w' h2 h3 h4
theorem iH{P:Program}{w:World}{ops:Array Oper}{rest:List Oper}{o:Oper}{a:Act}{Q:Exit->Act->World->Prop}(hgd:o.guard=none)(s x:Operand)(t:TypeId)
    (ho:o.op=.call { callee:=.builtin .append,args:=#[s,x],argTypes:=#[t,t] })
    (e:TypeId) (z:Value) (size bytes:Nat) (ht:P.underlying t=some (.slice e)) (hinfo:(P.info? e).map (fun i=>(i.zero,i.size,i.bytes))=some (some z,size,bytes)) (hzs:z.cells.size=size) (hsz:0<size)
    (v:Value) (n:Nat) (xs:List Value) (hs:a.eval s=v) (hown:w.ownsRow 0 e size v n xs)
    (b:Nat) (et:TypeId) (news:List Value) (hx:a.eval x=.slice (some ⟨b,0,none⟩) 1 1) (hb:Blk w b et news) (hl:news.length=size) (h1:∀u∈news,u.oneCell' =true)
    (hn:n+1<=4294967296) (hby:bytes<=1024)
    (h:∀g cap w', w'.ownsRow 0 e size (.slice (some ⟨g,0,none⟩) (n+1) cap) (n+1) (xs++news)->w.grownBy w' v.ownBlock->(v.ownBlock=some g∨w.heap.size<=g) ->
      wpList P ops Q rest (a.put o.dst (.slice (some ⟨g,0,none⟩) (n+1) cap)) w'):wpList P ops Q (o::rest) a w:=
  wpList_plain hgd fun _ hK=>aHT s x t ho e z size bytes ht hinfo hzs hsz v n xs hs hown b et news hx hb hl h1 hn hby fun g cap w' h2 h3 h4=>hK _ _ (h g cap w' h2 h3 h4)
theorem vA{P:Program}{w:World}{ops:Array Oper}{o:Oper}{a:Act}{K:Act->World->Prop}{Q:Exit->Act->World->Prop}{E:Prop}(hgd:o.guard=none)(s x:Operand)(t:TypeId)
    (ho:o.op=.call { callee:=.builtin .append,args:=#[s,x],argTypes:=#[t,t] })
    (e:TypeId) (z:Value) (size bytes:Nat) (ht:P.underlying t=some (.slice e)) (hinfo:(P.info? e).map (fun i=>(i.zero,i.size,i.bytes))=some (some z,size,bytes)) (hzs:z.cells.size=size) (hsz:0<size)
    (v:Value) (n:Nat) (xs:List Value) (hs:a.eval s=v) (hown:w.ownsRow 0 e size v n xs)
    (b:Nat) (et:TypeId) (news:List Value) (hx:a.eval x=.slice (some ⟨b,0,none⟩) 1 1) (hb:Blk w b et news) (hl:news.length=size) (h1:∀u∈news,u.oneCell' =true)
    (hn:n+1<=4294967296) (hby:bytes<=1024)
    (h:∀g cap w', w'.ownsRow 0 e size (.slice (some ⟨g,0,none⟩) (n+1) cap) (n+1) (xs++news)->w.grownBy w' v.ownBlock->(v.ownBlock=some g∨w.heap.size<=g) ->
      K (a.put o.dst (.slice (some ⟨g,0,none⟩) (n+1) cap)) w'):
    if Region.wanted o (yielded ops a.tmps)=true then Oper.wp P o a w K Q else E:=by
 rw[qD (by simp[Region.wanted,hgd])];exact aHT s x t ho e z size bytes ht hinfo hzs hsz v n xs hs hown b et news hx hb hl h1 hn hby h
theorem aBU{P:Program}(w:World)(t ty e:TypeId)(i:TypeInfo)(z:Value)(size bytes:Nat)(ht:P.underlying t=some (.slice e))(hi:P.info? e=some i)(hz:i.zero=some z)
    (hsize:i.size=size) (hby:i.bytes=bytes) (hzs:z.cells.size=size) (hsz:0<size)
    (g:Nat) (hg:Blk w g e []) (x:Value) (m:Nat) (news:List Value) (hx:w.ownsRow 0 e size x m news) (h1:∀u∈news,u.oneCell' =true) (h63:m<=maxLen) (hbytes:m*bytes<=140737488355328):
    ∃v' w', (Builtin.append_ #[t,t] ty #[.slice (some ⟨g,0,none⟩) 0 0,x]).run P w=.ok v' w' /\ w'.ownsRow 0 e size v' m news/\Fr [g] w w' /\ ∀q,v'.ownBlock=some q->q=g∨w.heap.size<=q:=by
 have hn:w.ownsRow g e size (.slice (some ⟨g,0,none⟩) 0 0) 0 []:=⟨by simp,.inr ⟨g,0,#[],rfl,qK _,hg,qK _,qS _,by simp,by simp⟩⟩;have hxs:=hx.1;rcases hx.2 with⟨rfl,rfl⟩|⟨gx,cap,cur,rfl,_,hgx,hnc,hcm,hcs,htake⟩
 {
 have hnil:news=[]:=List.eq_nil_of_length_eq_zero (by simpa using hxs);subst hnil;refine⟨_,_,run_append_owned_none w g t ty e i size ht hi _ 0 [] hn,?_,Fr.refl _ _,fun q e=>?_⟩
 · exact⟨by simp,.inr ⟨g,0,#[],rfl,qS _,hg,qK _,qS _,by simp,by simp⟩⟩
 · simp[Value.ownBlock]at e;exact .inl e.symm}
 {
 obtain⟨v', w', hr,h2,h3,_,h5⟩:=run_append_own_at (P:=P) w g t ty e i z size bytes ht hi hz hsize hby hzs hsz (.slice (some ⟨g,0,none⟩) 0 0) 0 [] hn ⟨gx,0,none⟩ m cap news hxs (hx.cells (g:=gx) rfl) h1 (by simpa using h63) (by simpa using hbytes) (Nat.le_of_lt hg.lt);simp only[Nat.zero_add,List.nil_append]at h2;refine⟨v', w', hr,mL h2,⟨h3.os,h3.tape,h3.output,h3.size,fun k hk hn=>h3.block k hk (fun e=>hn (by simp[Value.ownBlock]at e;simp[e]))⟩,fun q hq=>?_⟩;rcases h5 with h5|h5
 · rw[hq]at h5;simp[Value.ownBlock]at h5;exact .inl h5
 · rw[hq]at h5;simp at h5;exact .inr (by omega)}
theorem aFQ{P:Program}{w:World}{o:Oper}{a:Act}{K:Act->World->Prop}{Q:Exit->Act->World->Prop}(s x:Operand)(t:TypeId)
    (ho:o.op=.call { callee:=.builtin .append,args:=#[s,x],argTypes:=#[t,t] })
    (e:TypeId) (z:Value) (size bytes:Nat) (ht:P.underlying t=some (.slice e)) (hinfo:(P.info? e).map (fun i=>(i.zero,i.size,i.bytes))=some (some z,size,bytes)) (hzs:z.cells.size=size) (hsz:0<size)
    (g:Nat) (hs:a.eval s=.slice (some ⟨g,0,none⟩) 0 0) (hg:Blk w g e []) (v:Value) (m:Nat) (news:List Value) (hv:a.eval x=v) (hx:w.ownsRow 0 e size v m news) (h1:∀u∈news,u.oneCell' =true) (h63:m<=maxLen) (hbytes:m*bytes<=140737488355328)
    (h:∀v' w', w'.ownsRow 0 e size v' m news->Fr [g] w w' -> (∀q,v'.ownBlock=some q->q=g∨w.heap.size<=q)->K (a.put o.dst v') w'):o.wp P a w K Q:=by
 obtain⟨i0,hi,hz0,hz1,hz2⟩:=info_parts hinfo;obtain⟨v', w', hr,h2,h3,h4⟩:=aBU (P:=P) w t o.type e i0 z size bytes ht hi hz0 hz1 hz2 hzs hsz g hg v m news hx h1 h63 hbytes;unfold Oper.wp execOp;simp only[ho,resolve,invoke,builtin,Sem.run_bind,Sem.run_pure,Result.andThen_ok,List.map_toArray,List.map_cons,List.map_nil,hs,hv,hr];exact h v' w' h2 h3 h4
def lvC(e:Lv):List Value:=[.int .i64 e.slot,.int .u64 e.seq,.int .u64 e.u,.int .u64 e.v,.int .i64 e.wt,.int .i64 e.t,.int .i64 e.x]
abbrev lvA(e:Lv):Value:=.agg #[.int .i64 e.slot,.int .u64 e.seq,.int .u64 e.u,.int .u64 e.v,.int .i64 e.wt,.int .i64 e.t,.int .i64 e.x]
def sJ:Value:=.agg #[.int .i64 0,.int .u64 0,.int .u64 0,.int .u64 0,.int .i64 0,.int .i64 0,.int .i64 0]
theorem Tryz.info74:(Tryz.prog.info? 74).map (fun i=>(i.zero,i.size,i.bytes))=some (some sJ,7,56):=by kernel_rfl
def rowV(l:List Lv):List Value:=l.flatMap lvC
theorem vB(l:List Lv)(e:Lv):rowV (l++[e])=rowV l++lvC e:=by simp[rowV]
theorem aHU(l m:List Lv):rowV (l++m)=rowV l++rowV m:=by simp[rowV]
theorem sK(l:List Lv):(rowV l).length=l.length*7:=by
 induction l with
 | nil=>rfl
 | cons a r ih=>simp only[rowV,List.flatMap_cons,zF,qZ]at *;rw[ih];simp[lvC];omega
theorem wY:∀{l:List Lv} {i:Nat} (hi:i<l.length) (j:Nat),j<7->(rowV l)[i*7+j]? =(lvC l[i])[j]?
  | e::l,0,_,j,hj=>by
    show(lvC e++rowV l)[0*7+j]? =(lvC e)[j]?
    rw[List.getElem?_append_left (by simp[lvC];omega)];congr 1;omega
  | e::l,i+1,hi,j,hj=>by
    show(lvC e++rowV l)[(i+1)*7+j]? =_
    rw[List.getElem?_append_right (by simp[lvC];omega)];have:=wY (l:=l) (i:=i) (by simpa using hi) j hj;rw[show(i+1)*7+j-(lvC e).length=i*7+j by simp[lvC];omega,this];simp
theorem yR(l:List Lv):∀u∈rowV l,u.oneCell' =true:=by
 intro u hu;obtain⟨e,_,he⟩:=List.mem_flatMap.1 hu;simp[lvC]at he;rcases he with rfl|rfl|rfl|rfl|rfl|rfl|rfl<;>rfl
theorem cH{w:World}{base:Nat}{e:TypeId}{size:Nat}{v:Value}{n:Nat}{xs:List Value}(h:w.ownsRow base e size v n xs){q:Nat}(hq:v.ownBlock=some q):q<w.heap.size:=by
 rcases h.2 with⟨rfl,_⟩|⟨g,cap,cur,rfl,_,hh,_⟩
 · cases hq
 · simp[Value.ownBlock]at hq;subst hq;exact(qM.1 hh).1
def bN(w:World)(v:Value)(l:List Lv):Prop:=w.ownsRow 0 74 7 v l.length (rowV l)
section
variable {w w' :World} {v:Value} {l:List Lv}
theorem bN.fr{S:List Nat}(h:bN w v l)(hf:Fr S w w')(hs:∀q,v.ownBlock=some q->q∉S):bN w' v l:=
  aU h (fun q hq=>hf.keep q (cH h hq) (hs q hq))
theorem bN.fr0(h:bN w v l)(hf:Fr [] w w'):bN w' v l:=h.fr hf (by simp)
theorem bN.slice(h:bN w v l):∃a cap,v=.slice a l.length cap:=bH h
theorem bN.nil(w:World):bN w (.slice none 0 0) []:=⟨rfl,.inl ⟨rfl,rfl⟩⟩
theorem bN.lt(h:bN w v l){q:Nat}(hq:v.ownBlock=some q):q<w.heap.size:=cH h hq
def aHV(w:World)(b o:Nat)(e:Lv):Prop:=
  w.cell? ⟨b,o,none⟩=some (.int .i64 e.slot)/\w.cell? ⟨b,o+1,none⟩=some (.int .u64 e.seq)/\w.cell? ⟨b,o+2,none⟩=some (.int .u64 e.u)/\w.cell? ⟨b,o+3,none⟩=some (.int .u64 e.v) /\
    w.cell? ⟨b,o+4,none⟩=some (.int .i64 e.wt)/\w.cell? ⟨b,o+5,none⟩=some (.int .i64 e.t)/\w.cell? ⟨b,o+6,none⟩=some (.int .i64 e.x)
theorem bN.at(h:bN w v l){i:Nat}(hi:i<l.length):∃b cap,v=.slice (some ⟨b,0,none⟩) l.length cap/\l.length<=cap/\b<w.heap.size/\(∀j,w.frozen? ⟨b,j,none⟩=false)/\aHV w b (i*7) l[i]:=by
 obtain⟨h1,h2⟩:=h;rcases h2 with⟨rfl,h0⟩|⟨g,cap,cur,rfl,_,hh,hn,hm,hsz,hxs⟩
 · omega
 {
 have key:∀j,j<7->w.cell? ⟨g,i*7+j,none⟩=(lvC l[i])[j]? :=by {
 intro j hj;rw[<-wY hi j hj,<-hxs,List.getElem?_take,qD (by omega)];simp[World.cell?,hh]};exact⟨g,cap,rfl,hn,(qM.1 hh).1,fun j=>by simp[World.frozen?,hh],key 0 (by omega),key 1 (by omega),key 2 (by omega),key 3 (by omega),key 4 (by omega),key 5 (by omega),key 6 (by omega)⟩}
theorem Blk.lvAt{b:Nat}{t:TypeId}{e:Lv}(h:Blk w b t (lvC e)):aHV w b 0 e:=⟨h.cell 0,h.cell 1,h.cell 2,h.cell 3,h.cell 4,h.cell 5,h.cell 6⟩
end
def put7(w:World)(b o:Nat)(e:Lv):World:=
  ((((((w.setCell ⟨b,o,none⟩ (.int .i64 e.slot)).setCell ⟨b,o+1,none⟩ (.int .u64 e.seq)).setCell ⟨b,o+2,none⟩ (.int .u64 e.u)).setCell ⟨b,o+3,none⟩ (.int .u64 e.v)).setCell ⟨b,o+4,none⟩ (.int .i64 e.wt)).setCell ⟨b,o+5,none⟩ (.int .i64 e.t)).setCell ⟨b,o+6,none⟩ (.int .i64 e.x)
theorem yS:∀{l:List Lv} {i:Nat} (_:i<l.length) (e:Lv),
    ((((((((rowV l).set (i*7) (.int .i64 e.slot)).set (i*7+1) (.int .u64 e.seq)).set (i*7+2) (.int .u64 e.u)).set (i*7+3) (.int .u64 e.v)).set (i*7+4) (.int .i64 e.wt)).set (i*7+5) (.int .i64 e.t)).set (i*7+6) (.int .i64 e.x))=rowV (l.set i e)
  | a::l,0,_,e=>by simp[rowV,lvC,qU]
  | a::l,i+1,hi,e=>by
    have ih:=yS (l:=l) (i:=i) (by simpa using hi) e;have hs:∀(xs:List Value) (k:Nat) (u:Value),(lvC a++xs).set (k+7) u=lvC a++xs.set k u:=fun xs k u=>by
      rw[List.set_append_right _ _ (by simp[lvC])];simp[lvC]
    show((((((((lvC a++rowV l).set _ _).set _ _).set _ _).set _ _).set _ _).set _ _).set _ _)=lvC a++rowV (l.set i e)
    rw[<-ih,show(i+1)*7=i*7+7 by omega,hs,show i*7+7+1=i*7+1+7 by omega,hs,show i*7+7+2=i*7+2+7 by omega,hs,show i*7+7+3=i*7+3+7 by omega,hs,
      show i*7+7+4=i*7+4+7 by omega,hs,show i*7+7+5=i*7+5+7 by omega,hs,show i*7+7+6=i*7+6+7 by omega,hs]
theorem cU{w:World}{e:TypeId}{size g n cap i:Nat}{xs:List Value}(h:w.ownsRow 0 e size (.slice (some ⟨g,0,none⟩) n cap) n xs)(u:Value):
    (w.setCell ⟨g,i,none⟩ u).ownsRow 0 e size (.slice (some ⟨g,0,none⟩) n cap) n (xs.set i u):=by
 obtain⟨h1,h2⟩:=h;refine⟨by simpa using h1,?_⟩;rcases h2 with⟨h2,_⟩|⟨g', cap', cur,e1,_,hh,hn,hm,hsz,hxs⟩
 · cases h2
 {
 simp only[qP,qI,Addr.mk.injEq,and_true,true_and]at e1;obtain⟨rfl,rfl⟩:=e1;refine .inr ⟨g,cap,cur.setIfInBounds i u,rfl,qS _,?_,hn,hm,by simpa using hsz,?_⟩
 {
 simp only[World.setCell,Array.getElem?_modify];simp[hh]}
 · rw[<-hxs,Array.toList_setIfInBounds,List.take_set]}
theorem bN.set{w:World}{g cap:Nat}{l:List Lv}(h:bN w (.slice (some ⟨g,0,none⟩) l.length cap) l){i:Nat}(hi:i<l.length)(e:Lv):bN (put7 w g (i*7) e) (.slice (some ⟨g,0,none⟩) l.length cap) (l.set i e):=by
 unfold bN at *;rw[List.length_set,<-yS hi];exact cU (cU (cU (cU (cU (cU (cU h _) _) _) _) _) _) _
theorem Fr.put7{S:List Nat}{w w' :World}(h:Fr S w w')(b o:Nat)(e:Lv)(hb:b∈S∨w.heap.size<=b):Fr S w (put7 w' b o e):=
  ((((((h.setCell _ _ hb).setCell _ _ hb).setCell _ _ hb).setCell _ _ hb).setCell _ _ hb).setCell _ _ hb).setCell _ _ hb
def gR(w:World)(v:Value)(p:List Nat):Prop:=w.ownsRow 0 3 1 v p.length (oV p)
section
variable {w w' :World} {v:Value} {p:List Nat}
theorem gR.fr{S:List Nat}(h:gR w v p)(hf:Fr S w w')(hs:∀q,v.ownBlock=some q->q∉S):gR w' v p:=
  aU h (fun q hq=>hf.keep q (cH h hq) (hs q hq))
theorem gR.fr0(h:gR w v p)(hf:Fr [] w w'):gR w' v p:=h.fr hf (by simp)
theorem gR.slice(h:gR w v p):∃a cap,v=.slice a p.length cap:=bH h
theorem gR.nil(w:World):gR w (.slice none 0 0) []:=⟨rfl,.inl ⟨rfl,rfl⟩⟩
theorem gR.lt(h:gR w v p){q:Nat}(hq:v.ownBlock=some q):q<w.heap.size:=cH h hq
theorem gR.at(h:gR w v p){i:Nat}(hi:i<p.length):∃b cap,v=.slice (some ⟨b,0,none⟩) p.length cap/\b<w.heap.size/\w.cell? ⟨b,i,none⟩=some (.int .i64 (p[i]'hi)):=by
 obtain⟨b,cap,e,_,h2,h3,_⟩:=dK h hi;exact⟨b,cap,e,h2,h3.trans (by simp[oV,hi])⟩
end
def okS:Value->Bool
  | .slice _ _ _=>true
  | _=>false
abbrev iL:Value:=.slice none 0 0
def oZ(f:Nat->List Nat)(a:Nat)(l:List Nat):Nat->List Nat:=fun x=>if x=a then l else f x
theorem pA(f:Nat->List Nat)(a:Nat)(l:List Nat):oZ f a l a=l:=by simp[oZ]
theorem fW{f:Nat->List Nat}{a x:Nat}{l:List Nat}(h:x≠a):oZ f a l x=f x:=by simp[oZ,h]
abbrev U64:Nat:=18446744073709551616
structure wZ (w:World) (mb:Nat) (iv:Int->Option Value) (f:Nat->List Nat) (n:Nat) (lb:List Nat):Prop where
  im:fH Tryz.prog 36 .u64 okS w mb iv n
  nm:mb∉lb
  lt:∀b∈lb,b<w.heap.size
  row:∀id:Nat,id<U64->((iv id).isSome=true↔f id≠[])/\gR w ((iv id).getD iL) (f id)/\∀q,((iv id).getD iL).ownBlock=some q->q∈lb
  inj:∀(id id' q:Nat),id<U64->id' < U64->((iv id).getD iL).ownBlock=some q->((iv id').getD iL).ownBlock=some q->id=id'
def nS(w:World)(mb:Nat)(f:Nat->List Nat)(n:Nat)(lb:List Nat):Prop:=∃iv,wZ w mb iv f n lb
theorem wZ.fr{w w' :World}{mb n:Nat}{iv:Int->Option Value}{f:Nat->List Nat}{lb S:List Nat}(h:wZ w mb iv f n lb)(hf:Fr S w w')(h1:mb∉S)(h2:∀b∈lb,b∉S):wZ w' mb iv f n lb:=
  ⟨h.im.same (hf.keep mb h.im.lt h1),h.nm,fun b hb=>Nat.lt_of_lt_of_le (h.lt b hb) hf.size,fun id hid=>⟨(h.row id hid).1,(h.row id hid).2.1.fr hf (fun q hq=>h2 q ((h.row id hid).2.2 q hq)),(h.row id hid).2.2⟩,h.inj⟩
theorem wZ.set{w w1 w2:World}{mb n n2:Nat}{iv:Int->Option Value}{f:Nat->List Nat}{lb:List Nat}(h:wZ w mb iv f n lb){id:Nat}(hid:id<U64){v1:Value}{l1:List Nat}(h1:gR w1 v1 l1)(hne:l1≠[])
    (hF:Fr ((iv id).getD iL).ownBlock.toList w w1) (hq:∀q,v1.ownBlock=some q->((iv id).getD iL).ownBlock=some q∨w.heap.size<=q)
    (hI:fH Tryz.prog 36 .u64 okS w2 mb (sG iv id (some v1)) n2) (hF2:Fr [mb] w1 w2):wZ w2 mb (sG iv id (some v1)) (oZ f id l1) n2 (lb++v1.ownBlock.toList):=by
 have hml:=h.im.lt;have hs1:=hF.size;have hs2:=hF2.size;have hqm:∀q,v1.ownBlock=some q->q≠mb:=fun q hqq e=>by
   subst e;rcases hq q hqq with e|e
   · exact h.nm ((h.row id hid).2.2 q e)
   · omega
 have hother:∀(x:Nat),x<U64->x≠id->∀q,((iv x).getD iL).ownBlock=some q->q∉((iv id).getD iL).ownBlock.toList/\q≠mb:=fun x hx hxn q hqq=>
   ⟨fun hm=>hxn (h.inj x id q hx hid hqq (by simpa using hm)),fun e=>h.nm (e▸(h.row x hx).2.2 q hqq)⟩
 refine⟨hI,fun hm=>?_,fun b hb=>?_,fun x hx=>?_,fun x y q hx hy hxq hyq=>?_⟩
 {
 rcases qE.1 hm with hm|hm
 · exact h.nm hm
 · exact hqm mb (by simpa using hm) rfl}
 {
 rcases qE.1 hb with hb|hb
 · have:=h.lt b hb;omega
 · have:=h1.lt (by simpa using hb);omega}
 {
 by_cases e:x=id
 {
 subst e;rw[gV,pA];refine⟨by simp[hne],h1.fr hF2 (fun q hqq hm=>?_),fun q hqq=>qE.2 (.inr (by simpa using hqq))⟩;exact hqm q hqq (by simpa using hm)}
 {
 rw[eX (by omega),fW e];obtain⟨a1,a2,a3⟩:=h.row x hx;exact⟨a1,(a2.fr hF (fun q hqq=>(hother x hx e q hqq).1)).fr hF2 (fun q hqq hm=>(hother x hx e q hqq).2 (by simpa using hm)),fun q hqq=>qE.2 (.inl (a3 q hqq))⟩}}
 {
 by_cases ex:x=id
 {
 by_cases ey:y=id
 · rw[ex,ey]
 {
 subst ex;rw[gV]at hxq;rw[eX (by omega)]at hyq;rcases hq q hxq with e|e
 · exact(h.inj y x q hy hx hyq e).symm
 · have:=h.lt q ((h.row y hy).2.2 q hyq);omega}}
 {
 rw[eX (by omega)]at hxq;by_cases ey:y=id
 {
 subst ey;rw[gV]at hyq;rcases hq q hyq with e|e
 · exact h.inj x y q hx hy hxq e
 · have:=h.lt q ((h.row x hx).2.2 q hxq);omega}
 {
 rw[eX (by omega)]at hyq;exact h.inj x y q hx hy hxq hyq}}}
theorem nS.fr{w w' :World}{mb n:Nat}{f:Nat->List Nat}{lb S:List Nat}(h:nS w mb f n lb)(hf:Fr S w w')(h1:mb∉S)(h2:∀b∈lb,b∉S):nS w' mb f n lb:=by
 obtain⟨iv,h⟩:=h;exact⟨iv,h.fr hf h1 h2⟩
theorem aBV{id:Nat}(h:id<U64):(Lit.int .u64 (id:Int)).wf=true:=by
 show(decide ((0:Int)<=id)&&decide ((id:Int)<=18446744073709551615))=true
 have h:id<18446744073709551616:=h;simp;omega
structure Cls (c:Nat->Nat) (ps mb:Nat) (vl:Value) (la lt lb:List Nat):Prop where
  p:c ps=0
  m:c mb=1
  a:∀b∈la,c b=2
  t:∀b∈lt,c b=3
  l:∀q,vl.ownBlock=some q->c q=4
  b:∀b∈lb,c b=5
structure StB (w:World) (ps pa pt mb n:Nat) (vl:Value) (s:Sm) (la lt lb:List Nat) (c:Nat->Nat):Prop where
  hd:Blk w ps 145 [.int .i64 s.V,.int .i64 s.E,.int .u64 s.last,ptr pa,ptr pt,vl,.map (some mb)]
  ar:bB w pa s.A la
  tb:jJ w pt s.M lt
  lv:bN w vl ((List.range n).map (bM s.L))
  inc:nS w mb (dQ s.L) s.M.L.length lb
  sn:∀e∈s.L,e.slot<n
  nE:n<=s.E
  ok:s.Ok
  cls:Cls c ps mb vl la lt lb
def stK(ps mb:Nat)(vl:Value)(la lt lb:List Nat):List Nat:=ps::mb::(la++lt++vl.ownBlock.toList++lb)
def bG(w:World)(ps:Nat)(s:Sm)(K:List Nat):Prop:=∃pa pt mb n vl la lt lb c,StB w ps pa pt mb n vl s la lt lb c/\K=stK ps mb vl la lt lb
theorem nS.ltm{w:World}{mb n:Nat}{f:Nat->List Nat}{lb:List Nat}(h:nS w mb f n lb):mb<w.heap.size:=by
 obtain⟨iv,h⟩:=h;exact h.im.lt
theorem nS.ltb{w:World}{mb n:Nat}{f:Nat->List Nat}{lb:List Nat}(h:nS w mb f n lb):∀b∈lb,b<w.heap.size:=by
 obtain⟨iv,h⟩:=h;exact h.lt
section
variable {w w' :World} {ps pa pt mb n:Nat} {vl:Value} {s:Sm} {la lT lb K S:List Nat} {c:Nat->Nat}
theorem StB.fr(h:StB w ps pa pt mb n vl s la lT lb c)(hf:Fr S w w')(hd:∀q∈stK ps mb vl la lT lb,q∉S):StB w' ps pa pt mb n vl s la lT lb c:=
  ⟨hf.blk h.hd (hd _ (by simp[stK])),h.ar.fr hf (fun q hq=>hd q (by simp[stK,hq])),h.tb.fr hf (fun q hq=>hd q (by simp[stK,hq])),h.lv.fr hf (fun q hq=>hd q (by simp[stK,hq])),
    h.inc.fr hf (hd _ (by simp[stK])) (fun q hq=>hd q (by simp[stK,hq])),h.sn,h.nE,h.ok,h.cls⟩
theorem StB.lt(h:StB w ps pa pt mb n vl s la lT lb c):∀q∈stK ps mb vl la lT lb,q<w.heap.size:=by
 intro q hq;simp only[stK,qB,qE,Option.mem_toList]at hq;rcases hq with rfl|rfl|((hq|hq)|hq)|hq
 · exact h.hd.lt
 · exact h.inc.ltm
 · exact h.ar.lt q hq
 · exact h.tb.lt q hq
 · exact h.lv.lt hq
 · exact h.inc.ltb q hq
theorem bG.fr(h:bG w ps s K)(hf:Fr S w w')(hd:∀q∈K,q∉S):bG w' ps s K:=by
 obtain⟨pa,pt,mb,n,vl,la,lt,lb,c,h,rfl⟩:=h;exact⟨pa,pt,mb,n,vl,la,lt,lb,c,h.fr hf hd,rfl⟩
theorem bG.fr0(h:bG w ps s K)(hf:Fr [] w w'):bG w' ps s K:=h.fr hf (by simp)
theorem bG.lt(h:bG w ps s K):∀q∈K,q<w.heap.size:=by
 obtain⟨pa,pt,mb,n,vl,la,lt,lb,c,h,rfl⟩:=h;exact h.lt
theorem bG.ok(h:bG w ps s K):s.Ok:=by
 obtain⟨pa,pt,mb,n,vl,la,lt,lb,c,h,rfl⟩:=h;exact h.ok
end
theorem mY(l:List Nat):(nR l).Perm l:=List.mergeSort_perm _ _
theorem aHW(l:List Nat):(nR l).Pairwise (·<= ·):=by
 have:=List.pairwise_mergeSort (le:=fun x y:Nat=>decide (x<=y)) (fun a b c h1 h2=>by simp at *;omega) (fun a b=>by simp;omega) l;exact this.imp (fun h=>by simpa using h)
theorem aHX{l:List Nat}(h:l.Nodup):(nR l).Pairwise (· < ·):=by
 have h1:=aHW l;have h2:(nR l).Nodup:=(mY l).nodup_iff.2 h;exact(h1.and h2).imp (fun h=>by omega)
theorem aFR{l:List Nat}{x:Nat}:x∈nR l↔x∈l:=(mY l).mem_iff
@[go_sem] theorem aTA(w:World)(r:Option Nat):(binOp .neq 143 (.map r) (.map none)).run Tryz.prog w=.ok (.bool (!r.isNone)) w:=run_neq_map_nil w _ _ _ r Tryz.underlying143
abbrev iM(b:Nat):Value:=.pointer (some ⟨b,0,none⟩)
section
variable {w w' :World} {ps:Nat} {s:Sm} {K:List Nat}
theorem bG.open(h:bG w ps s K):∃pa pt mb n vl la lT lb c,StB w ps pa pt mb n vl s la lT lb c/\K=stK ps mb vl la lT lb /\
    w.cell? ⟨ps,0,none⟩=some (.int .i64 s.V)/\w.cell? ⟨ps,1,none⟩=some (.int .i64 s.E)/\w.cell? ⟨ps,2,none⟩=some (.int .u64 s.last)/\w.cell? ⟨ps,3,none⟩=some (ptr pa)/\w.cell? ⟨ps,4,none⟩=some (ptr pt)/\w.cell? ⟨ps,5,none⟩=some vl/\w.cell? ⟨ps,6,none⟩=some (.map (some mb)):=by
 obtain⟨pa,pt,mb,n,vl,la,lT,lb,c,h,rfl⟩:=h;exact⟨pa,pt,mb,n,vl,la,lT,lb,c,h,rfl,h.hd.cell 0,h.hd.cell 1,h.hd.cell 2,h.hd.cell 3,h.hd.cell 4,h.hd.cell 5,h.hd.cell 6⟩
theorem kR(h:bG w ps s K):Calls Tryz.prog 96 #[iM ps] w fun e w' =>e=.returned (.bool true)/\w' =w:=by
 obtain⟨pa,pt,mb,n,vl,la,lT,lb,c,hB,rfl,c0,c1,c2,c3,c4,c5,c6⟩:=h.open;clear h hB;go_enter Tryz.func96,Tryz.ntmps96
 go_wp2
 go_ret;exact⟨rfl,rfl⟩
theorem aQF(h:bG w ps s K):Calls Tryz.prog 60 #[iM ps] w fun e w' =>e=.returned (.int .i64 s.L.length)/\w' =w:=by
 have HV:=qA (kR h);obtain⟨pa,pt,mb,n,vl,la,lT,lb,c,hB,rfl,c0,c1,c2,c3,c4,c5,c6⟩:=h.open;have hl:=oU hB.ar;rw[Sm.len_used hB.ok]at hl;have HL:=qA hl;clear h hB hl;go_enter Tryz.func60,Tryz.ntmps60
 go_wp2_with fail
 refine HV.out.mono ?_;rintro _ w ⟨rfl,rfl⟩;go_wp2_with fail
 refine HL.out.mono ?_;rintro _ w1 ⟨rfl,rfl⟩;go_wp2
 go_ret;exact⟨rfl,rfl⟩
theorem aHY(h:bG w ps s K):Calls Tryz.prog 59 #[iM ps] w fun e w' =>e=.returned (.int .i64 s.M.L.length)/\w' =w:=by
 have HV:=qA (kR h);obtain⟨pa,pt,mb,n,vl,la,lT,lb,c,hB,rfl,c0,c1,c2,c3,c4,c5,c6⟩:=h.open;have HL:=qA (aDU hB.tb);clear h hB;go_enter Tryz.func59,Tryz.ntmps59
 go_wp2_with fail
 refine HV.out.mono ?_;rintro _ w ⟨rfl,rfl⟩;go_wp2_with fail
 refine HL.out.mono ?_;rintro _ w1 ⟨rfl,rfl⟩;go_wp2
 go_ret;exact⟨rfl,rfl⟩
theorem yT(h:bG w ps s K)(id:Nat)(hid:id<18446744073709551616):Calls Tryz.prog 136 #[iM ps,.int .u64 id] w fun e w' =>e=.returned (.tuple #[.int .i64 ((s.M.find id).getD 0),.bool (s.M.find id).isSome])/\Fr [] w w' :=by
 have HV:=qA (kR h);obtain⟨pa,pt,mb,n,vl,la,lT,lb,c,hB,rfl,c0,c1,c2,c3,c4,c5,c6⟩:=h.open;have HL:=qA (aDT id hid hB.tb);clear h hB;generalize (s.M.find id).getD 0=i at *;generalize (s.M.find id).isSome=b at *;go_enter Tryz.func136,Tryz.ntmps136
 go_wp2_with fail
 refine HV.out.mono ?_;rintro _ w ⟨rfl,rfl⟩;go_wp2_with fail
 refine HL.out.mono ?_;rintro _ w1 ⟨rfl,_,hb⟩;have HB:=qA (Fr.of_below hb);clear hb;go_wp2
 go_ret2;exact⟨rfl,HB.out⟩
def Sm.ids(s:Sm):List Nat:=nR (s.M.L.map (·.1))
def dH(w:World)(v:Value)(p:List Nat):Prop:=w.ownsRow 0 36 1 v p.length (iG p)
theorem dH.fr{v:Value}{p:List Nat}{S:List Nat}(h:dH w v p)(hf:Fr S w w')(hs:∀q,v.ownBlock=some q->q∉S):dH w' v p:=
  aU h (fun q hq=>hf.keep q (cH h hq) (hs q hq))
theorem dH.fr0{v:Value}{p:List Nat}(h:dH w v p)(hf:Fr [] w w'):dH w' v p:=h.fr hf (by simp)
theorem dH.slice{v:Value}{p:List Nat}(h:dH w v p):∃a cap,v=.slice a p.length cap:=bH h
theorem dH.at{v:Value}{p:List Nat}(h:dH w v p){i:Nat}(hi:i<p.length):∃b cap,v=.slice (some ⟨b,0,none⟩) p.length cap/\b<w.heap.size/\w.cell? ⟨b,i,none⟩=some (.int .u64 (p[i]'hi)):=by
 obtain⟨b,cap,e,_,h2,h3,_⟩:=dK h hi;exact⟨b,cap,e,h2,h3.trans (by simp[iG,hi])⟩
theorem Sm.ids_len(s:Sm):s.ids.length=s.M.L.length:=by unfold Sm.ids;rw[aFP,List.length_map]
end
abbrev aBW(u v:Nat)(wt t:Int):Value:=.agg #[.int .u64 u,.int .u64 v,.int .i64 wt,.int .i64 t]
@[go_sem] theorem aTB(a b:Value)(w:World):(Instr.index 199 (.agg #[a,b]) (.int .i64 0)).run Tryz.prog w=.ok a w:=by kernel_rfl
@[go_sem] theorem aTC(a b:Value)(w:World):(Instr.index 199 (.agg #[a,b]) (.int .i64 1)).run Tryz.prog w=.ok b w:=by kernel_rfl
def nf(b:Bool):Nat:=if b=true then 0 else 1
def sL(a b:Bool)(k:Nat):Nat:=(if 0<k then nf a else 0)+if 1<k then nf b else 0
section
variable {w w' :World} {ps:Nat} {s:Sm} {K:List Nat}
theorem yU(h:bG w ps s K)(u v:Nat)(hu:u<18446744073709551616)(hv:v<18446744073709551616)(wt t:Int):
    Calls Tryz.prog 90 #[iM ps,aBW u v wt t] w fun e w' =>e=.returned (.int .i64 (s.chk u v))/\Fr [] w w' :=by
 have H:=qA h;have hok:=h.ok;have hE:=hok.leE;have hV4:=hok.leV;have hmn:=hok.md.cnt;have hmb:=hok.md.ar.hb;have hms:=hok.ms;simp only[Md.ar]at hmb;have hml:s.M.L.length<=4096:=by omega
 have hau:s.A.used<=16384:=by {
 have h1:=hok.ar.hb;have h2:=hok.sl;unfold Ar.used;omega};clear hmn hmb hms hok h;obtain⟨code,hcode⟩:∃code,code=s.chk u v:=⟨_,rfl⟩;rw[<-hcode];have HCD:=qA hcode;clear hcode;go_enter Tryz.func90,Tryz.ntmps90
 go_wp2_with fail
 have hf0:Fr [] w (w.alloc (.cells #[.int .u64 u,.int .u64 v,.int .i64 wt,.int .i64 t] 72)):=(Fr.refl [] w).alloc _;have hbx:Blk (w.alloc (.cells #[.int .u64 u,.int .u64 v,.int .i64 wt,.int .i64 t] 72)) w.heap.size 72 [.int .u64 u,.int .u64 v,.int .i64 wt,.int .i64 t]:=Blk.new w _ _;have hlt0:w.heap.size<(w.alloc (.cells #[.int .u64 u,.int .u64 v,.int .i64 wt,.int .i64 t] 72)).heap.size:=by simp
 generalize w.alloc (.cells #[.int .u64 u,.int .u64 v,.int .i64 wt,.int .i64 t] 72)=w1 at *;have r0:=hbx.cell 0;have r1:=hbx.cell 1;simp only[zJ,zK]at r0 r1;obtain⟨pa,pt,mb,n,vl,la,lT,lb,c,hB,hK,c0,c1,c2,c3,c4,c5,c6⟩:=(H.out.fr0 hf0).open;have HV:=qA (kR (H.out.fr0 hf0));have HF0:=qA hf0;have HA:=qA (fun(w' :World) (hf:Fr [] w1 w')=>oU (hB.fr hf (by simp)).ar);have HT:=qA (fun(w' :World) (hf:Fr [] w1 w')=>aDU (hB.fr hf (by simp)).tb);have HG:=qA (fun(w' :World) (hf:Fr [] w1 w') (id:Nat) (hid:id<18446744073709551616)=>aDT id hid (hB.fr hf (by simp)).tb);clear hf0 hbx hB hK c2 c5 c6 hlt0;refine HV.out.mono ?_;rintro _ w1 ⟨rfl,rfl⟩;clear HV;by_cases huv:u=v
 {
 subst huv;have HCD' :=qA (show code=9 by rw[HCD.out];unfold Sm.chk;rw[qD rfl]);go_wp2_with fail
 go_ret;exact⟨by rw[HCD'.out];rfl,HF0.out⟩}
 {
 have d1:((u:Int) == v)=false:=qR.2 (by omega);have HUV:=qA huv;clear huv;go_wp2_with fail
 obtain⟨au,hau2⟩:∃au,au=s.A.used:=⟨_,rfl⟩;rw[<-hau2]at HA hau;have HAU:=qA hau2;clear hau2;refine eH (fun w' =>Fr [] w1 w') (by kernel_rfl) (by kernel_rfl) ((Fr.refl [] w1).drew) ?_;iterate 3 (refine aJ (by kernel_rfl) (fun KK hK=>?_);go_simp;refine hK.out _ ?_;clear hK KK)
 refine bO (by kernel_rfl) (ptr pa) (fun w' hw' =>?_) ?_
 {
 have c3:=hw'.cell c3 (by simp);go_simp;first|exact hw' | exact⟨rfl,hw'⟩|skip};refine bO (by kernel_rfl) (.int .i64 au) (fun w' hw' =>?_) ?_
 {
 go_simp;refine(HA.out w' hw').mono ?_;rintro _ w6 ⟨rfl,rfl⟩;exact⟨rfl,hw'⟩};iterate 3 (refine aJ (by kernel_rfl) (fun KK hK=>?_);go_simp;refine hK.out _ ?_;clear hK KK)
 refine bO (by kernel_rfl) (.int .i64 s.E) (fun w' hw' =>?_) ?_
 {
 have c1:=hw'.cell c1 (by simp);go_simp;first|exact hw' | exact⟨rfl,hw'⟩|skip};iterate 1 (refine aJ (by kernel_rfl) (fun KK hK=>?_);go_simp;refine hK.out _ ?_;clear hK KK)
 refine jN ?_;intro w2 hf2;have r0:=hf2.cell r0 (by simp);have r1:=hf2.cell r1 (by simp);have c0:=hf2.cell c0 (by simp);have c4:=hf2.cell c4 (by simp);have HT2:=qA (HT.out w2 hf2);have HF2:=qA hf2;clear hf2 HT HA c1 c3 d1;by_cases hfull:s.E<=au
 {
 have HCD' :=qA (show code=12 by rw[HCD.out];unfold Sm.chk;rw[qC HUV.out,<-HAU.out,qD hfull]);have d1:decide ((s.E:Int)<=au)=true:=qG (by omega);go_wp2_with fail
 go_ret;exact⟨by rw[HCD'.out];rfl,HF0.out.trans' HF2.out⟩}
 {
 have d1:decide ((s.E:Int)<=au)=false:=qF (by omega);have d2:decide (s.E<=au)=false:=qF (by omega);have HFU:=qA hfull;clear hfull;go_wp2_with fail
 refine HT2.out.mono ?_;rintro _ w2 ⟨rfl,rfl⟩;clear HT2 d1 d2;go_wp2_with fail
 have Hu:=qA hu;have Hv:=qA hv;clear r0 r1;go_loopw [5,38] (fun x y wr=>∃k m:Nat,k<=2/\y=.int .i64 k/\x=.int .i64 m/\m<=4096+k/\Hid (m=s.M.L.length+sL (s.M.find u).isSome (s.M.find v).isSome k)/\Hid (Fr [] w2 wr)) (fun _ y _=>2-(intOf y).toNat)
 case atStart=>exact⟨0,s.M.L.length,by omega,rfl,rfl,by omega,qA (by simp[sL]),qA (Fr.refl _ _)⟩
 case round=>
  obtain⟨k,m,hk,rfl,rfl,hm,HM,HF⟩:=hrel;by_cases hlt:k<2
  {
  have hk2:k=0∨k=1:=by omega
  clear hlt hk;rcases hk2 with rfl|rfl
  {
  have HGu:=qA (HG.out wr (HF2.out.trans' HF.out) u Hu.out);have c4:=HF.out.cell c4 (by simp);generalize hfu:(s.M.find u).isSome=fu at *;have HFU2:=qA hfu;clear hfu;generalize (s.M.find u).getD 0=iu at *;rename World=>wo
  go_wp2_with fail
  refine HGu.out.mono ?_;rintro _ w5 ⟨rfl,_,hb5⟩;have HF5:=qA (HF.out.trans' (Fr.of_below hb5));clear hb5 HGu c4;cases fu with
  | true=>{
  go_wp2_with fail
  go_roundw
  case rel=>exact⟨1,m,by omega,rfl,rfl,by omega,qA (by rw[HM.out];simp[sL,nf]),HF5⟩
  case measure=>simp[intOf]}
  | false=>{
  go_wp2_with fail
  go_roundw
  case rel=>exact⟨1,m+1,by omega,rfl,by go_num,by omega,qA (by rw[HM.out];simp[sL,nf];try omega),HF5⟩
  case measure=>simp[intOf]}}
  {
  have HGu:=qA (HG.out wr (HF2.out.trans' HF.out) v Hv.out);have c4:=HF.out.cell c4 (by simp);generalize hfu:(s.M.find v).isSome=fu at *;have HFU2:=qA hfu;clear hfu;generalize (s.M.find v).getD 0=iu at *;rename World=>wo
  go_wp2_with fail
  refine HGu.out.mono ?_;rintro _ w5 ⟨rfl,_,hb5⟩;have HF5:=qA (HF.out.trans' (Fr.of_below hb5));clear hb5 HGu c4;cases fu with
  | true=>{
  go_wp2_with fail
  go_roundw
  case rel=>exact⟨2,m,by omega,rfl,rfl,by omega,qA (by rw[HM.out];simp[sL,nf]),HF5⟩
  case measure=>simp[intOf]}
  | false=>{
  go_wp2_with fail
  go_roundw
  case rel=>exact⟨2,m+1,by omega,rfl,by go_num,by omega,qA (by rw[HM.out];simp[sL,nf];try omega),HF5⟩
  case measure=>simp[intOf]}}}
  {
  obtain rfl:k=2:=by omega
  have c0:=HF.out.cell c0 (by simp);have hmore:m=s.M.L.length+s.more u v:=by rw[HM.out];simp[sL,nf,Sm.more]
  by_cases hov:s.V<m
  {
  have HCD' :=qA (show code=11 by rw[HCD.out];unfold Sm.chk;rw[qC HUV.out,<-HAU.out,qC HFU.out,<-hmore,qD hov]);have d1:decide ((m:Int)>s.V)=true:=qG (by omega);clear hmore;go_wp2_with fail
  go_ret;exact⟨by rw[HCD'.out];rfl,(HF0.out.trans' HF2.out).trans' HF.out⟩}
  {
  have HCD' :=qA (show code=0 by rw[HCD.out];unfold Sm.chk;rw[qC HUV.out,<-HAU.out,qC HFU.out,<-hmore,qC hov]);have d1:decide ((m:Int)>s.V)=false:=qF (by omega);have d2:decide (s.V<m)=false:=qF (by omega);clear hmore;go_wp2_with fail
  go_ret;exact⟨by rw[HCD'.out];rfl,(HF0.out.trans' HF2.out).trans' HF.out⟩}}}}
end
def xA(w:World)(ps:Nat):Nat:=match w.cell? ⟨ps,5,none⟩ with
  | some (.slice _ m _)=>m
  | _=>0
theorem sM{w:World}{ps m cap:Nat}{a:Option Addr}(h:w.cell? ⟨ps,5,none⟩=some (.slice a m cap)):xA w ps=m:=by unfold xA;rw[h]
theorem aFS{L:List Lv}{n n' :Nat}(hs:∀e∈L,e.slot<n)(hn:n<=n'):(List.range (n' + 1)).map (bM L)=(List.range n').map (bM L)++[Lv.z]:=by
 rw[List.range_succ,List.map_append,List.map_cons,List.map_nil,yO (fun e he=>by have:=hs e he;omega)]
theorem Blk.put7{w:World}{b:Nat}{t:TypeId}{v0 v1 v2 v3 v4 v5 v6:Value}(h:Blk w b t [v0,v1,v2,v3,v4,v5,v6])(e:Lv):Blk (put7 w b 0 e) b t (lvC e):=
  ((((((h.set 0 (.int .i64 e.slot)).set 1 (.int .u64 e.seq)).set 2 (.int .u64 e.u)).set 3 (.int .u64 e.v)).set 4 (.int .i64 e.wt)).set 5 (.int .i64 e.t)).set 6 (.int .i64 e.x)
theorem aFT(w:World):(zeroValue 158).run Tryz.prog w=.ok iL w:=by kernel_rfl
def uC(w7:World)(ps pt mb:Nat)(v7:Value)(la lT lb:List Nat)(M:Md)(f:Nat->List Nat)(n:Nat)(wr:World):Prop:=
  ∃lT' lb' c', Cls c' ps mb v7 la lT' lb' /\ jJ wr pt M lT' /\ nS wr mb f n lb' /\ Fr (mb::(lT++lb)) w7 wr/\(∀q∈lT', q∈lT∨w7.heap.size<=q)/\∀q∈lb', q∈lb∨w7.heap.size<=q
section
variable {w7 wr:World} {ps pt mb n:Nat} {v7:Value} {la lT lb:List Nat} {M:Md} {f:Nat->List Nat}
theorem aDW(hps:ps<w7.heap.size)(hla:∀b∈la,b<w7.heap.size)(hv7:∀q,v7.ownBlock=some q->q<w7.heap.size)(h:uC w7 ps pt mb v7 la lT lb M f n wr){id:Nat}(hid:id<U64):
    Calls Tryz.prog 173 #[ptr pt,.int .u64 id] wr fun e w' =>∃r,e=.returned r/\uC w7 ps pt mb v7 la lT lb (M.put id).M f n w' /\ Fr (mb::(lT++lb)) w7 w' :=by
 obtain⟨lT', lb', c', hc,hT,hI,hF,h5,h6⟩:=h;refine(aMV id hid hT).mono ?_;rintro _ w' ⟨rfl,l', hT', hN1,hN2⟩;have hlt:=hT.lt;have hlb:=hI.ltb;have hml:=hI.ltm;have hsz:=hF.size;have e1:=hN1.size;have hF' :Fr (mb::(lT++lb)) w7 w' :=hF.trans hN1 (fun q hq=>(h5 q hq).imp (fun e=>by simp[e]) (fun e=>e));refine⟨_,rfl,⟨l', lb', fun x=>if x<wr.heap.size then c' x else 3,⟨?_,?_,?_,?_,?_,?_⟩,hT', ?_,hF', ?_,h6⟩,hF'⟩
 · rw[qD (by omega)];exact hc.p
 · rw[qD hml];exact hc.m
 · intro b hb;rw[qD (by have:=hla b hb;omega)];exact hc.a b hb
 {
 intro b hb;rcases hN2 b hb with e|e
 · rw[qD (hlt b e)];exact hc.t b e
 · rw[qC (by omega)]}
 · intro q hq;rw[qD (by have:=hv7 q hq;omega)];exact hc.l q hq
 · intro b hb;rw[qD (hlb b hb)];exact hc.b b hb
 {
 refine hI.fr hN1 (fun hm=>?_) (fun b hb hm=>?_)
 · have e1:=hc.t mb hm;have e2:=hc.m;omega
 · have e1:=hc.t b hm;have e2:=hc.b b hb;omega}
 {
 intro q hq;rcases hN2 q hq with e|e
 · exact h5 q e
 · exact .inr (by omega)}
theorem aDX(hps:ps<w7.heap.size)(hla:∀b∈la,b<w7.heap.size)(hv7:∀q,v7.ownBlock=some q->q<w7.heap.size){lT' lb' :List Nat}{c' :Nat->Nat}{iv:Int->Option Value}(hc:Cls c' ps mb v7 la lT' lb')(hT:jJ wr pt M lT')(hI:wZ wr mb iv f n lb')(hF:Fr (mb::(lT++lb)) w7 wr)
    (h5:∀q∈lT', q∈lT∨w7.heap.size<=q) (h6:∀q∈lb', q∈lb∨w7.heap.size<=q) {id:Nat} (hid:id<U64) {w8 w9:World} {v1:Value} {l1:List Nat} {n2:Nat} (h1:gR w8 v1 l1) (hne:l1≠[])
    (hF1:Fr ((iv id).getD iL).ownBlock.toList wr w8) (hq:∀q,v1.ownBlock=some q->((iv id).getD iL).ownBlock=some q∨wr.heap.size<=q)
    (hM:fH Tryz.prog 36 .u64 okS w9 mb (sG iv id (some v1)) n2) (hF2:Fr [mb] w8 w9):uC w7 ps pt mb v7 la lT lb M (oZ f id l1) n2 w9:=by
 have hI2:=hI.set hid h1 hne hF1 hq hM hF2;have hlt:=hT.lt;have hml:=hI.im.lt;have hsz:=hF.size;have hs8:=hF1.size;have hs9:=hF2.size;have hin:=(hI.row id hid).2.2;have hG:Fr (mb::((iv id).getD iL).ownBlock.toList) wr w9:=(hF1.mono (S' :=mb::((iv id).getD iL).ownBlock.toList) (fun b hb=>.inl (List.mem_cons_of_mem _ hb))).trans hF2 (fun b hb=>.inl (by simp at hb;simp[hb]));refine⟨lT', lb' ++ v1.ownBlock.toList,fun x=>if x<wr.heap.size then c' x else 5,⟨?_,?_,?_,?_,?_,?_⟩,hT.fr hG (fun b hb hm=>?_),⟨_,hI2⟩,hF.trans hG (fun b hb=>?_),h5,fun q hqq=>?_⟩
 · rw[qD (by omega)];exact hc.p
 · rw[qD hml];exact hc.m
 · intro b hb;rw[qD (by have:=hla b hb;omega)];exact hc.a b hb
 · intro b hb;rw[qD (hlt b hb)];exact hc.t b hb
 · intro q hqq;rw[qD (by have:=hv7 q hqq;omega)];exact hc.l q hqq
 {
 intro b hb;rcases qE.1 hb with hb|hb
 · rw[qD (hI.lt b hb)];exact hc.b b hb
 {
 rcases hq b (by simpa using hb) with e|e
 {
 have:=hin b e;rw[qD (hI.lt b this)];exact hc.b b this}
 · rw[qC (by omega)]}}
 {
 have e0:=hc.t b hb;rcases qB.1 hm with e|e
 · have:=hc.m;rw[<-e]at this;omega
 · have:=hc.b b (hin b (by simpa using e));omega}
 {
 rcases qB.1 hb with rfl|e
 · exact .inl (by simp)
 {
 rcases h6 b (hin b (by simpa using e)) with e2|e2
 · exact .inl (by simp[e2])
 · exact .inr e2}}
 {
 rcases qE.1 hqq with e|e
 · exact h6 q e
 {
 rcases hq q (by simpa using e) with e2|e2
 · exact h6 q (hin q e2)
 · exact .inr (by omega)}}
end
def uD(M:Md)(u v:Nat):Nat->Md
  | 0=>M
  | 1=>(M.put u).M
  | _=>((M.put u).M.put v).M
def mF(f:Nat->List Nat)(u v sl:Nat):Nat->Nat->List Nat
  | 0=>f
  | 1=>oZ f u (f u++[sl])
  | _=>oZ (oZ f u (f u++[sl])) v (oZ f u (f u++[sl]) v++[sl])
theorem aHZ{L:List Lv}{e:Lv}(hne:e.u≠e.v):mF (dQ L) e.u e.v e.slot 2=dQ (L++[e]):=by
 funext id
 rw[uX];show oZ (oZ (dQ L) e.u (dQ L e.u++[e.slot])) e.v (oZ (dQ L) e.u (dQ L e.u++[e.slot]) e.v++[e.slot]) id=_
 unfold Lv.at;by_cases h1:id=e.v
 {
 subst h1;rw[pA,fW (fun h=>hne h.symm)];simp}
 {
 rw[fW h1];by_cases h2:id=e.u
 {
 subst h2;rw[pA];simp}
 {
 rw[fW h2];have b1:(e.u == id)=false:=by simp;omega
 have b2:(e.v == id)=false:=by simp;omega
 rw[b1,b2];simp}}
theorem uC.fr{w7 wr:World}{ps pt mb n:Nat}{v7:Value}{la lT lb:List Nat}{M:Md}{f:Nat->List Nat}(h:uC w7 ps pt mb v7 la lT lb M f n wr):Fr (mb::(lT++lb)) w7 wr:=by
 obtain⟨_,_,_,_,_,_,h,_⟩:=h;exact h
theorem uC.mok{w7 wr:World}{ps pt mb n:Nat}{v7:Value}{la lT lb:List Nat}{M:Md}{f:Nat->List Nat}(h:uC w7 ps pt mb v7 la lT lb M f n wr):M.Ok:=by
 obtain⟨_,_,_,_,h,_⟩:=h;exact h.ok
theorem vC{w w' :World}{mb n:Nat}{iv:Int->Option Value}{f:Nat->List Nat}{lb:List Nat}(h:wZ w mb iv f n lb){id:Nat}(hid:id<U64){v:Value}(hv:(iv id).getD iL=v)(he:w'.heap[mb]? =w.heap[mb]?):
    (Instr.lookup 143 (.map (some mb)) (.int .u64 id) false).run Tryz.prog w' =.ok v w' :=by
 have:=(h.im.same he).run_get Tryz.underlying36 Tryz.underlying143 (aFT w') rfl (aBV hid);rw[hv]at this;exact this
theorem aIA{L:List Lv}{e:Lv}{n:Nat}(hL:∀x∈L,x.slot≠e.slot)(hn:e.slot<n):((List.range n).map (bM L)).set e.slot e=(List.range n).map (bM (L++[e])):=by
 refine List.ext_getElem? fun i=>?_;rw[List.getElem?_set];by_cases hi:i<n
 {
 simp only[List.length_map,List.length_range,List.getElem?_map,List.getElem?_range hi,Option.map_some,yP hL];by_cases he:e.slot=i
 · rw[qD he,qD he.symm,qD hn]
 · rw[qC he,qC (fun h=>he h.symm)]}
 · rw[qC (by omega),zB (by simp;omega),zB (by simp;omega)]
section
variable {w w' :World} {ps:Nat} {s:Sm} {K:List Nat}
end
end Go.Proofs.YtjdgpcjbgjnahaaGreatDoor
namespace Go.Proofs.YtjdgpcjbgjnahaaGreatDoor
open Go.RowKit Go.Lib Go.Sort
section
variable {w:World} {v:Value} {p:List Nat}
end
end Go.Proofs.YtjdgpcjbgjnahaaGreatDoor
namespace Go.Proofs.YtjdgpcjbgjnahaaGreatDoor
open Go.RowKit
section
variable {w w' :World} {ps:Nat} {s:Sm} {K:List Nat}
end
theorem yV{M:Md}(h:M.Ok){id x:Nat}(hid:id<18446744073709551616)(hx:(M.find x).isSome=true∨x≠id):(M.put id).M.find x=M.find x:=by
 unfold Md.put;cases hi:M.find id with
 | some i=>rfl
 | none=>{
 cases hn:M.next with
 | none=>rfl
 | some i=>{
 show(M.add id i).find x=_
 rw[sF h hid hi hn,qC];rintro rfl;rcases hx with e|e
 · rw[hi]at e;cases e
 · exact e rfl}}
section
variable {s:Sm} {i:Nat}
theorem iB(h:s.Ok){e:Lv}(he:e∈s.L){x:Nat}(hx:e.at x=true):(s.M.find x).isSome=true:=(h.vert x).2 (List.ne_nil_of_mem (sB.2 ⟨e,he,hx,rfl⟩))
end
structure Lk (s:Sm) (Q:Nat->Option Int) (G:Nat->Option (Nat×Nat×Int)):Prop where
  q:∀i x,Q i=some x↔∃e∈s.L,e.slot=i/\e.x=x
  g:∀i a b x,G i=some (a,b,x)↔∃e∈s.L,e.slot=i/\s.M.find e.u=some a/\s.M.find e.v=some b/\e.x=x
section
variable {s:Sm} {Q:Nat->Option Int} {G:Nat->Option (Nat×Nat×Int)}
theorem Lk.new(V E last:Nat):Lk (Sm.new V E last) (fun _=>none) (fun _=>none):=⟨fun i x=>by simp[Sm.new],fun i a b x=>by simp[Sm.new]⟩
theorem Lk.free(h:Lk s Q G)(hok:s.Ok){i:Nat}(hi:¬s.A.isUsed i):Q i=none/\G i=none:=by
 have hno:∀e∈s.L,e.slot≠i:=fun e he hs=>hi ((hok.used i).2 ⟨e,he,hs⟩);constructor
 {
 cases hq:Q i with
 | none=>rfl
 | some x=>{
 obtain⟨e,he,hs,_⟩:=(h.q i x).1 hq;exact absurd hs (hno e he)}}
 {
 cases hg:G i with
 | none=>rfl
 | some p=>{
 obtain⟨a,b,x⟩:=p;obtain⟨e,he,hs,_⟩:=(h.g i a b x).1 hg;exact absurd hs (hno e he)}}
theorem Lk.ins(h:Lk s Q G)(hok:s.Ok){u v:Nat}(hu:u<18446744073709551616)(hv:v<18446744073709551616)(hc:s.chk u v=0)(wt t x:Int){a b:Nat}(ha:(s.ins u v wt t x).M.find u=some a)(hb:(s.ins u v wt t x).M.find v=some b):
    Lk (s.ins u v wt t x) (fun j=>if j=s.slot then some x else Q j) (fun j=>if j=s.slot then some (a,b,x) else G j):=by
 have hok1:=Md.ok_put hok.md hu;have hfree:∀e∈s.L,e.slot≠s.slot:=fun e he hs=>(Md.isUsed_alloc' hok.ar (Sm.slot_next hok hc)).1 ((hok.used _).2 ⟨e,he,hs⟩);have hf:∀y,(s.M.find y).isSome=true->(s.ins u v wt t x).M.find y=s.M.find y:=fun y hy=>by
   show((s.M.put u).M.put v).M.find y=_
   have h1:=yV hok.md (x:=y) hu (.inl hy);rw[yV hok1 hv (.inl (by rw[h1];exact hy)),h1]
 have hL:(s.ins u v wt t x).L=s.L++[s.edge u v wt t x]:=rfl;constructor
 {
 intro j y;rw[hL];by_cases e:j=s.slot
 {
 subst e;simp only[if_true,qE,qH];constructor
 · intro hx;exact⟨s.edge u v wt t x,.inr rfl,rfl,Option.some.inj hx⟩
 {
 rintro⟨d,hd|hd,hs,hx⟩
 · exact absurd hs (hfree d hd)
 · subst hd;exact congrArg some hx}}
 {
 simp only[qC e,qE,qH];rw[h.q];constructor
 · rintro⟨d,hd,hs,hx⟩;exact⟨d,.inl hd,hs,hx⟩
 {
 rintro⟨d,hd|hd,hs,hx⟩
 · exact⟨d,hd,hs,hx⟩
 · subst hd;exact absurd hs.symm e}}}
 {
 intro j c d y;rw[hL];by_cases e:j=s.slot
 {
 subst e;simp only[if_true,qE,qH];constructor
 {
 intro hx;simp only[qI,zE]at hx;obtain⟨rfl,rfl,rfl⟩:=hx;exact⟨s.edge u v wt t x,.inr rfl,rfl,ha,hb,rfl⟩}
 {
 rintro⟨d', hd|hd,hs,h1,h2,hx⟩
 · exact absurd hs (hfree d' hd)
 {
 subst hd;have e1:some a=some c:=ha.symm.trans h1;have e2:some b=some d:=hb.symm.trans h2;have e3:x=y:=hx;rw[Option.some.inj e1,Option.some.inj e2,e3]}}}
 {
 simp only[qC e,qE,qH];rw[h.g];constructor
 {
 rintro⟨d', hd,hs,h1,h2,hx⟩;exact⟨d', .inl hd,hs,by rw[hf _ (iB hok hd (by simp[Lv.at]))];exact h1,by rw[hf _ (iB hok hd (by simp[Lv.at]))];exact h2,hx⟩}
 {
 rintro⟨d', hd|hd,hs,h1,h2,hx⟩
 {
 rw[hf _ (iB hok hd (by simp[Lv.at]))]at h1 h2;exact⟨d', hd,hs,h1,h2,hx⟩}
 · subst hd;exact absurd hs.symm e}}}
end
inductive aQG (to:Int):(Nat->Option Int)->List Nat->(Nat->Option Int)->Prop
  | done (Q:Nat->Option Int) (h:∀i x,Q i=some x->to<x):aQG to Q [] Q
  | more (Q : Nat -> Option Int) (i : Nat) (x : Int) (ds : List Nat) (Q' : Nat -> Option Int) (hq : Q i = some x) (hx : x <= to) (hm : ∀ j y, Q j = some y -> ¬ (y < x ∨ (y = x /\ j < i)))
      (h:aQG to (fun j=>if j=i then none else Q j) ds Q'):aQG to Q (i::ds) Q'
theorem mM{l m:List Nat}(hl:l.Nodup)(hs:∀x∈l,x∈m):l.length<=m.length:=by
 induction l generalizing m with
 | nil=>simp
 | cons a r ih=>{
 simp only[qO]at hl;have ha:a∈m:=hs a (by simp);have h1:r.length<=(m.erase a).length:=ih hl.2 fun x hx=>(List.mem_erase_of_ne (fun e=>hl.1 (by rw[<-e];exact hx))).2 (hs x (by simp[hx]));rw[List.length_erase_of_mem ha]at h1;have:0<m.length:=List.length_pos_of_mem ha;simp only[qZ];omega}
def mZ(M:Md)(u v:Nat):List Nat:=M.L.map (·.1)++[u,v].filter fun x=> !(M.find x).isSome
theorem aBX(M:Md)(u v:Nat):(mZ M u v).length=M.L.length+((if (M.find u).isSome=true then 0 else 1)+if (M.find v).isSome=true then 0 else 1):=by
 unfold mZ;rw[zF,List.length_map];congr 1
 cases hu:(M.find u).isSome<;>cases hv:(M.find v).isSome<;>simp only[List.filter,hu,hv]<;>rfl
theorem fM{M:Md}(h:M.Ok){x:Nat}:x∈M.L.map (·.1)↔(M.find x).isSome=true:=by
 rw[qW,qV];constructor
 · rintro⟨⟨a,i⟩,hx,rfl⟩;exact⟨i,(Md.find_iff h).2 hx⟩
 · rintro⟨i,hi⟩;exact⟨(x,i),Md.find_mem hi,rfl⟩
theorem aBY{M:Md}(h:M.Ok){u v x:Nat}:x∈mZ M u v↔(M.find x).isSome=true∨x=u∨x=v:=by
 unfold mZ;rw[qE,fM h];simp only[zA,qB,List.not_mem_nil,or_false,Bool.not_eq_true'];constructor
 {
 rintro(h|⟨h,_⟩)
 · exact .inl h
 · exact .inr h}
 {
 rintro(h|h)
 · exact .inl h
 {
 by_cases hf:(M.find x).isSome=true
 · exact .inl hf
 · exact .inr ⟨h,by simpa using hf⟩}}
theorem xB{M:Md}(h:M.Ok){u v:Nat}(hne:u≠v):(mZ M u v).Nodup:=by
 unfold mZ;rw[qN];refine⟨h.ids,(qO.2 ⟨by simpa using hne,by simp⟩).filter _,fun a ha b hb e=>?_⟩;subst e;rw[fM h]at ha;simp only[zA,Bool.not_eq_true']at hb;rw[ha]at hb;cases hb.2
structure Wm where
  m:Int
  E:Nat
  V:Nat
  D:Int
  now:Int
  s:Sm
  Q:Nat->Option Int
  G:Nat->Option (Nat×Nat×Int)
  gone:Nat
structure Wm.Ok (W:Wm):Prop where
  ok:W.s.Ok
  hV:W.s.V=W.V
  hE:W.s.E=W.E
  lk:Lk W.s W.Q W.G
  x:∀e∈W.s.L,e.x=e.t+W.m/\0<=e.t/\e.t<=W.now/\W.now<e.x
  mono:W.s.L.Pairwise fun a b=>a.t<=b.t
  num:∀i (h:i<W.s.L.length),(W.s.L[i]).seq=W.gone+i+1
  last:W.s.last=W.gone+W.s.L.length
  max:W.s.last<=9223372036854775807
  m1:1<=W.m
  m2:W.m<=9223372036854775807
  n0:0<=W.now
  n1:W.now+W.m<=9223372036854775807
def Wm.new(m:Int)(E V:Nat)(D:Int)(gone:Nat):Wm:={ m:=m,E:=E,V:=V,D:=D,now:=0,s:=Sm.new V E gone,Q:=fun _=>none,G:=fun _=>none,gone:=gone }
theorem Wm.new_ok{m:Int}{E V:Nat}{D:Int}{gone:Nat}(h1:1<=m)(h2:m<=9223372036854775807)(hE:E<=16384)(hV:V<=4096)(hg:gone<=9223372036854775807):(Wm.new m E V D gone).Ok:=
  ⟨Sm.ok_new hV hE (by omega),rfl,rfl,Lk.new _ _ _,fun e he=>(by cases he),List.Pairwise.nil,fun i hi=>absurd hi (Nat.not_lt_zero _),rfl,hg,h1,h2,Int.le_refl _,by show 0+m<=_;omega⟩
end Go.Proofs.YtjdgpcjbgjnahaaGreatDoor
