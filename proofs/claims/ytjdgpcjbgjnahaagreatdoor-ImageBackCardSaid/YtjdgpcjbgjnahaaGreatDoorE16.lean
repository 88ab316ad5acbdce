/- What the laws of images have in common; with windows that are compared. -/
import Derived.Test.YtjdgpcjbgjnahaaGreatDoorE4
import Derived.Test.YtjdgpcjbgjnahaaGreatDoorE15
set_option maxRecDepth 10000
set_option maxHeartbeats 4000000
set_option linter.unusedSimpArgs false
set_option linter.unusedVariables false
/- A region that draws its order, with several operations that change the world one after the other, which may be guarded; every other operation gives the same value at every stage. -/
namespace Go.Proofs.YtjdgpcjbgjnahaaGreatDoor
open Go.RowKit
section
variable {P:Program} {ops:Array Oper} {md:Region.Mode} (G:Nat->Sem Go.Next->Value->Prop) (must:Nat->Bool)
def sOp(ops:Array Oper)(i:Nat)(K:Act->Prop)(a:Act):Prop:=
  match ops[i]? with
  | none=>K a
  | some o=>if Region.wanted o (yielded ops a.tmps) then ∃v,G i (execOp a.eval o) v/\K (a.put o.dst v) else must i=false/\K (a.put o.dst undef)
def vW(ops:Array Oper)(Q:Act->Prop):Nat->List Oper->Act->Prop
  | _,[],a=>Q a
  | k,o::rest,a=>if Region.wanted o (yielded ops a.tmps) then ∃v,G k (execOp a.eval o) v/\vW ops Q (k+1) rest (a.put o.dst v) else must k=false/\vW ops Q (k+1) rest (a.put o.dst undef)
def aKT(md:Region.Mode)(ops:Array Oper)(Q:Act->Prop):Nat->Array Bool->Act->Prop
  | 0,listed,a=>Region.ready md ops listed=[]/\Q a
  | fuel+1,listed,a=>
    (Region.ready md ops listed=[]->Q a)/\∀i∈Region.ready md ops listed,sOp G must ops i (aKT md ops Q fuel (listed.setIfInBounds i true)) a
variable {G must}
def fC(G:Nat->Sem Go.Next->Value->Prop)(must:Nat->Bool)(ops:Array Oper)(i:Nat)(o:Oper)(v:Value)(a:Act):Prop:=
  (Region.wanted o (yielded ops a.tmps)=true/\G i (execOp a.eval o) v)∨(Region.wanted o (yielded ops a.tmps)=false/\must i=false/\v=undef)
theorem fC.op{i:Nat}{o:Oper}{v:Value}{a:Act}(hi:ops[i]? =some o)(hy:fC G must ops i o v a){K:Act->Prop}(h:K (a.put o.dst v)):sOp G must ops i K a:=by
 unfold sOp;simp only[hi];rcases hy with⟨hw,hv⟩|⟨hw,hm,rfl⟩
 · rw[qD hw];exact⟨v,hv,h⟩
 · rw[qC (by simp[hw])];exact⟨hm,h⟩
theorem fC.same{i:Nat}{o:Oper}{v:Value}{a a' :Act}(hy:fC G must ops i o v a)(he:execOp a'.eval o=execOp a.eval o)
    (hw:Region.wanted o (yielded ops a'.tmps)=Region.wanted o (yielded ops a.tmps)):fC G must ops i o v a' :=by
 unfold fC at *;rw[he,hw];exact hy
theorem aPL{i:Nat}{a:Act}{K K' :Act->Prop}(h:∀a,K a->K' a)(hh:sOp G must ops i K a):sOp G must ops i K' a:=by
 unfold sOp at *;cases ho:ops[i]? with
 | none=>simp only[ho]at hh ⊢;exact h _ hh
 | some o=>{
 simp only[ho]at hh ⊢;by_cases hw:Region.wanted o (yielded ops a.tmps)=true
 · rw[qD hw]at *;obtain⟨v,h1,h2⟩:=hh;exact⟨v,h1,h _ h2⟩
 · rw[qC hw]at *;exact⟨hh.1,h _ hh.2⟩}
theorem wT{i:Nat}{o:Oper}{a:Act}{K:Act->Prop}(hi:ops[i]? =some o)(h:sOp G must ops i K a):∃v,fC G must ops i o v a/\K (a.put o.dst v):=by
 unfold sOp at h;simp only[hi]at h;by_cases hw:Region.wanted o (yielded ops a.tmps)=true
 {
 rw[qD hw]at h;obtain⟨v,h1,h2⟩:=h;exact⟨v,.inl ⟨hw,h1⟩,h2⟩}
 {
 rw[qC hw]at h;exact⟨undef,.inr ⟨by simpa using hw,h.1,rfl⟩,h.2⟩}
theorem aSV{i j:Nat}{oi oj:Oper}{v:Value}(hj:ops[j]? =some oj)(hap:oi.apart ops oj=true)
    (hsi:∀cs b,oi.op≠.select cs b) (hsj:∀cs b,oj.op≠.select cs b) {K:Act->Prop} {a:Act}
    (hy:fC G must ops i oi v a) (h:sOp G must ops j K (a.put oi.dst v)):
    sOp G must ops j (fun a' =>fC G must ops i oi v a' /\ K (a'.put oi.dst v)) a:=by
 obtain⟨h1,h2,h3⟩:=Oper.apart_spec hap;have keep:∀(a:Act),fC G must ops i oi v a->∀u,fC G must ops i oi v (a.put oj.dst u):=fun a hy u=>
   hy.same (execOp_put oi hsi a oj.dst u h3) (wanted_put oi a oj.dst u h3)
 unfold sOp at *;simp only[hj]at *;rw[wanted_put oj a oi.dst v h1]at h;by_cases hw:Region.wanted oj (yielded ops a.tmps)=true
 {
 rw[qD hw]at *;obtain⟨u,hu,hn⟩:=h;rw[execOp_put oj hsj a oi.dst v h1]at hu;exact⟨u,hu,keep a hy u,by rw[<-Act.put_comm a v u h2];exact hn⟩}
 {
 rw[qC hw]at *;exact⟨h.1,keep a hy _,by rw[<-Act.put_comm a v undef h2];exact h.2⟩}
theorem aGD{Q:Act->Prop}{i:Nat}{oi:Oper}{v:Value}(hi:ops[i]? =some oi)(hsel:∀(j:Nat) (o:Oper) cs b,ops[j]? =some o->o.op≠.select cs b):
    ∀(fuel:Nat) (listed:Array Bool) (a:Act),
      (∀j oj,ops[j]? =some oj->j≠i->listed.getD j true=false->(∀e∈oj.after,Region.binds md e=true->e.on≠i)->oi.apart ops oj=true) ->
      i∈Region.ready md ops listed->fC G must ops i oi v a ->
      aKT G must md ops Q fuel (listed.setIfInBounds i true) (a.put oi.dst v)->aKT G must md ops Q (fuel+1) listed a:=by
  intro fuel;induction fuel with
  | zero=>
    intro listed a _ hr hy H;refine⟨fun h=>(by rw[h]at hr;cases hr),fun j hj=>?_⟩;by_cases hji:j=i
    · subst hji;exact hy.op hi H
    · have := ready_mono hj hji
      rw[H.1]at this;cases this
  | succ fuel ih=>
    intro listed a hfree hr hy H;refine⟨fun h=>(by rw[h]at hr;cases hr),fun j hj=>?_⟩;by_cases hji:j=i
    · subst hji;exact hy.op hi H
    · have h1 := H.2 j (ready_mono hj hji)
      obtain⟨hjun,oj,hoj,hall⟩:=mem_ready.1 hj;have hnot:∀e∈oj.after,Region.binds md e=true->e.on≠i:=fun e he hb heq=>by
        have h1:=hall e he hb;have h0:=(mem_ready.1 hr).1;rw[heq]at h1;rcases Nat.lt_or_ge i listed.size with h' | h'
        · simp[h']at h0 h1;rw[h0]at h1;cases h1
        · simp[Array.getElem?_eq_none h']at h1
      have h2:=aSV hoj (hfree j oj hoj hji hjun hnot) (fun cs b=>hsel i oi cs b hi) (fun cs b=>hsel j oj cs b hoj) hy h1
      have hfree' :∀k ok,ops[k]? =some ok->k≠i->(listed.setIfInBounds j true).getD k true=false ->
          (∀e∈ok.after,Region.binds md e=true->e.on≠i)->oi.apart ops ok=true:=fun k ok hk hki hun hno=>by
        refine hfree k ok hk hki ?_ hno;by_cases hjk:j=k
        · subst hjk;exact hjun
        · rw[getD_set_ne true hjk]at hun;exact hun
      refine aPL (fun a' h3=>ih (listed.setIfInBounds j true) a' hfree' (ready_mono hr (Ne.symm hji)) h3.1 ?_) h2;rw[Array.setIfInBounds_comm _ _ hji];exact h3.2
theorem aDS{Q:Act->Prop}(hs:Region.noSelect ops=true):∀(l:List Oper) (k:Nat) (listed:Array Bool) (a:Act),(∀j,l[j]? =ops[k+j]?) ->
    Region.lexFrom md ops l.length k listed=true->vW G must ops Q k l a->aKT G must md ops Q l.length listed a
  | [],_,_,_,_,hB,h=>⟨by simpa[Region.lexFrom] using hB,h⟩
  | o::l,k,listed,a,hl,hB,h=>by
    have h0:ops[k]? =some o:=by simpa using (hl 0).symm
    simp only[qZ,Region.lexFrom,qX]at hB;obtain⟨⟨hr,hf⟩,hB'⟩:=hB;have hst:sOp G must ops k (vW G must ops Q (k+1) l) a:=by unfold sOp;simp only[h0];exact h
    obtain⟨v,hy,hK⟩:=wT h0 hst
    exact aGD h0 (Region.noSelect_spec hs) l.length listed a (Region.free_spec h0 hf) (by simpa using hr) hy
      (aDS hs l (k+1) _ _ (fun j=>by have:=hl (j+1);simpa[Nat.add_assoc,Nat.add_comm 1 j] using this) hB' hK)
end
def aDT(P:Program)(cs:List Nat)(C:Nat->World->Prop)(i:Nat)(s:Sem Go.Next)(v:Value):Prop:=
  if i∈cs then ∀w,C (cs.idxOf i) w->dN P (C (cs.idxOf i+1)) v (s.run P w) else ∀q w,C q w->Oper.quietUpon P (C q) w v (s.run P w)
section
variable {P:Program} {ops:Array Oper} {md:Region.Mode} {C:Nat->World->Prop} {cs:List Nat}
theorem aDU(hrow:rowB md ops cs=true)(hb:gC md ops=true){Q:Act->Prop}{Q' :Exit->Act->World->Prop}(hQ:∀a w,C cs.length w->Q a->Q' .normal a w):∀(fuel:Nat) (listed:Array Bool) (a:Act) (w:World),listed.size=ops.size ->
    uH md ops listed->C (cnt cs listed) w->aKT (aDT P cs C) (fun i=>decide (i∈cs)) md ops Q fuel listed a->wpAny P md ops Q' fuel listed a w:=by
 have hend:∀listed:Array Bool,listed.size=ops.size->Region.ready md ops listed=[]->cnt cs listed=cs.length:=by {
 intro listed hs h0;unfold cnt;rw[List.countP_eq_length];intro c hc;exact mP hs hb h0 c (aEN hrow c hc)};have hnd:cs.Nodup:=(jZ hrow).imp (fun h=>Nat.ne_of_lt h);intro fuel;induction fuel with
 | zero=>{
 intro listed a w hs _ hp h;exact⟨h.1,hQ _ _ (by rw[hend listed hs h.1]at hp;exact hp) h.2⟩}
 | succ fuel ih=>{
 intro listed a w hs hsh hp h;refine⟨fun h0=>hQ _ _ (by rw[hend listed hs h0]at hp;exact hp) (h.1 h0),fun i hi=>?_⟩;have hg:=h.2 i hi;obtain⟨hun,oi,hoi,_⟩:=mem_ready.1 hi;have hil:i<ops.size:=(qM.1 hoi).1;have hs' :(listed.setIfInBounds i true).size=ops.size:=by simp[hs]
 have hl0:listed.getD i false=false:=by simp[hs,hil]at hun ⊢;exact hun
 have next:∀a' w', C (cnt cs (listed.setIfInBounds i true)) w' -> aKT (aDT P cs C) (fun i=>decide (i∈cs)) md ops Q fuel (listed.setIfInBounds i true) a' -> wpAny P md ops Q' fuel (listed.setIfInBounds i true) a' w' :=
   fun a' w' hp' hg' =>ih _ a' w' hs' (hsh.set hi) hp' hg'
 unfold sOp at hg;unfold wpOp;simp only[hoi]at hg ⊢;by_cases hmem:i∈cs
 {
 have hcs:=aGN (L:=listed) (by omega) hl0 hnd hmem;have hidx:cs.idxOf i=cnt cs listed:=by {
 have hlt:=List.idxOf_lt_length_of_mem hmem;have hget:cs[cs.idxOf i]? =some i:=by rw[qL hlt,List.getElem_idxOf]
 have h1:=gD hsh hrow _ _ hget;rw[hl0]at h1;have hge:cnt cs listed<=cs.idxOf i:=by {
 apply qQ;intro hx;have:=h1.2 (by omega);cases this};have h2:=gD (hsh.set hi) hrow _ _ hget;rw[hcs]at h2;have h3:(listed.setIfInBounds i true).getD i false=true:=by simp[hs,hil]
 have:=h2.1 h3;omega};by_cases hw:Region.wanted oi (yielded ops a.tmps)=true
 {
 rw[qD hw]at hg ⊢;obtain⟨v,hv,hk⟩:=hg;unfold aDT at hv;rw[qD hmem,hidx]at hv;exact .inl (oB (fun w' hc' =>next _ w' (by rw[hcs];exact hc') hk) (hv w hp))}
 {
 rw[qC hw]at hg;exact absurd hmem (of_decide_eq_false hg.1)}}
 {
 have hcs:=xB (L:=listed) hmem;by_cases hw:Region.wanted oi (yielded ops a.tmps)=true
 {
 rw[qD hw]at hg ⊢;obtain⟨v,hv,hk⟩:=hg;unfold aDT at hv;left
 rw[qC hmem]at hv;exact oA hp (fun w' hc' =>next _ w' (by rw[hcs];exact hc') hk) (hv _ w hp)}
 {
 rw[qC hw]at hg ⊢;exact next _ w (by rw[hcs];exact hp) hg.2}}}
structure SW (P:Program) (ops:Array Oper) (cs:List Nat) (C:Nat->World->Prop) (Q:Act->Prop) (k:Nat) (l:List Oper) (a:Act):Prop where
  out:vW (aDT P cs C) (fun i=>decide (i∈cs)) ops Q k l a
theorem aKU(cs:List Nat){id:Nat}{Q:Exit->Act->World->Prop}{a:Act}{w:World}{l:List Oper}(C:Nat->World->Prop)(hm:P.follows .mixedOrders=true)(hB:Region.lexB .any l.toArray=true)(hk:(gC .any l.toArray&&rowB .any l.toArray cs)=true)
    (hC:C 0 w.drew) (h:SW P l.toArray cs C (fun a' =>∀w', C cs.length w' -> Q .normal a' w') 0 l a):(Code.region id l.toArray true).wp P Q a w:=by
 simp only[Region.lexB,qX]at hB;rw[qX]at hk;refine wp_region_any hm (aDU (Q:=fun a' =>∀w', C cs.length w' -> Q .normal a' w') (C:=C) (cs:=cs) hk.2 hk.1 (fun _ w' hw' h=>h w' hw') _ _ _ _ (by simp) ?_ ?_ ?_)
 · intro j oj _ hl;rw[fK]at hl;cases hl
 {
 have:cnt cs (Array.replicate l.toArray.size false)=0:=by unfold cnt;rw[List.countP_eq_zero];intro c _;rw[fK];simp
 rw[this];exact hC}
 {
 have:=aDS (G:=aDT P cs C) (must:=fun i=>decide (i∈cs)) (md:=.any) hB.1 l 0 (Array.replicate l.toArray.size false) a (by simp) (by simpa using hB.2) h.out;simpa using this}
variable {Q:Act->Prop} {k:Nat} {o:Oper} {rest:List Oper} {a:Act}
theorem aGE(hk:decide (k∈cs)=false)(hw:Region.wanted o (yielded ops a.tmps)=true)(v:Value)
    (h0:∀q w,C q w->Oper.quietUpon P (C q) w v ((execOp a.eval o).run P w)) (h:SW P ops cs C Q (k+1) rest (a.put o.dst v)):SW P ops cs C Q k (o::rest) a:=by
 refine⟨?_⟩;unfold vW;rw[qD hw];refine⟨v,?_,h.out⟩;unfold aDT;rw[qC (of_decide_eq_false hk)];exact h0
theorem tK(hk:decide (k∈cs)=false)(hw:Region.wanted o (yielded ops a.tmps)=true)
    (h:∀K:Act->Prop,Hid (∀a,SW P ops cs C Q (k+1) rest a->K a)->Oper.pure_ P o a K):SW P ops cs C Q k (o::rest) a:=by
 obtain⟨v,h1,h2⟩:=h _ (qA fun a h=>h);refine aGE hk hw v (fun q w _=>?_) h2;have:=h1 w;unfold Oper.quietUpon;unfold Oper.quietAt at *;revert this;generalize (execOp a.eval o).run P w=r;intro this;cases r with
 | halt x w' =>exact this.elim
 | ok x w' =>{
 cases x with
 | value u=>exact⟨this.1,this.2⟩
 | skip=>exact⟨this.1,this.2⟩
 | _=>exact this.elim}
theorem aAS(q:Nat)(hk:(decide (k∈cs)&&decide (cs.idxOf k=q))=true)(hw:Region.wanted o (yielded ops a.tmps)=true)(v:Value)
    (h0:∀w,C q w->dN P (C (q+1)) v ((execOp a.eval o).run P w)) (h:SW P ops cs C Q (k+1) rest (a.put o.dst v)):SW P ops cs C Q k (o::rest) a:=by
 rw[qX]at hk;refine⟨?_⟩;unfold vW;rw[qD hw];refine⟨v,?_,h.out⟩;unfold aDT;rw[qD (of_decide_eq_true hk.1),of_decide_eq_true hk.2];exact h0
theorem aWM(h:Q a):SW P ops cs C Q k [] a:=⟨h⟩
end
theorem walk_imageBack(W:World)(s:Int)(ws:(Lit.int .u8 s).wf=true)(a1:Option Addr)(l1 c1:Nat)(z1:Nat->Mv)(hz1:kQ W a1 l1 z1)(a2:Option Addr)(l2 c2:Nat)(z2:Nat->Mv)(hz2:kQ W a2 l2 z2)(hL:fZ W):
    Calls Tryz.prog 14 #[.int .u8 s,.slice a1 l1 c1,.slice a2 l2 c2] W fun e W' =>e=.returned (.bool true)/\Below W.heap.size W W' :=by
 obtain⟨s,rfl,hs⟩:=yG ws;have HL:=qA hL;have HP1:=qA (vV (cap:=c1) (Wd.begin W) hs hz1);have HZ:=qA hz2;clear hL ws hs hz1 hz2;go_enter Tryz.func14,Tryz.ntmps14
 go_wp2_with fail
 refine HP1.out.mono ?_;rintro _ w1 ⟨p,o,rfl,hW,hB⟩;have HB:=qA hB;have hok:=hW.ob;have hload:=hB.pc.load hok;have hlen:=o.img_len;have hLn:=hok.leE;have hLE:=hok.mE;have HS:=qA (nC hW HL.out hB.pc);clear HP1 hW hB;go_wp2_with fail
 refine HS.out.mono ?_;rintro _ w2 ⟨v,rfl,hW⟩;obtain⟨b,cb,rfl,hcb,hrd⟩:=hW.formB (by rw[hlen];omega);have HLd:=qA (aAQ hW HL.out hrd o.img_byt rfl (by omega) hcb hload);clear HS hW hcb hrd hload hlen hLn hLE;go_wp2_with fail
 refine HLd.out.mono ?_;rintro _ w3 ⟨q,rfl,hW⟩;have hW:=hW.drop2.swap;have HA:=qA (yI hW);clear HLd hW hok;go_wp2_with fail
 refine HA.out.mono ?_;rintro _ w4 ⟨rfl,hW⟩;have HE:=qA (cC hW HL.out HB.out.pc HB.out.pc);clear HA hW;go_wp2_with fail
 refine HE.out.mono ?_;rintro _ w5 ⟨x,rfl,hx,hW⟩;have hxv:x=true:=hx.2 (by first|trivial|rfl);subst hxv;have HP0:=qA (show ∃o,Wd W w5 (thO p o::[thO q o])/\Bp s (80+0) o from⟨o,hW,HB.out⟩);clear hx HE hW HB;go_wp2_with fail
 go_loopw [12] (fun c wr=>∃i:Nat,i<=l2/\i<=40/\c=.int .i64 i/\Hid (∃o,Wd W wr (thO p o::[thO q o])/\Bp s (80+i) o)) (fun c _=>40-(intOf c).toNat)
 case atStart=>exact⟨0,by omega,by omega,rfl,HP0⟩
 case round=>
  clear HP0;obtain⟨i,hi,hi4,rfl,HP⟩:=hrel;rename World=>wr
  by_cases hgo:i<l2/\i<40
  {
  obtain⟨hlt,h40⟩:=hgo;have e1:(i:Int)<l2:=by omega
  have e2:(i:Int)<40:=by omega
  have e0:(0:Int)<=i:=by omega
  have d1:decide ((i:Int)<l2)=true:=qG e1;have d2:decide ((i:Int)<40)=true:=qG e2;have hw1:IntKind.i64.wrap ((i:Int)+1)=((i+1:Nat):Int):=by rw[show(i:Int)+1=((i+1:Nat):Int) by omega];exact zG _ (by omega)
  obtain⟨o,hW,hB⟩:=HP.out;obtain⟨bm,off,rfl,hbm,m0,m1,m2,m3,hmok⟩:=HZ.out.2 i hlt;have hnew:=hB.mv hW.ob hmok;obtain⟨o2,ho2⟩:∃o2,o2=o.mvO (z2 i):=⟨_,rfl⟩;obtain⟨er,her⟩:∃er,er=o.mvE (z2 i):=⟨_,rfl⟩;rw[<-ho2]at hnew;have hB' :Bp s (80+(i+1)) o2:=hnew;obtain⟨CS,hC0,hC1,hC2,hC3,hCF⟩:∃CS:Nat->World->Prop,(∀w', CS 0 w' ↔ Wd W w' (thO p o::[thO q o]))/\(∀w', CS 1 w' ↔ Wd W w' (thO p o2::[thO q o]))/\(∀w', CS 2 w' ↔ Wd W w' (thO p o2::[thO q o2]))/\(∀w', CS 3 w' ↔ Wd W w' (thO p o2::[thO q o2]))/\(∀k w', CS k w' -> Fr [] W w'):=by {
  clear ho2 her hnew hB hB';exact⟨fun k w' =>Wd W w' (thO p (if 1<=k then o2 else o)::[thO q (if 2<=k then o2 else o)]),fun _=>Iff.rfl,fun _=>Iff.rfl,fun _=>Iff.rfl,fun _=>Iff.rfl,fun k w' h=>Wd.frm h⟩};have HC0:=qA ((hC0 wr.drew).2 (hW.fr0 (Fr.refl [] wr).drew));have HM1:=qA (show ∀w', CS 0 w' -> Calls Tryz.prog 45 #[cJ p,.agg #[.int .u8 (z2 i).1,.int .u8 (z2 i).2.1,.int .u8 (z2 i).2.2.1,.int .i64 (z2 i).2.2.2]] w' fun e w'' =>e=.returned (.int .i64 er)/\CS 1 w'' from fun w' h=>by
    refine(aGB ((hC0 w').1 h) hB (by omega) (z2 i) hmok).mono fun _ w'' k=>?_;rw[<-her,<-ho2]at k;exact⟨k.1,(hC1 w'').2 k.2⟩)
  have HM2:=qA (show ∀w', CS 1 w' -> Calls Tryz.prog 45 #[cJ q,.agg #[.int .u8 (z2 i).1,.int .u8 (z2 i).2.1,.int .u8 (z2 i).2.2.1,.int .i64 (z2 i).2.2.2]] w' fun e w'' =>e=.returned (.int .i64 er)/\CS 2 w'' from fun w' h=>by
    refine(aGB ((hC1 w').1 h).swap hB (by omega) (z2 i) hmok).mono fun _ w'' k=>?_;rw[<-her,<-ho2]at k;exact⟨k.1,(hC2 w'').2 k.2.swap⟩)
  have HAl:=qA (show ∀w', CS 2 w' -> Calls Tryz.prog 44 #[cJ p,cJ q] w' fun e w'' =>e=.returned (.bool true)/\CS 3 w'' from fun w' h=>
    (yI ((hC2 w').1 h)).mono fun _ w'' k=>⟨k.1,(hC3 w'').2 k.2⟩)
  have HEnd:=qA (show ∀w', CS 3 w' -> ∃o,Wd W w' (thO p o::[thO q o])/\Bp s (80+(i+1)) o from fun w' h=>⟨o2,(hC3 w').1 h,hB'⟩);have HCl:=qA (show ∀k w', CS k w' -> w'.cell? ⟨bm,off+i*4,none⟩=some (.int .u8 (z2 i).1)/\w'.cell? ⟨bm,off+i*4+1,none⟩=some (.int .u8 (z2 i).2.1)/\w'.cell? ⟨bm,off+i*4+2,none⟩=some (.int .u8 (z2 i).2.2.1)/\w'.cell? ⟨bm,off+i*4+3,none⟩=some (.int .i64 (z2 i).2.2.2) from fun k w' h=>by
    have hf:=hCF k w' h;exact⟨hf.cell m0 (by simp),hf.cell m1 (by simp),hf.cell m2 (by simp),hf.cell m3 (by simp)⟩)
  clear hC0 hC1 hC2 hC3 hCF hB' ho2 her hnew hW hB m0 m1 m2 m3 hmok HP hbm;generalize z2 i=mv at *;obtain⟨ma,mu,mvv,mw⟩:=mv;go_wp2_with fail
  refine aKU [5,11,16] CS (by kernel_rfl) (by kernel_rfl) (by kernel_rfl) HC0.out ?_;iterate 4 (refine tK (by decide) (by kernel_rfl) (fun KK hK=>?_);go_simp;refine hK.out _ ?_;clear hK KK)
  refine aGE (by decide) (by kernel_rfl) (.agg #[.int .u8 ma,.int .u8 mu,.int .u8 mvv,.int .i64 mw]) (fun q w' hw' =>?_) ?_
  {
  obtain⟨y0,y1,y2,y3⟩:=HCl.out q w' hw';go_simp;first|done|exact hw' | exact⟨rfl,hw'⟩};refine aAS 0 (by decide) (by kernel_rfl) (.int .i64 er) (fun w' hw' =>?_) ?_
  {
  unfold dN;go_simp;exact HM1.out w' hw'};iterate 4 (refine tK (by decide) (by kernel_rfl) (fun KK hK=>?_);go_simp;refine hK.out _ ?_;clear hK KK)
  refine aGE (by decide) (by kernel_rfl) (.agg #[.int .u8 ma,.int .u8 mu,.int .u8 mvv,.int .i64 mw]) (fun q w' hw' =>?_) ?_
  {
  obtain⟨y0,y1,y2,y3⟩:=HCl.out q w' hw';go_simp;first|done|exact hw' | exact⟨rfl,hw'⟩};refine aAS 1 (by decide) (by kernel_rfl) (.int .i64 er) (fun w' hw' =>?_) ?_
  {
  unfold dN;go_simp;exact HM2.out w' hw'};iterate 4 (refine tK (by decide) (by kernel_rfl) (fun KK hK=>?_);go_simp;refine hK.out _ ?_;clear hK KK)
  refine aAS 2 (by decide) (by kernel_rfl) (.bool true) (fun w' hw' =>?_) ?_
  {
  unfold dN;go_simp;exact HAl.out w' hw'};iterate 2 (refine tK (by decide) (by kernel_rfl) (fun KK hK=>?_);go_simp;refine hK.out _ ?_;clear hK KK)
  refine aWM ?_;intro w8 hw8;have HP8:=qA (HEnd.out w8 hw8);clear hw8 HM1 HM2 HAl HEnd HCl HC0;go_wp2_with fail
  go_roundw
  case rel=>exact⟨i+1,by omega,by omega,by go_num,HP8⟩
  case measure=>simp[intOf];omega}
  {
  have HX:=qA (show(decide ((i:Int)<l2)=false/\¬(i:Int)<l2)∨(decide ((i:Int)<l2)=true/\(i:Int)<l2/\decide ((i:Int)<40)=false/\¬(i:Int)<40) from by
    by_cases h:i<l2
    · exact .inr ⟨qG (by omega),by omega,qF (by omega),by omega⟩
    · exact .inl ⟨qF (by omega),by omega⟩)
  obtain⟨o,hW,hB⟩:=HP.out;have HO:=qA hB.pc;have HS:=qA (nC hW HL.out hB.pc);clear hW hB HP hgo;rcases HX.out with⟨d1,d3⟩|⟨d1,d3,d2,d4⟩
  all_goals
   go_wp2_with fail
   refine HS.out.mono ?_;rintro _ w6 ⟨v,rfl,hW⟩;have hW:=hW.third;have HS:=qA (nC hW HL.out HO.out);clear hW;go_wp2_with fail
   refine HS.out.mono ?_;rintro _ w7 ⟨v2,rfl,hW⟩;obtain⟨b1,cb1,rfl,hcb1,hr1⟩:=hW.third.formB (by rw[Ob.img_len];omega);obtain⟨b2,cb2,rfl,hcb2,hr2⟩:=hW.formB (by rw[Ob.img_len];omega);have hbd:o.img.length<=1073741824:=by have h1:=o.img_len;have h2:=hW.swap.ob.leE;have h3:=hW.swap.ob.mE;omega
   have hsm:=aPK (c1:=cb1) (c2:=cb2) hr1 hr2 rfl rfl hbd hcb1 hcb2;rw[qG (rfl:o.img=o.img)]at hsm;have HSm:=qA hsm;have HW:=qA hW;clear hW hsm hbd hr1 hr2 hcb1 hcb2;go_wp2_with fail
   refine HSm.out.mono ?_;rintro _ w8 ⟨rfl,hF⟩;have HWk:=qA (gP (HW.out.fr0 hF) HL.out);clear hF HW;go_wp2_with fail
   refine HWk.out.mono ?_;rintro _ w9 ⟨rfl,hW⟩;have hB:=hW.below;clear hW HWk;go_wp2
   go_ret;exact⟨rfl,hB⟩}
end Go.Proofs.YtjdgpcjbgjnahaaGreatDoor
namespace Go.Proofs.YtjdgpcjbgjnahaaGreatDoor
end Go.Proofs.YtjdgpcjbgjnahaaGreatDoor
