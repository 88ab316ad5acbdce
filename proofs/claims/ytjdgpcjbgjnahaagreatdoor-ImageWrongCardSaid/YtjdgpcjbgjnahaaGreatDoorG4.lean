/- The nodes of a link-cut forest in memory. -/
import Derived.Test.YtjdgpcjbgjnahaaGreatDoorG3
import Derived.Test.YtjdgpcjbgjnahaaGreatDoorG1
import Derived.Deep.RegionHeld3
import Derived.StillTailTactics
import Derived.Shelf.SlicesE.Index
import Derived.Shelf.SlicesG.Delete
import Derived.Sort.OwnSortedInts
import Derived.Deep.QuietTactic
import Derived.BigQuiet
set_option maxRecDepth 10000
set_option maxHeartbeats 1600000
set_option linter.unusedSimpArgs false
set_option linter.unusedVariables false
/- A region that draws its order, whose operations change the world at several places, which wait for each other in a row: one walk in the order of the text serves every order. -/
namespace Go.Proofs.YtjdgpcjbgjnahaaGreatDoor
open Go.RowKit
def gK(P:Program)(cs ps:List Nat)(C:Nat->World->Prop)(i:Nat)(s:Sem Go.Next)(v:Value):Prop:=
  if i<cs.headD 0/\i∉ps then ∀w,C 0 w->Oper.quietUpon P (C 0) w v (s.run P w)
  else if i∈cs then ∀w,C (cs.idxOf i) w->fO P (C (cs.idxOf i+1)) v (s.run P w) else ∀w,kU w v (s.run P w)
section
variable {P:Program} {ops:Array Oper} {md:Region.Mode} {C:Nat->World->Prop} {cs ps:List Nat}
def rowB(md:Region.Mode)(ops:Array Oper):List Nat->Bool
  | []=>true
  | [c]=>decide (c<ops.size)
  | c::d::r=>decide (c<ops.size)&&decide (c<d)&&(sT md ops (d+1) ((Array.replicate ops.size false).setIfInBounds d true)).getD c false&&rowB md ops (d::r)
theorem wV{L:Array Bool}(hL:uL md ops L){c d:Nat}(hB:(sT md ops (d+1) ((Array.replicate ops.size false).setIfInBounds d true)).getD c false=true)(hd:L.getD d false=true):L.getD c false=true:=by
 refine lX hL (d+1) _ ?_ c hB;intro j hj;by_cases e:d=j
 · rw[<-e];exact hd
 {
 rw[getD_set_ne false e,gR]at hj;cases hj}
def cnt(cs:List Nat)(L:Array Bool):Nat:=cs.countP (fun c=>L.getD c false)
theorem aHU:∀{cs:List Nat},rowB md ops cs=true->∀c∈cs,c<ops.size
  | [],_,c,hc=>by cases hc
  | [d],h,c,hc=>by simp[rowB]at h;simp at hc;omega
  | d::e::r,h,c,hc=>by
    simp only[rowB,qW,decide_eq_true_eq]at h;rcases qB.1 hc with rfl|hc
    · exact h.1.1.1
    · exact aHU h.2 c hc
theorem nD:∀{cs:List Nat},rowB md ops cs=true->cs.Pairwise (· < ·)
  | [],_=>.nil
  | [d],_=>by simp
  | d::e::r,h=>by
    simp only[rowB,qW,decide_eq_true_eq]at h;have ih:=nD h.2;refine List.Pairwise.cons (fun x hx=>?_) ih;rcases qB.1 hx with rfl|hx
    · exact h.1.1.2
    · exact Nat.lt_trans h.1.1.2 (List.rel_of_pairwise_cons ih hx)
theorem jS{L:Array Bool}(hL:uL md ops L):∀{cs:List Nat},rowB md ops cs=true->∀q c,cs[q]? =some c->(L.getD c false=true↔q<cnt cs L)
  | [],_,q,c,h=>by simp at h
  | [d],_,q,c,h=>by
    cases q with
    | succ q=>simp at h
    | zero=>
      simp at h;subst h;simp only[cnt,List.countP_cons,List.countP_nil];by_cases hd:L.getD d false=true<;>simp[hd]
  | d::e::r,hB,q,c,h=>by
    simp only[rowB,qW]at hB;have ih:=jS hL hB.2;by_cases hd:L.getD d false=true
    · have hcnt : cnt (d :: e :: r) L = cnt (e :: r) L + 1 := by simp only [cnt, List.countP_cons, hd]; simp
      cases q with
      | zero=>simp at h;subst h;rw[hcnt];simp[hd]
      | succ q=>
        have:=ih q c (by simpa using h);rw[hcnt,this];omega
    · have he : ¬ L.getD e false = true := fun he => hd (wV hL hB.1.2 he)
      have h0:cnt (e::r) L=0:=by
        have:=ih 0 e (by simp);apply qP;intro hne;exact he (this.2 (by omega))
      have hcnt:cnt (d::e::r) L=0:=by
        have:cnt (d::e::r) L=cnt (e::r) L:=by simp only[cnt,List.countP_cons];simp[hd]
        rw[this,h0]
      rw[hcnt];cases q with
      | zero=>simp at h;subst h;simp[hd]
      | succ q=>
        have:=ih q c (by simpa using h);rw[h0]at this;rw[this];omega
theorem aMJ{L:Array Bool}{i:Nat}(hs:i<L.size)(hl:L.getD i false=false)(hnd:cs.Nodup)(hi:i∈cs):cnt cs (L.setIfInBounds i true)=cnt cs L+1:=by
 unfold cnt;induction cs with
 | nil=>cases hi
 | cons d r ih=>{
 simp only[qN]at hnd;simp only[List.countP_cons];by_cases e:d=i
 {
 subst e;have h1:r.countP (fun c=>(L.setIfInBounds d true).getD c false)=r.countP (fun c=>L.getD c false):=by {
 apply List.countP_congr;intro c hc;rw[getD_set_ne false (show d≠c by rintro rfl;exact hnd.1 hc)]};rw[h1];have h2:(L.setIfInBounds d true).getD d false=true:=by simp[hs]
 rw[h2,hl];simp}
 {
 rw[ih hnd.2 ((qB.1 hi).resolve_left (fun h=>e h.symm)),getD_set_ne false (fun h=>e h.symm)];omega}}
theorem aFS{L:Array Bool}{i:Nat}(hi:i∉cs):cnt cs (L.setIfInBounds i true)=cnt cs L:=by
 unfold cnt;apply List.countP_congr;intro c hc;rw[getD_set_ne false (show i≠c by rintro rfl;exact hi hc)]
def allBefore' (md:Region.Mode)(ops:Array Oper)(c:Nat)(ps:List Nat):Bool:=(List.range c).all fun i=>ps.contains i||(sT md ops (c+1) ((Array.replicate ops.size false).setIfInBounds c true)).getD i false
theorem before_listed' {L:Array Bool}{c:Nat}(hL:uL md ops L)(hB:allBefore' md ops c ps=true)(hc:L.getD c false=true):∀i,i<c/\i∉ps->L.getD i false=true:=by
 intro i hi;have h1:=List.all_eq_true.1 hB i (by simpa using hi.1);simp only[Bool.or_eq_true,List.contains_iff_mem]at h1;refine lX hL (c+1) _ ?_ i (h1.resolve_left hi.2);intro j hj;by_cases e:c=j
 · rw[<-e];exact hc
 {
 rw[getD_set_ne false e,gR]at hj;cases hj}
theorem wW(hrow:rowB md ops cs=true)(hne:cs≠[])(hb:iW md ops=true)(hbf:allBefore' md ops (cs.headD 0) ps=true)(hu:∀c∈cs,∀o,ops[c]? =some o->o.guard=none){Q:Act->Prop}{Q' :Exit->Act->World->Prop}(hQ:∀a w,C cs.length w->Q a->Q' .normal a w):∀(fuel:Nat) (listed:Array Bool) (a:Act) (w:World),listed.size=ops.size ->
    uL md ops listed->C (cnt cs listed) w->yU (gK P cs ps C) md ops Q fuel listed a->wpAny P md ops Q' fuel listed a w:=by
 have hend:∀listed:Array Bool,listed.size=ops.size->Region.ready md ops listed=[]->cnt cs listed=cs.length:=by {
 intro listed hs h0;unfold cnt;rw[List.countP_eq_length];intro c hc;exact pH hs hb h0 c (aHU hrow c hc)};have hnd:cs.Nodup:=(nD hrow).imp (fun h=>Nat.ne_of_lt h);intro fuel;induction fuel with
 | zero=>{
 intro listed a w hs _ hp h;exact⟨h.1,hQ _ _ (by rw[hend listed hs h.1]at hp;exact hp) h.2⟩}
 | succ fuel ih=>{
 intro listed a w hs hsh hp h;refine⟨fun h0=>hQ _ _ (by rw[hend listed hs h0]at hp;exact hp) (h.1 h0),fun i hi=>?_⟩;have hg:=h.2 i hi;obtain⟨hun,oi,hoi,_⟩:=mem_ready.1 hi;have hil:i<ops.size:=(qL.1 hoi).1;have hs' :(listed.setIfInBounds i true).size=ops.size:=by simp[hs]
 have hl0:listed.getD i false=false:=by simp[hs,hil]at hun ⊢;exact hun
 have next:∀a' w', C (cnt cs (listed.setIfInBounds i true)) w' -> yU (gK P cs ps C) md ops Q fuel (listed.setIfInBounds i true) a' -> wpAny P md ops Q' fuel (listed.setIfInBounds i true) a' w' :=
   fun a' w' hp' hg' =>ih _ a' w' hs' (hsh.set hi) hp' hg'
 unfold gOp at hg;unfold wpOp;simp only[hoi]at hg ⊢;by_cases hmem:i∈cs
 {
 have hcs:=aMJ (L:=listed) (by omega) hl0 hnd hmem;have hhead:¬i<cs.headD 0:=by {
 cases hcc:cs with
 | nil=>exact absurd hcc hne
 | cons d r=>{
 rw[hcc]at hmem;have:=nD hrow;rw[hcc]at this;rcases qB.1 hmem with rfl|hm
 · simp
 · have:=List.rel_of_pairwise_cons this hm;simp;omega}};have hidx:cs.idxOf i=cnt cs listed:=by {
 have hlt:=List.idxOf_lt_length_of_mem hmem;have hget:cs[cs.idxOf i]? =some i:=by rw[qK hlt,List.getElem_idxOf]
 have h1:=jS hsh hrow _ _ hget;rw[hl0]at h1;have hge:cnt cs listed<=cs.idxOf i:=by {
 apply qP;intro hx;have:=h1.2 (by omega);cases this};have h2:=jS (hsh.set hi) hrow _ _ hget;rw[hcs]at h2;have h3:(listed.setIfInBounds i true).getD i false=true:=by simp[hs,hil]
 have:=h2.1 h3;omega};have hw:Region.wanted oi (yielded ops a.tmps)=true:=by simp[Region.wanted,hu i hmem oi hoi]
 rw[qD hw]at hg ⊢;obtain⟨v,hv,hk⟩:=hg;unfold gK at hv;rw[qC (fun hx=>hhead hx.1),qD hmem,hidx]at hv;exact .inl (sS (fun w' hc' =>next _ w' (by rw[hcs];exact hc') hk) (hv w hp))}
 {
 have hcs:=aFS (L:=listed) hmem;by_cases hw:Region.wanted oi (yielded ops a.tmps)=true
 {
 rw[qD hw]at hg ⊢;obtain⟨v,hv,hk⟩:=hg;unfold gK at hv;left
 by_cases hlt:i<cs.headD 0/\i∉ps
 {
 have h0:cnt cs listed=0:=by {
 cases hcc:cs with
 | nil=>exact absurd hcc hne
 | cons d r=>{
 apply qP;intro hx;have h1:=(jS hsh hrow 0 d (by rw[hcc];rfl)).2 (by rw[hcc];omega);rw[hcc]at hlt hbf;rw[before_listed' hsh hbf h1 i hlt]at hl0;cases hl0}};rw[qD hlt]at hv;rw[h0]at hp;exact sR hp (fun w' hc' =>next _ w' (by rw[hcs,h0];exact hc') hk) (hv w hp)}
 {
 rw[qC hlt,qC hmem]at hv;exact vG (next _ w (by rw[hcs];exact hp) hk) (hv w)}}
 {
 rw[qC hw]at hg ⊢;exact next _ w (by rw[hcs];exact hp) hg}}}
theorem pX(cs ps:List Nat){id:Nat}{Q:Exit->Act->World->Prop}{a:Act}{w:World}{l:List Oper}(C:Nat->World->Prop)(hC:∀w', C 0 w' ↔ ∃n,w' =w.drewN n)(hm:P.follows .mixedOrders=true)(hB:Region.lexB .any l.toArray=true)
    (hk:(((iW .any l.toArray&&allBefore' .any l.toArray (cs.headD 0) ps)&&(rowB .any l.toArray cs&&!cs.isEmpty))&&cs.all fun c=>match l[c]? with|some o=>o.guard.isNone|none=>false)=true)
    (h:dN (gK P cs ps C) l.toArray (fun a' =>∀w', C cs.length w' -> Q .normal a' w') 0 l a):(Code.region id l.toArray true).wp P Q a w:=by
 simp only[Region.lexB,qW]at hB;rw[qW,qW,qW,qW]at hk;obtain⟨⟨⟨hk1,hk3⟩,hk4,hk5⟩,hk2⟩:=hk;have hne:cs≠[]:=by rintro rfl;simp at hk5
 have hg:∀c∈cs,∀o,l.toArray[c]? =some o->o.guard=none:=by {
 intro c hc o ho;have h1:=List.all_eq_true.1 hk2 c hc;simp only[List.getElem?_toArray]at ho;rw[ho]at h1;simpa using h1};refine wp_region_any hm (wW (Q:=fun a' =>∀w', C cs.length w' -> Q .normal a' w') (C:=C) (cs:=cs) (ps:=ps) hk4 hne hk1 hk3 hg (fun _ w' hw' h=>h w' hw') _ _ _ _ (by simp) ?_ ?_ ?_)
 · intro j oj _ hl;rw[gR]at hl;cases hl
 {
 have:cnt cs (Array.replicate l.toArray.size false)=0:=by unfold cnt;rw[List.countP_eq_zero];intro c _;rw[gR];simp
 rw[this];exact(hC _).2 ⟨1,rfl⟩}
 {
 have:=sQ (G:=gK P cs ps C) (md:=.any) hB.1 l 0 (Array.replicate l.toArray.size false) a (by simp) (by simpa using hB.2) h;simpa using this}
theorem lY{Q:Act->Prop}{k:Nat}{o:Oper}{rest:List Oper}{a:Act}(hk:decide (k<cs.headD 0/\k∉ps)=true)
    (h:∀K:Act->Prop,(∀a,dN (gK P cs ps C) ops Q (k+1) rest a->K a)->if Region.wanted o (yielded ops a.tmps) then o.quiet P a (C 0) K else K (a.put o.dst undef)):dN (gK P cs ps C) ops Q k (o::rest) a:=by
 have h:=h _ (fun _ h=>h);unfold dN;by_cases hw:Region.wanted o (yielded ops a.tmps)=true
 {
 rw[qD hw]at *;obtain⟨v,h1,h2⟩:=h;refine⟨v,?_,h2⟩;unfold gK;rw[qD (of_decide_eq_true hk)];exact h1}
 · rw[qC hw]at *;exact h
theorem iI{Q:Act->Prop}{k q:Nat}{o:Oper}{rest:List Oper}{a:Act}(hk:(decide (¬(k<cs.headD 0/\k∉ps))&&decide (k∈cs)&&decide (cs.idxOf k=q))=true)(hg:o.guard=none)(v:Value)
    (h0:∀w,C q w->fO P (C (q+1)) v ((execOp a.eval o).run P w)) (h:dN (gK P cs ps C) ops Q (k+1) rest (a.put o.dst v)):dN (gK P cs ps C) ops Q k (o::rest) a:=by
 simp only[qW,decide_eq_true_eq]at hk;unfold dN;rw[qD (by simp[Region.wanted,hg])];refine⟨v,?_,h⟩;unfold gK;rw[qC hk.1.1,qD hk.1.2,hk.2];exact h0
theorem jT{Q:Act->Prop}{k:Nat}{o:Oper}{rest:List Oper}{a:Act}(hk:(decide (¬(k<cs.headD 0/\k∉ps))&&decide (k∉cs))=true)
    (h:∀K:Act->Prop,(∀a,dN (gK P cs ps C) ops Q (k+1) rest a->K a)->if Region.wanted o (yielded ops a.tmps) then Oper.pure_ P o a K else K (a.put o.dst undef)):dN (gK P cs ps C) ops Q k (o::rest) a:=by
 simp only[qW,decide_eq_true_eq]at hk;have h:=h _ (fun _ h=>h);unfold dN;by_cases hw:Region.wanted o (yielded ops a.tmps)=true
 {
 rw[qD hw]at *;obtain⟨v,h1,h2⟩:=h;refine⟨v,?_,h2⟩;unfold gK;rw[qC hk.1,qC hk.2];exact h1}
 · rw[qC hw]at *;exact h
theorem vH{Q:Act->Prop}{k:Nat}{a:Act}(h:Q a):dN (gK P cs ps C) ops Q k [] a:=h
end
section
variable {P:Program} {ops:Array Oper} {C:World->Prop}
theorem wX{id:Nat}{Q:Exit->Act->World->Prop}{a:Act}{w:World}{l:List Oper}(C:World->Prop)(hm:P.follows .mixedOrders=true)(hB:Region.lexB .any l.toArray=true)(hC:C w.drew)
    (h:wpQuiet P l.toArray C (fun a' =>∀w', C w' -> Q .normal a' w') l a):(Code.region id l.toArray true).wp P Q a w:=
  wp_region_quiet hm hB hC (by simpa using h)
theorem aCA{Q:Act->Prop}{o:Oper}{rest:List Oper}{a:Act}
    (h:∀K:Act->Prop,(∀a,wpQuiet P ops C Q rest a->K a)->if Region.wanted o (yielded ops a.tmps) then Oper.pure_ P o a K else K (a.put o.dst undef)):wpQuiet P ops C Q (o::rest) a:=by
 have h:=h _ (fun _ h=>h);unfold wpQuiet;by_cases hw:Region.wanted o (yielded ops a.tmps)=true
 {
 rw[qD hw]at *;obtain⟨v,h1,h2⟩:=h;refine⟨v,fun w _=>?_,h2⟩;have:=h1 w;unfold Oper.quietAt;revert this;generalize (execOp a.eval o).run P w=r;intro this;cases r with
 | halt x w' =>exact this.elim
 | ok x w' =>{
 cases x with
 | value u=>exact⟨this.1,this.2⟩
 | skip=>exact⟨this.1,this.2⟩
 | _=>exact this.elim}}
 · rw[qC hw]at *;exact h
structure CW (P:Program) (ops:Array Oper) (C:World->Prop) (Q:Act->Prop) (l:List Oper) (a:Act):Prop where
  out:wpQuiet P ops C Q l a
theorem dU{id:Nat}{Q:Exit->Act->World->Prop}{a:Act}{w:World}{l:List Oper}(C:World->Prop)(hm:P.follows .mixedOrders=true)(hB:Region.lexB .any l.toArray=true)(hC:C w.drew)
    (h:CW P l.toArray C (fun a' =>∀w', C w' -> Q .normal a' w') l a):(Code.region id l.toArray true).wp P Q a w:=wX C hm hB hC h.out
theorem rT{Q:Act->Prop}{o:Oper}{rest:List Oper}{a:Act}(hw:Region.wanted o (yielded ops a.tmps)=false)(h:CW P ops C Q rest (a.put o.dst undef)):CW P ops C Q (o::rest) a:=by
 refine⟨?_⟩;unfold wpQuiet;rw[qC (by rw[hw];exact Bool.false_ne_true)];exact h.out
theorem aN{Q:Act->Prop}{o:Oper}{rest:List Oper}{a:Act}(hw:Region.wanted o (yielded ops a.tmps)=true)
    (h:∀K:Act->Prop,Hid (∀a,CW P ops C Q rest a->K a)->Oper.pure_ P o a K):CW P ops C Q (o::rest) a:=
  ⟨aCA fun K hK=>by rw[qD hw];exact h K (qA (fun a h=>hK a h.out))⟩
theorem bV{Q:Act->Prop}{o:Oper}{rest:List Oper}{a:Act}(hw:Region.wanted o (yielded ops a.tmps)=true)(v:Value)
    (h0:∀w,C w->Oper.quietUpon P C w v ((execOp a.eval o).run P w)) (h:CW P ops C Q rest (a.put o.dst v)):CW P ops C Q (o::rest) a:=by
 refine⟨?_⟩;unfold wpQuiet;rw[qD hw];exact⟨v,h0,h.out⟩
theorem iN{Q:Act->Prop}{a:Act}(h:Q a):CW P ops C Q [] a:=⟨h⟩
end
theorem uN{w:World}{base:Nat}{e:TypeId}{size:Nat}{v:Value}{n:Nat}{xs:List Value}(h:w.ownsRow base e size v n xs):w.ownsRow 0 e size v n xs:=
  ⟨h.1,h.2.elim .inl (fun⟨g,cap,cur,k1,_,k3⟩=>.inr ⟨g,cap,cur,k1,qR _,k3⟩)⟩
theorem aHV{P:Program}{w:World}{o:Oper}{a:Act}{K:Act->World->Prop}{Q:Exit->Act->World->Prop}(s x:Operand)(t:TypeId)
    (ho:o.op=.call { callee:=.builtin .append,args:=#[s,x],argTypes:=#[t,t] })
    (e:TypeId) (z:Value) (size bytes:Nat) (ht:P.underlying t=some (.slice e)) (hinfo:(P.info? e).map (fun i=>(i.zero,i.size,i.bytes))=some (some z,size,bytes)) (hzs:z.cells.size=size) (hsz:0<size)
    (v:Value) (n:Nat) (xs:List Value) (hs:a.eval s=v) (hown:w.ownsRow 0 e size v n xs)
    (b:Nat) (et:TypeId) (news:List Value) (hx:a.eval x=.slice (some ⟨b,0,none⟩) 1 1) (hb:Blk w b et news) (hl:news.length=size) (h1:∀u∈news,u.oneCell' =true)
    (hn:n+1<=4294967296) (hby:bytes<=1024)
    (h:∀g cap w', w'.ownsRow 0 e size (.slice (some ⟨g,0,none⟩) (n+1) cap) (n+1) (xs++news)->w.grownBy w' v.ownBlock->(v.ownBlock=some g∨w.heap.size<=g) ->
      K (a.put o.dst (.slice (some ⟨g,0,none⟩) (n+1) cap)) w'):o.wp P a w K Q:=by
 obtain⟨i0,hi,hz0,hz1,hz2⟩:=info_parts hinfo;have hbb:(n+1)*bytes<=140737488355328:=by {
 have:(n+1)*bytes<=4294967296*1024:=Nat.mul_le_mul hn hby;omega};obtain⟨g,cap,w', hr,h2,h3,h4⟩:=wJ (P:=P) w t o.type e i0 z size bytes ht hi hz0 hz1 hz2 hzs hsz v n xs hown ⟨b,0,none⟩ 1 1 news (by rw[Nat.one_mul];exact hl) (fun j u hj=>by rw[Addr.add_lit,Nat.zero_add,hb.cell];exact hj) h1 (by decide) (by unfold maxLen;omega) hbb;unfold Oper.wp execOp;simp only[ho,resolve,invoke,builtin,Sem.run_bind,Sem.run_pure,Result.andThen_ok,List.map_toArray,List.map_cons,List.map_nil,hs,hx,hr];exact h g cap w' h2 h3 h4
theorem kW{P:Program}{w:World}{ops:Array Oper}{rest:List Oper}{o:Oper}{a:Act}{Q:Exit->Act->World->Prop}(hgd:o.guard=none)(s x:Operand)(t:TypeId)
    (ho:o.op=.call { callee:=.builtin .append,args:=#[s,x],argTypes:=#[t,t] })
    (e:TypeId) (z:Value) (size bytes:Nat) (ht:P.underlying t=some (.slice e)) (hinfo:(P.info? e).map (fun i=>(i.zero,i.size,i.bytes))=some (some z,size,bytes)) (hzs:z.cells.size=size) (hsz:0<size)
    (v:Value) (n:Nat) (xs:List Value) (hs:a.eval s=v) (hown:w.ownsRow 0 e size v n xs)
    (b:Nat) (et:TypeId) (news:List Value) (hx:a.eval x=.slice (some ⟨b,0,none⟩) 1 1) (hb:Blk w b et news) (hl:news.length=size) (h1:∀u∈news,u.oneCell' =true)
    (hn:n+1<=4294967296) (hby:bytes<=1024)
    (h:∀g cap w', w'.ownsRow 0 e size (.slice (some ⟨g,0,none⟩) (n+1) cap) (n+1) (xs++news)->w.grownBy w' v.ownBlock->(v.ownBlock=some g∨w.heap.size<=g) ->
      wpList P ops Q rest (a.put o.dst (.slice (some ⟨g,0,none⟩) (n+1) cap)) w'):wpList P ops Q (o::rest) a w:=
  wpList_plain hgd fun _ hK=>aHV s x t ho e z size bytes ht hinfo hzs hsz v n xs hs hown b et news hx hb hl h1 hn hby fun g cap w' h2 h3 h4=>hK _ _ (h g cap w' h2 h3 h4)
theorem vI{P:Program}{w:World}{ops:Array Oper}{o:Oper}{a:Act}{K:Act->World->Prop}{Q:Exit->Act->World->Prop}{E:Prop}(hgd:o.guard=none)(s x:Operand)(t:TypeId)
    (ho:o.op=.call { callee:=.builtin .append,args:=#[s,x],argTypes:=#[t,t] })
    (e:TypeId) (z:Value) (size bytes:Nat) (ht:P.underlying t=some (.slice e)) (hinfo:(P.info? e).map (fun i=>(i.zero,i.size,i.bytes))=some (some z,size,bytes)) (hzs:z.cells.size=size) (hsz:0<size)
    (v:Value) (n:Nat) (xs:List Value) (hs:a.eval s=v) (hown:w.ownsRow 0 e size v n xs)
    (b:Nat) (et:TypeId) (news:List Value) (hx:a.eval x=.slice (some ⟨b,0,none⟩) 1 1) (hb:Blk w b et news) (hl:news.length=size) (h1:∀u∈news,u.oneCell' =true)
    (hn:n+1<=4294967296) (hby:bytes<=1024)
    (h:∀g cap w', w'.ownsRow 0 e size (.slice (some ⟨g,0,none⟩) (n+1) cap) (n+1) (xs++news)->w.grownBy w' v.ownBlock->(v.ownBlock=some g∨w.heap.size<=g) ->
      K (a.put o.dst (.slice (some ⟨g,0,none⟩) (n+1) cap)) w'):
    if Region.wanted o (yielded ops a.tmps)=true then Oper.wp P o a w K Q else E:=by
 rw[qD (by simp[Region.wanted,hgd])];exact aHV s x t ho e z size bytes ht hinfo hzs hsz v n xs hs hown b et news hx hb hl h1 hn hby h
def lvC(e:Lv):List Value:=[.int .i64 e.slot,.int .u64 e.seq,.int .u64 e.u,.int .u64 e.v,.int .i64 e.wt,.int .i64 e.t,.int .i64 e.x]
abbrev lvA(e:Lv):Value:=.agg #[.int .i64 e.slot,.int .u64 e.seq,.int .u64 e.u,.int .u64 e.v,.int .i64 e.wt,.int .i64 e.t,.int .i64 e.x]
def wY:Value:=.agg #[.int .i64 0,.int .u64 0,.int .u64 0,.int .u64 0,.int .i64 0,.int .i64 0,.int .i64 0]
theorem Tryz.info74:(Tryz.prog.info? 74).map (fun i=>(i.zero,i.size,i.bytes))=some (some wY,7,56):=by kernel_rfl
def rowV(l:List Lv):List Value:=l.flatMap lvC
theorem vJ(l:List Lv)(e:Lv):rowV (l++[e])=rowV l++lvC e:=by simp[rowV]
theorem nZ(l:List Lv):(rowV l).length=l.length*7:=by
 induction l with
 | nil=>rfl
 | cons a r ih=>simp only[rowV,List.flatMap_cons,zE,qY]at *;rw[ih];simp[lvC];omega
theorem wZ:∀{l:List Lv} {i:Nat} (hi:i<l.length) (j:Nat),j<7->(rowV l)[i*7+j]? =(lvC l[i])[j]?
  | e::l,0,_,j,hj=>by
    show(lvC e++rowV l)[0*7+j]? =(lvC e)[j]?
    rw[List.getElem?_append_left (by simp[lvC];omega)];congr 1;omega
  | e::l,i+1,hi,j,hj=>by
    show(lvC e++rowV l)[(i+1)*7+j]? =_
    rw[List.getElem?_append_right (by simp[lvC];omega)];have:=wZ (l:=l) (i:=i) (by simpa using hi) j hj;rw[show(i+1)*7+j-(lvC e).length=i*7+j by simp[lvC];omega,this];simp
theorem aHW(l:List Lv):∀u∈rowV l,u.oneCell' =true:=by
 intro u hu;obtain⟨e,_,he⟩:=List.mem_flatMap.1 hu;simp[lvC]at he;rcases he with rfl|rfl|rfl|rfl|rfl|rfl|rfl<;>rfl
theorem eZ{w:World}{base:Nat}{e:TypeId}{size:Nat}{v:Value}{n:Nat}{xs:List Value}(h:w.ownsRow base e size v n xs){q:Nat}(hq:v.ownBlock=some q):q<w.heap.size:=by
 rcases h.2 with⟨rfl,_⟩|⟨g,cap,cur,rfl,_,hh,_⟩
 · cases hq
 · simp[Value.ownBlock]at hq;subst hq;exact(qL.1 hh).1
def dJ(w:World)(v:Value)(l:List Lv):Prop:=w.ownsRow 0 74 7 v l.length (rowV l)
section
variable {w w' :World} {v:Value} {l:List Lv}
theorem dJ.fr{S:List Nat}(h:dJ w v l)(hf:Fr S w w')(hs:∀q,v.ownBlock=some q->q∉S):dJ w' v l:=
  aQ h (fun q hq=>hf.keep q (eZ h hq) (hs q hq))
theorem dJ.fr0(h:dJ w v l)(hf:Fr [] w w'):dJ w' v l:=h.fr hf (by simp)
theorem dJ.slice(h:dJ w v l):∃a cap,v=.slice a l.length cap:=aT h
theorem dJ.nil(w:World):dJ w (.slice none 0 0) []:=⟨rfl,.inl ⟨rfl,rfl⟩⟩
theorem dJ.lt(h:dJ w v l){q:Nat}(hq:v.ownBlock=some q):q<w.heap.size:=eZ h hq
def aHX(w:World)(b o:Nat)(e:Lv):Prop:=
  w.cell? ⟨b,o,none⟩=some (.int .i64 e.slot)/\w.cell? ⟨b,o+1,none⟩=some (.int .u64 e.seq)/\w.cell? ⟨b,o+2,none⟩=some (.int .u64 e.u)/\w.cell? ⟨b,o+3,none⟩=some (.int .u64 e.v) /\
    w.cell? ⟨b,o+4,none⟩=some (.int .i64 e.wt)/\w.cell? ⟨b,o+5,none⟩=some (.int .i64 e.t)/\w.cell? ⟨b,o+6,none⟩=some (.int .i64 e.x)
theorem dJ.at(h:dJ w v l){i:Nat}(hi:i<l.length):∃b cap,v=.slice (some ⟨b,0,none⟩) l.length cap/\l.length<=cap/\b<w.heap.size/\(∀j,w.frozen? ⟨b,j,none⟩=false)/\aHX w b (i*7) l[i]:=by
 obtain⟨h1,h2⟩:=h;rcases h2 with⟨rfl,h0⟩|⟨g,cap,cur,rfl,_,hh,hn,hm,hsz,hxs⟩
 · omega
 {
 have key:∀j,j<7->w.cell? ⟨g,i*7+j,none⟩=(lvC l[i])[j]? :=by {
 intro j hj;rw[<-wZ hi j hj,<-hxs,List.getElem?_take,qD (by omega)];simp[World.cell?,hh]};exact⟨g,cap,rfl,hn,(qL.1 hh).1,fun j=>by simp[World.frozen?,hh],key 0 (by omega),key 1 (by omega),key 2 (by omega),key 3 (by omega),key 4 (by omega),key 5 (by omega),key 6 (by omega)⟩}
theorem Blk.lvAt{b:Nat}{t:TypeId}{e:Lv}(h:Blk w b t (lvC e)):aHX w b 0 e:=⟨h.cell 0,h.cell 1,h.cell 2,h.cell 3,h.cell 4,h.cell 5,h.cell 6⟩
end
def put7(w:World)(b o:Nat)(e:Lv):World:=
  ((((((w.setCell ⟨b,o,none⟩ (.int .i64 e.slot)).setCell ⟨b,o+1,none⟩ (.int .u64 e.seq)).setCell ⟨b,o+2,none⟩ (.int .u64 e.u)).setCell ⟨b,o+3,none⟩ (.int .u64 e.v)).setCell ⟨b,o+4,none⟩ (.int .i64 e.wt)).setCell ⟨b,o+5,none⟩ (.int .i64 e.t)).setCell ⟨b,o+6,none⟩ (.int .i64 e.x)
theorem yV:∀{l:List Lv} {i:Nat} (_:i<l.length) (e:Lv),
    ((((((((rowV l).set (i*7) (.int .i64 e.slot)).set (i*7+1) (.int .u64 e.seq)).set (i*7+2) (.int .u64 e.u)).set (i*7+3) (.int .u64 e.v)).set (i*7+4) (.int .i64 e.wt)).set (i*7+5) (.int .i64 e.t)).set (i*7+6) (.int .i64 e.x))=rowV (l.set i e)
  | a::l,0,_,e=>by simp[rowV,lvC,qT]
  | a::l,i+1,hi,e=>by
    have ih:=yV (l:=l) (i:=i) (by simpa using hi) e;have hs:∀(xs:List Value) (k:Nat) (u:Value),(lvC a++xs).set (k+7) u=lvC a++xs.set k u:=fun xs k u=>by
      rw[List.set_append_right _ _ (by simp[lvC])];simp[lvC]
    show((((((((lvC a++rowV l).set _ _).set _ _).set _ _).set _ _).set _ _).set _ _).set _ _)=lvC a++rowV (l.set i e)
    rw[<-ih,show(i+1)*7=i*7+7 by omega,hs,show i*7+7+1=i*7+1+7 by omega,hs,show i*7+7+2=i*7+2+7 by omega,hs,show i*7+7+3=i*7+3+7 by omega,hs,
      show i*7+7+4=i*7+4+7 by omega,hs,show i*7+7+5=i*7+5+7 by omega,hs,show i*7+7+6=i*7+6+7 by omega,hs]
theorem dP{w:World}{e:TypeId}{size g n cap i:Nat}{xs:List Value}(h:w.ownsRow 0 e size (.slice (some ⟨g,0,none⟩) n cap) n xs)(u:Value):
    (w.setCell ⟨g,i,none⟩ u).ownsRow 0 e size (.slice (some ⟨g,0,none⟩) n cap) n (xs.set i u):=by
 obtain⟨h1,h2⟩:=h;refine⟨by simpa using h1,?_⟩;rcases h2 with⟨h2,_⟩|⟨g', cap', cur,e1,_,hh,hn,hm,hsz,hxs⟩
 · cases h2
 {
 simp only[qO,qI,Addr.mk.injEq,and_true,true_and]at e1;obtain⟨rfl,rfl⟩:=e1;refine .inr ⟨g,cap,cur.setIfInBounds i u,rfl,qR _,?_,hn,hm,by simpa using hsz,?_⟩
 {
 simp only[World.setCell,Array.getElem?_modify];simp[hh]}
 · rw[<-hxs,Array.toList_setIfInBounds,List.take_set]}
theorem dJ.set{w:World}{g cap:Nat}{l:List Lv}(h:dJ w (.slice (some ⟨g,0,none⟩) l.length cap) l){i:Nat}(hi:i<l.length)(e:Lv):dJ (put7 w g (i*7) e) (.slice (some ⟨g,0,none⟩) l.length cap) (l.set i e):=by
 unfold dJ at *;rw[List.length_set,<-yV hi];exact dP (dP (dP (dP (dP (dP (dP h _) _) _) _) _) _) _
theorem Fr.put7{S:List Nat}{w w' :World}(h:Fr S w w')(b o:Nat)(e:Lv)(hb:b∈S∨w.heap.size<=b):Fr S w (put7 w' b o e):=
  ((((((h.setCell _ _ hb).setCell _ _ hb).setCell _ _ hb).setCell _ _ hb).setCell _ _ hb).setCell _ _ hb).setCell _ _ hb
def dK(w:World)(v:Value)(p:List Nat):Prop:=w.ownsRow 0 3 1 v p.length (fM p)
section
variable {w w' :World} {v:Value} {p:List Nat}
theorem dK.fr{S:List Nat}(h:dK w v p)(hf:Fr S w w')(hs:∀q,v.ownBlock=some q->q∉S):dK w' v p:=
  aQ h (fun q hq=>hf.keep q (eZ h hq) (hs q hq))
theorem dK.fr0(h:dK w v p)(hf:Fr [] w w'):dK w' v p:=h.fr hf (by simp)
theorem dK.slice(h:dK w v p):∃a cap,v=.slice a p.length cap:=aT h
theorem dK.nil(w:World):dK w (.slice none 0 0) []:=⟨rfl,.inl ⟨rfl,rfl⟩⟩
theorem dK.lt(h:dK w v p){q:Nat}(hq:v.ownBlock=some q):q<w.heap.size:=eZ h hq
theorem dK.at(h:dK w v p){i:Nat}(hi:i<p.length):∃b cap,v=.slice (some ⟨b,0,none⟩) p.length cap/\b<w.heap.size/\w.cell? ⟨b,i,none⟩=some (.int .i64 (p[i]'hi)):=by
 obtain⟨b,cap,e,_,h2,h3,_⟩:=cL h hi;exact⟨b,cap,e,h2,h3.trans (by simp[fM,hi])⟩
end
def okS:Value->Bool
  | .slice _ _ _=>true
  | _=>false
abbrev fP:Value:=.slice none 0 0
def mM(f:Nat->List Nat)(a:Nat)(l:List Nat):Nat->List Nat:=fun x=>if x=a then l else f x
theorem iX(f:Nat->List Nat)(a:Nat)(l:List Nat):mM f a l a=l:=by simp[mM]
theorem eB{f:Nat->List Nat}{a x:Nat}{l:List Nat}(h:x≠a):mM f a l x=f x:=by simp[mM,h]
abbrev U64:Nat:=18446744073709551616
structure nF (w:World) (mb:Nat) (iv:Int->Option Value) (f:Nat->List Nat) (n:Nat) (lb:List Nat):Prop where
  im:cV Tryz.prog 36 .u64 okS w mb iv n
  nm:mb∉lb
  lt:∀b∈lb,b<w.heap.size
  row:∀id:Nat,id<U64->((iv id).isSome=true↔f id≠[])/\dK w ((iv id).getD fP) (f id)/\∀q,((iv id).getD fP).ownBlock=some q->q∈lb
  inj:∀(id id' q:Nat),id<U64->id' < U64->((iv id).getD fP).ownBlock=some q->((iv id').getD fP).ownBlock=some q->id=id'
def oA(w:World)(mb:Nat)(f:Nat->List Nat)(n:Nat)(lb:List Nat):Prop:=∃iv,nF w mb iv f n lb
theorem nF.fr{w w' :World}{mb n:Nat}{iv:Int->Option Value}{f:Nat->List Nat}{lb S:List Nat}(h:nF w mb iv f n lb)(hf:Fr S w w')(h1:mb∉S)(h2:∀b∈lb,b∉S):nF w' mb iv f n lb:=
  ⟨h.im.same (hf.keep mb h.im.lt h1),h.nm,fun b hb=>Nat.lt_of_lt_of_le (h.lt b hb) hf.size,fun id hid=>⟨(h.row id hid).1,(h.row id hid).2.1.fr hf (fun q hq=>h2 q ((h.row id hid).2.2 q hq)),(h.row id hid).2.2⟩,h.inj⟩
theorem nF.set{w w1 w2:World}{mb n n2:Nat}{iv:Int->Option Value}{f:Nat->List Nat}{lb:List Nat}(h:nF w mb iv f n lb){id:Nat}(hid:id<U64){v1:Value}{l1:List Nat}(h1:dK w1 v1 l1)(hne:l1≠[])
    (hF:Fr ((iv id).getD fP).ownBlock.toList w w1) (hq:∀q,v1.ownBlock=some q->((iv id).getD fP).ownBlock=some q∨w.heap.size<=q)
    (hI:cV Tryz.prog 36 .u64 okS w2 mb (jR iv id (some v1)) n2) (hF2:Fr [mb] w1 w2):nF w2 mb (jR iv id (some v1)) (mM f id l1) n2 (lb++v1.ownBlock.toList):=by
 have hml:=h.im.lt;have hs1:=hF.size;have hs2:=hF2.size;have hqm:∀q,v1.ownBlock=some q->q≠mb:=fun q hqq e=>by
   subst e;rcases hq q hqq with e|e
   · exact h.nm ((h.row id hid).2.2 q e)
   · omega
 have hother:∀(x:Nat),x<U64->x≠id->∀q,((iv x).getD fP).ownBlock=some q->q∉((iv id).getD fP).ownBlock.toList/\q≠mb:=fun x hx hxn q hqq=>
   ⟨fun hm=>hxn (h.inj x id q hx hid hqq (by simpa using hm)),fun e=>h.nm (e▸(h.row x hx).2.2 q hqq)⟩
 refine⟨hI,fun hm=>?_,fun b hb=>?_,fun x hx=>?_,fun x y q hx hy hxq hyq=>?_⟩
 {
 rcases qE.1 hm with hm|hm
 · exact h.nm hm
 · exact hqm mb (by simpa using hm) rfl}
 {
 rcases qE.1 hb with hb|hb
 · have:=h.lt b hb;omega
 · have:=h1.lt (by simpa using hb);omega}
 {
 by_cases e:x=id
 {
 subst e;rw[cG,iX];refine⟨by simp[hne],h1.fr hF2 (fun q hqq hm=>?_),fun q hqq=>qE.2 (.inr (by simpa using hqq))⟩;exact hqm q hqq (by simpa using hm)}
 {
 rw[bM (by omega),eB e];obtain⟨a1,a2,a3⟩:=h.row x hx;exact⟨a1,(a2.fr hF (fun q hqq=>(hother x hx e q hqq).1)).fr hF2 (fun q hqq hm=>(hother x hx e q hqq).2 (by simpa using hm)),fun q hqq=>qE.2 (.inl (a3 q hqq))⟩}}
 {
 by_cases ex:x=id
 {
 by_cases ey:y=id
 · rw[ex,ey]
 {
 subst ex;rw[cG]at hxq;rw[bM (by omega)]at hyq;rcases hq q hxq with e|e
 · exact(h.inj y x q hy hx hyq e).symm
 · have:=h.lt q ((h.row y hy).2.2 q hyq);omega}}
 {
 rw[bM (by omega)]at hxq;by_cases ey:y=id
 {
 subst ey;rw[cG]at hyq;rcases hq q hyq with e|e
 · exact h.inj x y q hx hy hxq e
 · have:=h.lt q ((h.row x hx).2.2 q hxq);omega}
 {
 rw[bM (by omega)]at hyq;exact h.inj x y q hx hy hxq hyq}}}
theorem nF.del{w w1 w2:World}{mb n n2:Nat}{iv:Int->Option Value}{f:Nat->List Nat}{lb:List Nat}(h:nF w mb iv f n lb){id:Nat}(hid:id<U64)
    (hF:Fr ((iv id).getD fP).ownBlock.toList w w1) (hI:cV Tryz.prog 36 .u64 okS w2 mb (jR iv id none) n2) (hF2:Fr [mb] w1 w2):nF w2 mb (jR iv id none) (mM f id []) n2 lb:=by
 have hs1:=hF.size;have hs2:=hF2.size;have hother:∀(x:Nat),x<U64->x≠id->∀q,((iv x).getD fP).ownBlock=some q->q∉((iv id).getD fP).ownBlock.toList/\q≠mb:=fun x hx hxn q hqq=>
   ⟨fun hm=>hxn (h.inj x id q hx hid hqq (by simpa using hm)),fun e=>h.nm (e▸(h.row x hx).2.2 q hqq)⟩
 refine⟨hI,h.nm,fun b hb=>?_,fun x hx=>?_,fun x y q hx hy hxq hyq=>?_⟩
 · have:=h.lt b hb;omega
 {
 by_cases e:x=id
 {
 subst e;rw[cG,iX];exact⟨by simp,dK.nil _,fun q hqq=>by cases hqq⟩}
 {
 rw[bM (by omega),eB e];obtain⟨a1,a2,a3⟩:=h.row x hx;exact⟨a1,(a2.fr hF (fun q hqq=>(hother x hx e q hqq).1)).fr hF2 (fun q hqq hm=>(hother x hx e q hqq).2 (by simpa using hm)),a3⟩}}
 {
 by_cases ex:x=id
 · subst ex;rw[cG]at hxq;cases hxq
 {
 rw[bM (by omega)]at hxq;by_cases ey:y=id
 · subst ey;rw[cG]at hyq;cases hyq
 {
 rw[bM (by omega)]at hyq;exact h.inj x y q hx hy hxq hyq}}}
theorem oA.fr{w w' :World}{mb n:Nat}{f:Nat->List Nat}{lb S:List Nat}(h:oA w mb f n lb)(hf:Fr S w w')(h1:mb∉S)(h2:∀b∈lb,b∉S):oA w' mb f n lb:=by
 obtain⟨iv,h⟩:=h;exact⟨iv,h.fr hf h1 h2⟩
theorem jU{id:Nat}(h:id<U64):(Lit.int .u64 (id:Int)).wf=true:=by
 show(decide ((0:Int)<=id)&&decide ((id:Int)<=18446744073709551615))=true
 have h:id<18446744073709551616:=h;simp;omega
theorem aFT{a:Int}(h:(Lit.int .u64 a).wf=true):∃id:Nat,a=id/\id<U64:=by
 have h:(decide ((0:Int)<=a)&&decide (a<=18446744073709551615))=true:=h;simp only[qW,decide_eq_true_eq]at h;exact⟨a.toNat,by omega,show a.toNat<18446744073709551616 by omega⟩
structure Cls (c:Nat->Nat) (ps mb:Nat) (vl:Value) (la lt lb:List Nat):Prop where
  p:c ps=0
  m:c mb=1
  a:∀b∈la,c b=2
  t:∀b∈lt,c b=3
  l:∀q,vl.ownBlock=some q->c q=4
  b:∀b∈lb,c b=5
structure StB (w:World) (ps pa pt mb n:Nat) (vl:Value) (s:Sm) (la lt lb:List Nat) (c:Nat->Nat):Prop where
  hd:Blk w ps 145 [.int .i64 s.V,.int .i64 s.E,.int .u64 s.last,ptr pa,ptr pt,vl,.map (some mb)]
  ar:aU w pa s.A la
  tb:gL w pt s.M lt
  lv:dJ w vl ((List.range n).map (aG s.L))
  inc:oA w mb (bU s.L) s.M.L.length lb
  sn:∀e∈s.L,e.slot<n
  nE:n<=s.E
  ok:s.Ok
  cls:Cls c ps mb vl la lt lb
def stK(ps mb:Nat)(vl:Value)(la lt lb:List Nat):List Nat:=ps::mb::(la++lt++vl.ownBlock.toList++lb)
def bH(w:World)(ps:Nat)(s:Sm)(K:List Nat):Prop:=∃pa pt mb n vl la lt lb c,StB w ps pa pt mb n vl s la lt lb c/\K=stK ps mb vl la lt lb
theorem oA.ltm{w:World}{mb n:Nat}{f:Nat->List Nat}{lb:List Nat}(h:oA w mb f n lb):mb<w.heap.size:=by
 obtain⟨iv,h⟩:=h;exact h.im.lt
theorem oA.ltb{w:World}{mb n:Nat}{f:Nat->List Nat}{lb:List Nat}(h:oA w mb f n lb):∀b∈lb,b<w.heap.size:=by
 obtain⟨iv,h⟩:=h;exact h.lt
section
variable {w w' :World} {ps pa pt mb n:Nat} {vl:Value} {s:Sm} {la lT lb K S:List Nat} {c:Nat->Nat}
theorem StB.fr(h:StB w ps pa pt mb n vl s la lT lb c)(hf:Fr S w w')(hd:∀q∈stK ps mb vl la lT lb,q∉S):StB w' ps pa pt mb n vl s la lT lb c:=
  ⟨hf.blk h.hd (hd _ (by simp[stK])),h.ar.fr hf (fun q hq=>hd q (by simp[stK,hq])),h.tb.fr hf (fun q hq=>hd q (by simp[stK,hq])),h.lv.fr hf (fun q hq=>hd q (by simp[stK,hq])),
    h.inc.fr hf (hd _ (by simp[stK])) (fun q hq=>hd q (by simp[stK,hq])),h.sn,h.nE,h.ok,h.cls⟩
theorem StB.lt(h:StB w ps pa pt mb n vl s la lT lb c):∀q∈stK ps mb vl la lT lb,q<w.heap.size:=by
 intro q hq;simp only[stK,qB,qE,Option.mem_toList]at hq;rcases hq with rfl|rfl|((hq|hq)|hq)|hq
 · exact h.hd.lt
 · exact h.inc.ltm
 · exact h.ar.lt q hq
 · exact h.tb.lt q hq
 · exact h.lv.lt hq
 · exact h.inc.ltb q hq
theorem bH.fr(h:bH w ps s K)(hf:Fr S w w')(hd:∀q∈K,q∉S):bH w' ps s K:=by
 obtain⟨pa,pt,mb,n,vl,la,lt,lb,c,h,rfl⟩:=h;exact⟨pa,pt,mb,n,vl,la,lt,lb,c,h.fr hf hd,rfl⟩
theorem bH.fr0(h:bH w ps s K)(hf:Fr [] w w'):bH w' ps s K:=h.fr hf (by simp)
theorem bH.lt(h:bH w ps s K):∀q∈K,q<w.heap.size:=by
 obtain⟨pa,pt,mb,n,vl,la,lt,lb,c,h,rfl⟩:=h;exact h.lt
theorem bH.ok(h:bH w ps s K):s.Ok:=by
 obtain⟨pa,pt,mb,n,vl,la,lt,lb,c,h,rfl⟩:=h;exact h.ok
end
theorem sU(l:List Nat):(nY l).Perm l:=List.mergeSort_perm _ _
theorem aHY(l:List Nat):(nY l).Pairwise (·<= ·):=by
 have:=List.pairwise_mergeSort (le:=fun x y:Nat=>decide (x<=y)) (fun a b c h1 h2=>by simp at *;omega) (fun a b=>by simp;omega) l;exact this.imp (fun h=>by simpa using h)
theorem aHZ{l:List Nat}(h:l.Nodup):(nY l).Pairwise (· < ·):=by
 have h1:=aHY l;have h2:(nY l).Nodup:=(sU l).nodup_iff.2 h;exact(h1.and h2).imp (fun h=>by omega)
theorem aFU{l:List Nat}{x:Nat}:x∈nY l↔x∈l:=(sU l).mem_iff
theorem aIA{w:World}{pt:Nat}{M:Md}{l:List Nat}(h:gL w pt M l):
    Calls Tryz.prog 116 #[ptr pt] w fun e w' =>∃pt', e=.returned (ptr pt')/\∃l', gL w' pt' M l' /\ Fr [] w w' /\ ∀b∈l', w.heap.size<=b:=by
 obtain⟨T,hT,r⟩:=h;refine(aBY hT).mono ?_;rintro e w' ⟨pt', rfl,l', h1,h2,h3⟩;exact⟨pt', rfl,l', ⟨T,h1,r⟩,h2,h3⟩
theorem Md.Ok.len{M:Md}(h:M.Ok):M.L.length<=65536:=by
 have h1:=h.cnt;have h2:=h.ar.hb;have h3:=h.ar.hs;simp only[Md.ar]at h2 h3;omega
@[go_sem] theorem aSQ(w:World)(r:Option Nat):(binOp .neq 143 (.map r) (.map none)).run Tryz.prog w=.ok (.bool (!r.isNone)) w:=run_neq_map_nil w _ _ _ r Tryz.underlying143
abbrev iO(b:Nat):Value:=.pointer (some ⟨b,0,none⟩)
section
variable {w w' :World} {ps:Nat} {s:Sm} {K:List Nat}
theorem bH.open(h:bH w ps s K):∃pa pt mb n vl la lT lb c,StB w ps pa pt mb n vl s la lT lb c/\K=stK ps mb vl la lT lb /\
    w.cell? ⟨ps,0,none⟩=some (.int .i64 s.V)/\w.cell? ⟨ps,1,none⟩=some (.int .i64 s.E)/\w.cell? ⟨ps,2,none⟩=some (.int .u64 s.last)/\w.cell? ⟨ps,3,none⟩=some (ptr pa)/\w.cell? ⟨ps,4,none⟩=some (ptr pt)/\w.cell? ⟨ps,5,none⟩=some vl/\w.cell? ⟨ps,6,none⟩=some (.map (some mb)):=by
 obtain⟨pa,pt,mb,n,vl,la,lT,lb,c,h,rfl⟩:=h;exact⟨pa,pt,mb,n,vl,la,lT,lb,c,h,rfl,h.hd.cell 0,h.hd.cell 1,h.hd.cell 2,h.hd.cell 3,h.hd.cell 4,h.hd.cell 5,h.hd.cell 6⟩
theorem kX(h:bH w ps s K):Calls Tryz.prog 96 #[iO ps] w fun e w' =>e=.returned (.bool true)/\w' =w:=by
 obtain⟨pa,pt,mb,n,vl,la,lT,lb,c,hB,rfl,c0,c1,c2,c3,c4,c5,c6⟩:=h.open;clear h hB;go_enter Tryz.func96,Tryz.ntmps96
 go_wp2
 go_ret;exact⟨rfl,rfl⟩
theorem yW(h:bH w ps s K)(id:Nat)(hid:id<18446744073709551616):Calls Tryz.prog 136 #[iO ps,.int .u64 id] w fun e w' =>e=.returned (.tuple #[.int .i64 ((s.M.find id).getD 0),.bool (s.M.find id).isSome])/\Fr [] w w' :=by
 have HV:=qA (kX h);obtain⟨pa,pt,mb,n,vl,la,lT,lb,c,hB,rfl,c0,c1,c2,c3,c4,c5,c6⟩:=h.open;have HL:=qA (aDT id hid hB.tb);clear h hB;generalize (s.M.find id).getD 0=i at *;generalize (s.M.find id).isSome=b at *;go_enter Tryz.func136,Tryz.ntmps136
 go_wp2_with fail
 refine HV.out.mono ?_;rintro _ w ⟨rfl,rfl⟩;go_wp2_with fail
 refine HL.out.mono ?_;rintro _ w1 ⟨rfl,_,hb⟩;have HB:=qA (Fr.of_below hb);clear hb;go_wp2
 go_ret2;exact⟨rfl,HB.out⟩
def Sm.ids(s:Sm):List Nat:=nY (s.M.L.map (·.1))
theorem Sm.ids_len(s:Sm):s.ids.length=s.M.L.length:=by unfold Sm.ids;rw[aFQ,List.length_map]
end
abbrev pI(u v:Nat)(wt t:Int):Value:=.agg #[.int .u64 u,.int .u64 v,.int .i64 wt,.int .i64 t]
@[go_sem] theorem aSR(a b:Value)(w:World):(Instr.index 199 (.agg #[a,b]) (.int .i64 0)).run Tryz.prog w=.ok a w:=by kernel_rfl
@[go_sem] theorem aSS(a b:Value)(w:World):(Instr.index 199 (.agg #[a,b]) (.int .i64 1)).run Tryz.prog w=.ok b w:=by kernel_rfl
def nf(b:Bool):Nat:=if b=true then 0 else 1
def sV(a b:Bool)(k:Nat):Nat:=(if 0<k then nf a else 0)+if 1<k then nf b else 0
section
variable {w w' :World} {ps:Nat} {s:Sm} {K:List Nat}
theorem oB(h:bH w ps s K)(u v:Nat)(hu:u<18446744073709551616)(hv:v<18446744073709551616)(wt t:Int):
    Calls Tryz.prog 90 #[iO ps,pI u v wt t] w fun e w' =>e=.returned (.int .i64 (s.chk u v))/\Fr [] w w' :=by
 have H:=qA h;have hok:=h.ok;have hE:=hok.leE;have hV4:=hok.leV;have hmn:=hok.md.cnt;have hmb:=hok.md.ar.hb;have hms:=hok.ms;simp only[Md.ar]at hmb;have hml:s.M.L.length<=4096:=by omega
 have hau:s.A.used<=16384:=by {
 have h1:=hok.ar.hb;have h2:=hok.sl;unfold Ar.used;omega};clear hmn hmb hms hok h;obtain⟨code,hcode⟩:∃code,code=s.chk u v:=⟨_,rfl⟩;rw[<-hcode];have HCD:=qA hcode;clear hcode;go_enter Tryz.func90,Tryz.ntmps90
 go_wp2_with fail
 have hf0:Fr [] w (w.alloc (.cells #[.int .u64 u,.int .u64 v,.int .i64 wt,.int .i64 t] 72)):=(Fr.refl [] w).alloc _;have hbx:Blk (w.alloc (.cells #[.int .u64 u,.int .u64 v,.int .i64 wt,.int .i64 t] 72)) w.heap.size 72 [.int .u64 u,.int .u64 v,.int .i64 wt,.int .i64 t]:=Blk.new w _ _;have hlt0:w.heap.size<(w.alloc (.cells #[.int .u64 u,.int .u64 v,.int .i64 wt,.int .i64 t] 72)).heap.size:=by simp
 generalize w.alloc (.cells #[.int .u64 u,.int .u64 v,.int .i64 wt,.int .i64 t] 72)=w1 at *;have r0:=hbx.cell 0;have r1:=hbx.cell 1;simp only[zI,zJ]at r0 r1;obtain⟨pa,pt,mb,n,vl,la,lT,lb,c,hB,hK,c0,c1,c2,c3,c4,c5,c6⟩:=(H.out.fr0 hf0).open;have HV:=qA (kX (H.out.fr0 hf0));have HF0:=qA hf0;have HA:=qA (fun(w' :World) (hf:Fr [] w1 w')=>uZ (hB.fr hf (by simp)).ar);have HT:=qA (fun(w' :World) (hf:Fr [] w1 w')=>aMG (hB.fr hf (by simp)).tb);have HG:=qA (fun(w' :World) (hf:Fr [] w1 w') (id:Nat) (hid:id<18446744073709551616)=>aDT id hid (hB.fr hf (by simp)).tb);clear hf0 hbx hB hK c2 c5 c6 hlt0;refine HV.out.mono ?_;rintro _ w1 ⟨rfl,rfl⟩;clear HV;by_cases huv:u=v
 {
 subst huv;have HCD' :=qA (show code=9 by rw[HCD.out];unfold Sm.chk;rw[qD rfl]);go_wp2_with fail
 go_ret;exact⟨by rw[HCD'.out];rfl,HF0.out⟩}
 {
 have d1:((u:Int) == v)=false:=qQ.2 (by omega);have HUV:=qA huv;clear huv;go_wp2_with fail
 obtain⟨au,hau2⟩:∃au,au=s.A.used:=⟨_,rfl⟩;rw[<-hau2]at HA hau;have HAU:=qA hau2;clear hau2;refine dU (fun w' =>Fr [] w1 w') (by kernel_rfl) (by kernel_rfl) ((Fr.refl [] w1).drew) ?_;iterate 3 (refine aN (by kernel_rfl) (fun KK hK=>?_);go_simp;refine hK.out _ ?_;clear hK KK)
 refine bV (by kernel_rfl) (ptr pa) (fun w' hw' =>?_) ?_
 {
 have c3:=hw'.cell c3 (by simp);go_simp;first|exact hw' | exact⟨rfl,hw'⟩|skip};refine bV (by kernel_rfl) (.int .i64 au) (fun w' hw' =>?_) ?_
 {
 go_simp;refine(HA.out w' hw').mono ?_;rintro _ w6 ⟨rfl,rfl⟩;exact⟨rfl,hw'⟩};iterate 3 (refine aN (by kernel_rfl) (fun KK hK=>?_);go_simp;refine hK.out _ ?_;clear hK KK)
 refine bV (by kernel_rfl) (.int .i64 s.E) (fun w' hw' =>?_) ?_
 {
 have c1:=hw'.cell c1 (by simp);go_simp;first|exact hw' | exact⟨rfl,hw'⟩|skip};iterate 1 (refine aN (by kernel_rfl) (fun KK hK=>?_);go_simp;refine hK.out _ ?_;clear hK KK)
 refine iN ?_;intro w2 hf2;have r0:=hf2.cell r0 (by simp);have r1:=hf2.cell r1 (by simp);have c0:=hf2.cell c0 (by simp);have c4:=hf2.cell c4 (by simp);have HT2:=qA (HT.out w2 hf2);have HF2:=qA hf2;clear hf2 HT HA c1 c3 d1;by_cases hfull:s.E<=au
 {
 have HCD' :=qA (show code=12 by rw[HCD.out];unfold Sm.chk;rw[qC HUV.out,<-HAU.out,qD hfull]);have d1:decide ((s.E:Int)<=au)=true:=qG (by omega);go_wp2_with fail
 go_ret;exact⟨by rw[HCD'.out];rfl,HF0.out.trans' HF2.out⟩}
 {
 have d1:decide ((s.E:Int)<=au)=false:=qF (by omega);have d2:decide (s.E<=au)=false:=qF (by omega);have HFU:=qA hfull;clear hfull;go_wp2_with fail
 refine HT2.out.mono ?_;rintro _ w2 ⟨rfl,rfl⟩;clear HT2 d1 d2;go_wp2_with fail
 have Hu:=qA hu;have Hv:=qA hv;clear r0 r1;go_loopw [5,38] (fun x y wr=>∃k m:Nat,k<=2/\y=.int .i64 k/\x=.int .i64 m/\m<=4096+k/\Hid (m=s.M.L.length+sV (s.M.find u).isSome (s.M.find v).isSome k)/\Hid (Fr [] w2 wr)) (fun _ y _=>2-(intOf y).toNat)
 case atStart=>exact⟨0,s.M.L.length,by omega,rfl,rfl,by omega,qA (by simp[sV]),qA (Fr.refl _ _)⟩
 case round=>
  obtain⟨k,m,hk,rfl,rfl,hm,HM,HF⟩:=hrel;by_cases hlt:k<2
  {
  have hk2:k=0∨k=1:=by omega
  clear hlt hk;rcases hk2 with rfl|rfl
  {
  have HGu:=qA (HG.out wr (HF2.out.trans' HF.out) u Hu.out);have c4:=HF.out.cell c4 (by simp);generalize hfu:(s.M.find u).isSome=fu at *;have HFU2:=qA hfu;clear hfu;generalize (s.M.find u).getD 0=iu at *;rename World=>wo
  go_wp2_with fail
  refine HGu.out.mono ?_;rintro _ w5 ⟨rfl,_,hb5⟩;have HF5:=qA (HF.out.trans' (Fr.of_below hb5));clear hb5 HGu c4;cases fu with
  | true=>{
  go_wp2_with fail
  go_roundw
  case rel=>exact⟨1,m,by omega,rfl,rfl,by omega,qA (by rw[HM.out];simp[sV,nf]),HF5⟩
  case measure=>simp[intOf]}
  | false=>{
  go_wp2_with fail
  go_roundw
  case rel=>exact⟨1,m+1,by omega,rfl,by go_num,by omega,qA (by rw[HM.out];simp[sV,nf];try omega),HF5⟩
  case measure=>simp[intOf]}}
  {
  have HGu:=qA (HG.out wr (HF2.out.trans' HF.out) v Hv.out);have c4:=HF.out.cell c4 (by simp);generalize hfu:(s.M.find v).isSome=fu at *;have HFU2:=qA hfu;clear hfu;generalize (s.M.find v).getD 0=iu at *;rename World=>wo
  go_wp2_with fail
  refine HGu.out.mono ?_;rintro _ w5 ⟨rfl,_,hb5⟩;have HF5:=qA (HF.out.trans' (Fr.of_below hb5));clear hb5 HGu c4;cases fu with
  | true=>{
  go_wp2_with fail
  go_roundw
  case rel=>exact⟨2,m,by omega,rfl,rfl,by omega,qA (by rw[HM.out];simp[sV,nf]),HF5⟩
  case measure=>simp[intOf]}
  | false=>{
  go_wp2_with fail
  go_roundw
  case rel=>exact⟨2,m+1,by omega,rfl,by go_num,by omega,qA (by rw[HM.out];simp[sV,nf];try omega),HF5⟩
  case measure=>simp[intOf]}}}
  {
  obtain rfl:k=2:=by omega
  have c0:=HF.out.cell c0 (by simp);have hmore:m=s.M.L.length+s.more u v:=by rw[HM.out];simp[sV,nf,Sm.more]
  by_cases hov:s.V<m
  {
  have HCD' :=qA (show code=11 by rw[HCD.out];unfold Sm.chk;rw[qC HUV.out,<-HAU.out,qC HFU.out,<-hmore,qD hov]);have d1:decide ((m:Int)>s.V)=true:=qG (by omega);clear hmore;go_wp2_with fail
  go_ret;exact⟨by rw[HCD'.out];rfl,(HF0.out.trans' HF2.out).trans' HF.out⟩}
  {
  have HCD' :=qA (show code=0 by rw[HCD.out];unfold Sm.chk;rw[qC HUV.out,<-HAU.out,qC HFU.out,<-hmore,qC hov]);have d1:decide ((m:Int)>s.V)=false:=qF (by omega);have d2:decide (s.V<m)=false:=qF (by omega);clear hmore;go_wp2_with fail
  go_ret;exact⟨by rw[HCD'.out];rfl,(HF0.out.trans' HF2.out).trans' HF.out⟩}}}}
end
def xA(w:World)(ps:Nat):Nat:=match w.cell? ⟨ps,5,none⟩ with
  | some (.slice _ m _)=>m
  | _=>0
theorem sW{w:World}{ps m cap:Nat}{a:Option Addr}(h:w.cell? ⟨ps,5,none⟩=some (.slice a m cap)):xA w ps=m:=by unfold xA;rw[h]
theorem aFV{L:List Lv}{n n' :Nat}(hs:∀e∈L,e.slot<n)(hn:n<=n'):(List.range (n' + 1)).map (aG L)=(List.range n').map (aG L)++[Lv.z]:=by
 rw[List.range_succ,List.map_append,List.map_cons,List.map_nil,pV (fun e he=>by have:=hs e he;omega)]
theorem Blk.put7{w:World}{b:Nat}{t:TypeId}{v0 v1 v2 v3 v4 v5 v6:Value}(h:Blk w b t [v0,v1,v2,v3,v4,v5,v6])(e:Lv):Blk (put7 w b 0 e) b t (lvC e):=
  ((((((h.set 0 (.int .i64 e.slot)).set 1 (.int .u64 e.seq)).set 2 (.int .u64 e.u)).set 3 (.int .u64 e.v)).set 4 (.int .i64 e.wt)).set 5 (.int .i64 e.t)).set 6 (.int .i64 e.x)
theorem aFW(w:World):(zeroValue 158).run Tryz.prog w=.ok fP w:=by kernel_rfl
def mN(w7:World)(ps pt mb:Nat)(v7:Value)(la lT lb:List Nat)(M:Md)(f:Nat->List Nat)(n:Nat)(wr:World):Prop:=
  ∃lT' lb' c', Cls c' ps mb v7 la lT' lb' /\ gL wr pt M lT' /\ oA wr mb f n lb' /\ Fr (mb::(lT++lb)) w7 wr/\(∀q∈lT', q∈lT∨w7.heap.size<=q)/\∀q∈lb', q∈lb∨w7.heap.size<=q
section
variable {w7 wr:World} {ps pt mb n:Nat} {v7:Value} {la lT lb:List Nat} {M:Md} {f:Nat->List Nat}
theorem aDU(hps:ps<w7.heap.size)(hla:∀b∈la,b<w7.heap.size)(hv7:∀q,v7.ownBlock=some q->q<w7.heap.size)(h:mN w7 ps pt mb v7 la lT lb M f n wr){id:Nat}(hid:id<U64):
    Calls Tryz.prog 173 #[ptr pt,.int .u64 id] wr fun e w' =>∃r,e=.returned r/\mN w7 ps pt mb v7 la lT lb (M.put id).M f n w' /\ Fr (mb::(lT++lb)) w7 w' :=by
 obtain⟨lT', lb', c', hc,hT,hI,hF,h5,h6⟩:=h;refine(aME id hid hT).mono ?_;rintro _ w' ⟨rfl,l', hT', hN1,hN2⟩;have hlt:=hT.lt;have hlb:=hI.ltb;have hml:=hI.ltm;have hsz:=hF.size;have e1:=hN1.size;have hF' :Fr (mb::(lT++lb)) w7 w' :=hF.trans hN1 (fun q hq=>(h5 q hq).imp (fun e=>by simp[e]) (fun e=>e));refine⟨_,rfl,⟨l', lb', fun x=>if x<wr.heap.size then c' x else 3,⟨?_,?_,?_,?_,?_,?_⟩,hT', ?_,hF', ?_,h6⟩,hF'⟩
 · rw[qD (by omega)];exact hc.p
 · rw[qD hml];exact hc.m
 · intro b hb;rw[qD (by have:=hla b hb;omega)];exact hc.a b hb
 {
 intro b hb;rcases hN2 b hb with e|e
 · rw[qD (hlt b e)];exact hc.t b e
 · rw[qC (by omega)]}
 · intro q hq;rw[qD (by have:=hv7 q hq;omega)];exact hc.l q hq
 · intro b hb;rw[qD (hlb b hb)];exact hc.b b hb
 {
 refine hI.fr hN1 (fun hm=>?_) (fun b hb hm=>?_)
 · have e1:=hc.t mb hm;have e2:=hc.m;omega
 · have e1:=hc.t b hm;have e2:=hc.b b hb;omega}
 {
 intro q hq;rcases hN2 q hq with e|e
 · exact h5 q e
 · exact .inr (by omega)}
theorem rU(hps:ps<w7.heap.size)(hla:∀b∈la,b<w7.heap.size)(hv7:∀q,v7.ownBlock=some q->q<w7.heap.size){lT' lb' :List Nat}{c' :Nat->Nat}{iv:Int->Option Value}(hc:Cls c' ps mb v7 la lT' lb')(hT:gL wr pt M lT')(hI:nF wr mb iv f n lb')(hF:Fr (mb::(lT++lb)) w7 wr)
    (h5:∀q∈lT', q∈lT∨w7.heap.size<=q) (h6:∀q∈lb', q∈lb∨w7.heap.size<=q) {id:Nat} (hid:id<U64) {w8 w9:World} {v1:Value} {l1:List Nat} {n2:Nat} (h1:dK w8 v1 l1) (hne:l1≠[])
    (hF1:Fr ((iv id).getD fP).ownBlock.toList wr w8) (hq:∀q,v1.ownBlock=some q->((iv id).getD fP).ownBlock=some q∨wr.heap.size<=q)
    (hM:cV Tryz.prog 36 .u64 okS w9 mb (jR iv id (some v1)) n2) (hF2:Fr [mb] w8 w9):mN w7 ps pt mb v7 la lT lb M (mM f id l1) n2 w9:=by
 have hI2:=hI.set hid h1 hne hF1 hq hM hF2;have hlt:=hT.lt;have hml:=hI.im.lt;have hsz:=hF.size;have hs8:=hF1.size;have hs9:=hF2.size;have hin:=(hI.row id hid).2.2;have hG:Fr (mb::((iv id).getD fP).ownBlock.toList) wr w9:=(hF1.mono (S' :=mb::((iv id).getD fP).ownBlock.toList) (fun b hb=>.inl (List.mem_cons_of_mem _ hb))).trans hF2 (fun b hb=>.inl (by simp at hb;simp[hb]));refine⟨lT', lb' ++ v1.ownBlock.toList,fun x=>if x<wr.heap.size then c' x else 5,⟨?_,?_,?_,?_,?_,?_⟩,hT.fr hG (fun b hb hm=>?_),⟨_,hI2⟩,hF.trans hG (fun b hb=>?_),h5,fun q hqq=>?_⟩
 · rw[qD (by omega)];exact hc.p
 · rw[qD hml];exact hc.m
 · intro b hb;rw[qD (by have:=hla b hb;omega)];exact hc.a b hb
 · intro b hb;rw[qD (hlt b hb)];exact hc.t b hb
 · intro q hqq;rw[qD (by have:=hv7 q hqq;omega)];exact hc.l q hqq
 {
 intro b hb;rcases qE.1 hb with hb|hb
 · rw[qD (hI.lt b hb)];exact hc.b b hb
 {
 rcases hq b (by simpa using hb) with e|e
 {
 have:=hin b e;rw[qD (hI.lt b this)];exact hc.b b this}
 · rw[qC (by omega)]}}
 {
 have e0:=hc.t b hb;rcases qB.1 hm with e|e
 · have:=hc.m;rw[<-e]at this;omega
 · have:=hc.b b (hin b (by simpa using e));omega}
 {
 rcases qB.1 hb with rfl|e
 · exact .inl (by simp)
 {
 rcases h6 b (hin b (by simpa using e)) with e2|e2
 · exact .inl (by simp[e2])
 · exact .inr e2}}
 {
 rcases qE.1 hqq with e|e
 · exact h6 q e
 {
 rcases hq q (by simpa using e) with e2|e2
 · exact h6 q (hin q e2)
 · exact .inr (by omega)}}
end
def uO(M:Md)(u v:Nat):Nat->Md
  | 0=>M
  | 1=>(M.put u).M
  | _=>((M.put u).M.put v).M
def mO(f:Nat->List Nat)(u v sl:Nat):Nat->Nat->List Nat
  | 0=>f
  | 1=>mM f u (f u++[sl])
  | _=>mM (mM f u (f u++[sl])) v (mM f u (f u++[sl]) v++[sl])
theorem aIB{L:List Lv}{e:Lv}(hne:e.u≠e.v):mO (bU L) e.u e.v e.slot 2=bU (L++[e]):=by
 funext id
 rw[vF];show mM (mM (bU L) e.u (bU L e.u++[e.slot])) e.v (mM (bU L) e.u (bU L e.u++[e.slot]) e.v++[e.slot]) id=_
 unfold Lv.at;by_cases h1:id=e.v
 {
 subst h1;rw[iX,eB (fun h=>hne h.symm)];simp}
 {
 rw[eB h1];by_cases h2:id=e.u
 {
 subst h2;rw[iX];simp}
 {
 rw[eB h2];have b1:(e.u == id)=false:=by simp;omega
 have b2:(e.v == id)=false:=by simp;omega
 rw[b1,b2];simp}}
theorem mN.fr{w7 wr:World}{ps pt mb n:Nat}{v7:Value}{la lT lb:List Nat}{M:Md}{f:Nat->List Nat}(h:mN w7 ps pt mb v7 la lT lb M f n wr):Fr (mb::(lT++lb)) w7 wr:=by
 obtain⟨_,_,_,_,_,_,h,_⟩:=h;exact h
theorem mN.mok{w7 wr:World}{ps pt mb n:Nat}{v7:Value}{la lT lb:List Nat}{M:Md}{f:Nat->List Nat}(h:mN w7 ps pt mb v7 la lT lb M f n wr):M.Ok:=by
 obtain⟨_,_,_,_,h,_⟩:=h;exact h.ok
theorem pY{w w' :World}{mb n:Nat}{iv:Int->Option Value}{f:Nat->List Nat}{lb:List Nat}(h:nF w mb iv f n lb){id:Nat}(hid:id<U64){v:Value}(hv:(iv id).getD fP=v)(he:w'.heap[mb]? =w.heap[mb]?):
    (Instr.lookup 143 (.map (some mb)) (.int .u64 id) false).run Tryz.prog w' =.ok v w' :=by
 have:=(h.im.same he).run_get Tryz.underlying36 Tryz.underlying143 (aFW w') rfl (jU hid);rw[hv]at this;exact this
theorem aIC{L:List Lv}{e:Lv}{n:Nat}(hL:∀x∈L,x.slot≠e.slot)(hn:e.slot<n):((List.range n).map (aG L)).set e.slot e=(List.range n).map (aG (L++[e])):=by
 refine List.ext_getElem? fun i=>?_;rw[List.getElem?_set];by_cases hi:i<n
 {
 simp only[List.length_map,List.length_range,List.getElem?_map,List.getElem?_range hi,Option.map_some,yS hL];by_cases he:e.slot=i
 · rw[qD he,qD he.symm,qD hn]
 · rw[qC he,qC (fun h=>he h.symm)]}
 · rw[qC (by omega),zA (by simp;omega),zA (by simp;omega)]
section
variable {w w' :World} {ps:Nat} {s:Sm} {K:List Nat}
end
end Go.Proofs.YtjdgpcjbgjnahaaGreatDoor
namespace Go.Proofs.YtjdgpcjbgjnahaaGreatDoor
open Go.RowKit Go.Lib Go.Sort
def Tryz.laysIdxI_ren:Go.Shelf.Ren:=⟨fun|29=>153|n=>n,fun|22=>158|23=>3|3=>3|0=>0|4=>4|n=>n,fun|n=>n⟩
theorem Tryz.laysIdxI:Go.Proofs.SlLaysE.n29 Tryz.prog Tryz.laysIdxI_ren:={
  mixed:=by kernel_rfl
  f29:=⟨Tryz.f153.name,by decide,Tryz.func153.trans (congrArg some (by kernel_rfl))⟩
  t0:=Tryz.underlying0
  a0:=Tryz.isAgg0
  z0:=Tryz.sizeOf0
  v0:=Tryz.zeroValue0
  t3:=Tryz.underlying3
  a3:=Tryz.isAgg3
  z3:=Tryz.sizeOf3
  v3:=Tryz.zeroValue3
  t4:=Tryz.underlying4
  a4:=Tryz.isAgg4
  z4:=Tryz.sizeOf4
  v4:=Tryz.zeroValue4
  t22:=Tryz.underlying158
  a22:=Tryz.isAgg158
  z22:=Tryz.sizeOf158
  v22:=Tryz.zeroValue158
  a23:=Tryz.isAgg3
  z23:=Tryz.sizeOf3 }
def Tryz.laysDelI_ren:Go.Shelf.Ren:=⟨fun|45=>154|n=>n,fun|22=>158|23=>3|3=>3|4=>4|0=>0|n=>n,fun|n=>n⟩
theorem Tryz.laysDelI:Go.Proofs.SlLaysN.n45 Tryz.prog Tryz.laysDelI_ren:={
  mixed:=by kernel_rfl
  f45:=⟨Tryz.f154.name,by decide,Tryz.func154.trans (congrArg some (by kernel_rfl))⟩
  t0:=Tryz.underlying0
  a0:=Tryz.isAgg0
  z0:=Tryz.sizeOf0
  v0:=Tryz.zeroValue0
  t3:=Tryz.underlying3
  a3:=Tryz.isAgg3
  z3:=Tryz.sizeOf3
  v3:=Tryz.zeroValue3
  t4:=Tryz.underlying4
  a4:=Tryz.isAgg4
  z4:=Tryz.sizeOf4
  v4:=Tryz.zeroValue4
  t22:=Tryz.underlying158
  a22:=Tryz.isAgg158
  z22:=Tryz.sizeOf158
  v22:=Tryz.zeroValue158
  t23:=Tryz.underlying3
  a23:=Tryz.isAgg3
  z23:=Tryz.sizeOf3
  v23:=Tryz.zeroValue3
  i23:=by kernel_rfl }
section
variable {w:World} {v:Value} {p:List Nat}
theorem aMK{p:List Nat}{j:Nat}(hj:j<p.length):(fM p)[j]? =some (.int .i64 (p[j]'hj)):=by simp[fM,hj]
theorem yX(h:dK w v p)(hp:p.length<=16384){i:Nat}(hi:i<p.length)(hn:p.Nodup):
    Calls Tryz.prog 153 #[v,.int .i64 (p[i]'hi)] w fun e w' =>e=.returned (.int .i64 i)/\w' =w:=by
 obtain⟨b,cap,rfl,_,_⟩:=h.at hi;refine(AnyE.slices_Index Tryz.laysIdxI (fun x:Nat=>Value.int .i64 x) (fun x y=>x == y) ?_ b 0 p.length cap p (p[i]'hi) w (qJ _) (by omega) (fun j hj=>?_)).mono ?_
 · exact⟨fun x y w=>by refine((EqlAt.int Tryz.prog _ .i64).1 (x:Int) (y:Int) w).trans ?_;by_cases e:x=y;(· simp[e]);(· have e1:((x:Int) == (y:Int))=false:=beq_false_of_ne (by omega);have e2:(x == y)=false:=beq_false_of_ne e;simp only[e1,e2]),fun op a b x y w=>(GuardAt.int Tryz.prog _ .i64) op a b (x:Int) (y:Int) w⟩
 {
 obtain⟨b', cap', e,_,hc⟩:=h.at hj;simp only[qO,qI,Addr.mk.injEq,true_and]at e;obtain⟨⟨rfl,_⟩,_⟩:=e;rw[Nat.zero_add,hc,getElem!_pos p j hj]}
 {
 rintro _ w' ⟨rfl,rfl⟩;refine⟨?_,rfl⟩;rw[Lib.idxBy_hit (fun x y=>x == y) p p.length i (p[i]'hi) hi (qJ _) (by rw[getElem!_pos p i hi];simp) (fun j hj=>?_)];rw[getElem!_pos p j (by omega)];simp only[qQ];intro e;have:=(List.getElem_inj hn).1 e;omega}
theorem yY(h:dK w v p)(hp:p.length<=16384){i:Nat}(hi:i<p.length):
    Calls Tryz.prog 154 #[v,.int .i64 i,.int .i64 (i+1)] w fun e w' =>∃v', e=.returned v' /\ dK w' v' (p.eraseIdx i)/\v'.ownBlock=v.ownBlock/\Fr v.ownBlock.toList w w' :=by
 rcases h.2 with⟨rfl,h0⟩|⟨g,cap,cur,e,hg,hcur,hnc,hcm,hcs,htk⟩
 · omega
 subst e;obtain⟨zs,hzs⟩:∃zs:List Int,zs=p.map fun(x:Nat)=>(x:Int):=⟨_,rfl⟩;have hl:zs.length=p.length:=by rw[hzs];simp
 have hz:zs.map (Value.int .i64)=fM p:=by rw[hzs];simp[fM]
 have hH:Holds (Value.int .i64) w g 0 zs.toArray:=holds_of_blockI hcur (by rw[hl,hz];simpa using htk);have hD:=AnyG.slices_Delete_int Tryz.laysDelI g 0 cap i (i+1) zs w hH (by omega) (by unfold maxLen at hcm;omega) (by omega) (by omega);rw[hl]at hD;refine hD.mono ?_;rintro _ w' ⟨rfl,q,rfl⟩;have hlen:(zs.take i++zs.drop (i+1)++List.replicate (i+1-i) 0).length=p.length:=by simp;omega
 have hd:p.length-(i+1-i)=(p.eraseIdx i).length:=by rw[List.length_eraseIdx_of_lt hi];omega
 have hb:(putRow (Value.int .i64) (Sort.ahead w q) g 0 (zs.take i++zs.drop (i+1)++List.replicate (i+1-i) 0).toArray).heap[g]? =some (.cells (putCells (Value.int .i64) 0 (zs.take i++zs.drop (i+1)++List.replicate (i+1-i) 0).toArray cur) 3 (0,0)):=by simp[putRow,mapBlock,Sort.ahead,Array.getElem?_modify,hcur,onCells]
 refine⟨_,rfl,⟨by simp[fM],.inr ⟨g,cap,_,by rw[hd],qR _,hb,by rw[<-hd];omega,hcm,by simp[putCells,hcs],?_⟩⟩,rfl,?_⟩
 {
 have h1:=take_putCellsI cur (zs.take i++zs.drop (i+1)++List.replicate (i+1-i) 0) (by rw[hlen];omega);rw[hlen]at h1;have h2:=congrArg (List.take (p.eraseIdx i).length) h1;rw[List.take_take,Nat.min_eq_left (by rw[<-hd];omega)]at h2;rw[Nat.mul_one,h2,<-List.map_take,List.take_left' (by rw[<-hd];simp;omega),hzs];unfold fM;rw[List.eraseIdx_eq_take_drop_succ];simp;rfl}
 {
 refine(Fr.refl _ _).grown ⟨rfl,rfl,rfl,by simp[Sort.ahead],fun k hk hne=>?_⟩ (fun k (e:some g=some k)=>.inl (by simp[Value.ownBlock,Option.some.inj e]));have:g≠k:=fun e=>hne (by rw[e]);simp[putRow,mapBlock,Sort.ahead,Array.getElem?_modify,this]}
theorem aCB(h:dK w v p)(hp:p.length<=16384):
    Calls Tryz.prog 119 #[v] w fun e w' =>∃v', e=.returned v' /\ dK w' v' p/\(∀q,v'.ownBlock=some q->w.heap.size<=q)/\Fr [] w w' :=by
 obtain⟨i0,hi,hz0,hz1,hz2⟩:=info_parts Tryz.info3;rcases h.2 with⟨rfl,h0⟩|⟨g,cap,cur,e,hg,hcur,hnc,hcm,hcs,htk⟩
 {
 have hn:p=[]:=List.length_eq_zero_iff.1 (by simpa using h0);subst hn;refine(AnyE.slices_Clone_nil Tryz.laysCloneI 0 0 w).mono ?_;rintro _ _ ⟨rfl,rfl⟩;exact⟨_,rfl,h,fun q e=>(by cases e),Fr.refl _ _⟩}
 {
 subst e;refine(AnyE.slices_Clone Tryz.laysCloneI i0 (.int .i64 0) 1 8 hi hz0 hz1 hz2 rfl (by decide) Tryz.sizeOf3 g 0 p.length cap (fM p) w (by simp[fM]) (by unfold maxLen;omega) (by omega) (fun j u hj=>?_) (fun u hu=>?_)).mono ?_
 {
 have hjl:j<p.length:=by have:=(qS.1 hj).1;simpa[fM] using this
 obtain⟨b', cap', e,_,hc⟩:=h.at hjl;simp only[qO,qI,Addr.mk.injEq,true_and]at e;obtain⟨⟨rfl,_⟩,_⟩:=e;rw[Nat.zero_add,hc,<-hj,aMK hjl]}
 {
 simp only[fM,qV]at hu;obtain⟨k,_,rfl⟩:=hu;rfl}
 {
 rintro _ w' ⟨v', rfl,h1,_,hB⟩;refine⟨v', rfl,?_,kT h1,Fr.of_below hB⟩;exact kS h1}}
end
end Go.Proofs.YtjdgpcjbgjnahaaGreatDoor
namespace Go.Proofs.YtjdgpcjbgjnahaaGreatDoor
open Go.RowKit
section
variable {w w' :World} {ps:Nat} {s:Sm} {K:List Nat}
end
theorem sX{M N:Md}(hM:M.Ok)(hN:N.Ok){x:Nat}(h:∀j,(x,j)∈M.L↔(x,j)∈N.L):M.find x=N.find x:=by
 apply Option.ext;intro j;rw[Md.find_iff hM,Md.find_iff hN,h]
theorem yZ{M:Md}(h:M.Ok){id x:Nat}(hne:x≠id):(M.del id).M.find x=M.find x:=by
 refine sX (Md.ok_del h id) h fun j=>?_;unfold Md.del;cases hi:M.find id with
 | none=>exact Iff.rfl
 | some i=>{
 simp only[Md.rem,qZ,bne_iff_ne];exact⟨fun h=>h.1,fun h=>⟨h,hne⟩⟩}
theorem sY{M:Md}(h:M.Ok){L:List Lv}{id x:Nat}(hx:x=id->bU L id≠[]):(Sm.delIf M L id).find x=M.find x:=by
 unfold Sm.delIf;split
 {
 rename_i hn;exact yZ h (fun e=>hx e hn)}
 · rfl
theorem zK{M:Md}(h:M.Ok){id x:Nat}(hid:id<18446744073709551616)(hx:(M.find x).isSome=true∨x≠id):(M.put id).M.find x=M.find x:=by
 unfold Md.put;cases hi:M.find id with
 | some i=>rfl
 | none=>{
 cases hn:M.next with
 | none=>rfl
 | some i=>{
 show(M.add id i).find x=_
 rw[sN h hid hi hn,qC];rintro rfl;rcases hx with e|e
 · rw[hi]at e;cases e
 · exact e rfl}}
section
variable {s:Sm} {i:Nat}
theorem jV{e:Lv}:e∈(s.rem i).L↔e∈s.L/\e.slot≠i:=by
 show e∈s.L.filter (fun e=>e.slot != i)↔_
 simp[qZ]
theorem oC(h:s.Ok){e:Lv}(he:e∈(s.rem i).L){x:Nat}(hx:e.at x=true):(s.rem i).M.find x=s.M.find x:=by
 have hne:bU (s.L.filter fun e=>e.slot != i) x≠[]:=List.ne_nil_of_mem (eM.2 ⟨e,he,hx,rfl⟩);show(Sm.delIf (Sm.delIf s.M (s.L.filter fun e=>e.slot != i) (aG s.L i).u) (s.L.filter fun e=>e.slot != i) (aG s.L i).v).find x=_
 rw[sY (Sm.delIf_ok h.md _ _) (fun e=>e▸hne),sY h.md (fun e=>e▸hne)]
theorem gV(h:s.Ok){e:Lv}(he:e∈s.L){x:Nat}(hx:e.at x=true):(s.M.find x).isSome=true:=(h.vert x).2 (List.ne_nil_of_mem (eM.2 ⟨e,he,hx,rfl⟩))
end
structure Lk (s:Sm) (Q:Nat->Option Int) (G:Nat->Option (Nat×Nat×Int)):Prop where
  q:∀i x,Q i=some x↔∃e∈s.L,e.slot=i/\e.x=x
  g:∀i a b x,G i=some (a,b,x)↔∃e∈s.L,e.slot=i/\s.M.find e.u=some a/\s.M.find e.v=some b/\e.x=x
section
variable {s:Sm} {Q:Nat->Option Int} {G:Nat->Option (Nat×Nat×Int)}
theorem Lk.new(V E last:Nat):Lk (Sm.new V E last) (fun _=>none) (fun _=>none):=⟨fun i x=>by simp[Sm.new],fun i a b x=>by simp[Sm.new]⟩
theorem Lk.drop(h:Lk s Q G)(hok:s.Ok)(i:Nat):Lk (s.rem i) (fun j=>if j=i then none else Q j) (fun j=>if j=i then none else G j):=by
 constructor
 {
 intro j x;by_cases e:j=i
 {
 subst e;simp only[if_true];constructor
 · intro h;cases h
 {
 rintro⟨e,he,hs,_⟩;exact absurd hs (jV.1 he).2}}
 {
 simp only[qC e];rw[h.q];constructor
 · rintro⟨d,hd,hs,hx⟩;exact⟨d,jV.2 ⟨hd,by omega⟩,hs,hx⟩
 · rintro⟨d,hd,hs,hx⟩;exact⟨d,(jV.1 hd).1,hs,hx⟩}}
 {
 intro j a b x;by_cases e:j=i
 {
 subst e;simp only[if_true];constructor
 · intro h;cases h
 {
 rintro⟨e,he,hs,_⟩;exact absurd hs (jV.1 he).2}}
 {
 simp only[qC e];rw[h.g];constructor
 {
 rintro⟨d,hd,hs,h1,h2,hx⟩;have hd' :d∈(s.rem i).L:=jV.2 ⟨hd,by omega⟩;exact⟨d,hd', hs,by rw[oC hok hd' (by simp[Lv.at])];exact h1,by rw[oC hok hd' (by simp[Lv.at])];exact h2,hx⟩}
 {
 rintro⟨d,hd,hs,h1,h2,hx⟩;rw[oC hok hd (by simp[Lv.at])]at h1;rw[oC hok hd (by simp[Lv.at])]at h2;exact⟨d,(jV.1 hd).1,hs,h1,h2,hx⟩}}}
theorem Lk.free(h:Lk s Q G)(hok:s.Ok){i:Nat}(hi:¬s.A.isUsed i):Q i=none/\G i=none:=by
 have hno:∀e∈s.L,e.slot≠i:=fun e he hs=>hi ((hok.used i).2 ⟨e,he,hs⟩);constructor
 {
 cases hq:Q i with
 | none=>rfl
 | some x=>{
 obtain⟨e,he,hs,_⟩:=(h.q i x).1 hq;exact absurd hs (hno e he)}}
 {
 cases hg:G i with
 | none=>rfl
 | some p=>{
 obtain⟨a,b,x⟩:=p;obtain⟨e,he,hs,_⟩:=(h.g i a b x).1 hg;exact absurd hs (hno e he)}}
theorem Lk.ins(h:Lk s Q G)(hok:s.Ok){u v:Nat}(hu:u<18446744073709551616)(hv:v<18446744073709551616)(hc:s.chk u v=0)(wt t x:Int){a b:Nat}(ha:(s.ins u v wt t x).M.find u=some a)(hb:(s.ins u v wt t x).M.find v=some b):
    Lk (s.ins u v wt t x) (fun j=>if j=s.slot then some x else Q j) (fun j=>if j=s.slot then some (a,b,x) else G j):=by
 have hok1:=Md.ok_put hok.md hu;have hfree:∀e∈s.L,e.slot≠s.slot:=fun e he hs=>(Md.isUsed_alloc' hok.ar (Sm.slot_next hok hc)).1 ((hok.used _).2 ⟨e,he,hs⟩);have hf:∀y,(s.M.find y).isSome=true->(s.ins u v wt t x).M.find y=s.M.find y:=fun y hy=>by
   show((s.M.put u).M.put v).M.find y=_
   have h1:=zK hok.md (x:=y) hu (.inl hy);rw[zK hok1 hv (.inl (by rw[h1];exact hy)),h1]
 have hL:(s.ins u v wt t x).L=s.L++[s.edge u v wt t x]:=rfl;constructor
 {
 intro j y;rw[hL];by_cases e:j=s.slot
 {
 subst e;simp only[if_true,qE,qH];constructor
 · intro hx;exact⟨s.edge u v wt t x,.inr rfl,rfl,Option.some.inj hx⟩
 {
 rintro⟨d,hd|hd,hs,hx⟩
 · exact absurd hs (hfree d hd)
 · subst hd;exact congrArg some hx}}
 {
 simp only[qC e,qE,qH];rw[h.q];constructor
 · rintro⟨d,hd,hs,hx⟩;exact⟨d,.inl hd,hs,hx⟩
 {
 rintro⟨d,hd|hd,hs,hx⟩
 · exact⟨d,hd,hs,hx⟩
 · subst hd;exact absurd hs.symm e}}}
 {
 intro j c d y;rw[hL];by_cases e:j=s.slot
 {
 subst e;simp only[if_true,qE,qH];constructor
 {
 intro hx;simp only[qI,zD]at hx;obtain⟨rfl,rfl,rfl⟩:=hx;exact⟨s.edge u v wt t x,.inr rfl,rfl,ha,hb,rfl⟩}
 {
 rintro⟨d', hd|hd,hs,h1,h2,hx⟩
 · exact absurd hs (hfree d' hd)
 {
 subst hd;have e1:some a=some c:=ha.symm.trans h1;have e2:some b=some d:=hb.symm.trans h2;have e3:x=y:=hx;rw[Option.some.inj e1,Option.some.inj e2,e3]}}}
 {
 simp only[qC e,qE,qH];rw[h.g];constructor
 {
 rintro⟨d', hd,hs,h1,h2,hx⟩;exact⟨d', .inl hd,hs,by rw[hf _ (gV hok hd (by simp[Lv.at]))];exact h1,by rw[hf _ (gV hok hd (by simp[Lv.at]))];exact h2,hx⟩}
 {
 rintro⟨d', hd|hd,hs,h1,h2,hx⟩
 {
 rw[hf _ (gV hok hd (by simp[Lv.at]))]at h1 h2;exact⟨d', hd,hs,h1,h2,hx⟩}
 · subst hd;exact absurd hs.symm e}}}
end
inductive fG (to:Int):(Nat->Option Int)->List Nat->(Nat->Option Int)->Prop
  | done (Q:Nat->Option Int) (h:∀i x,Q i=some x->to<x):fG to Q [] Q
  | more (Q : Nat -> Option Int) (i : Nat) (x : Int) (ds : List Nat) (Q' : Nat -> Option Int) (hq : Q i = some x) (hx : x <= to) (hm : ∀ j y, Q j = some y -> ¬ (y < x ∨ (y = x /\ j < i)))
      (h:fG to (fun j=>if j=i then none else Q j) ds Q'):fG to Q (i::ds) Q'
def Sm.rems(s:Sm)(ds:List Nat):Sm:=ds.foldl Sm.rem s
theorem Sm.rems_cons(s:Sm)(i:Nat)(ds:List Nat):s.rems (i::ds)=(s.rem i).rems ds:=rfl
theorem oD{s:Sm}{Q:Nat->Option Int}{G:Nat->Option (Nat×Nat×Int)}(h:Lk s Q G)(hok:s.Ok){i:Nat}{x:Int}(hq:Q i=some x):s.A.isUsed i:=by
 obtain⟨e,he,hs,_⟩:=(h.q i x).1 hq;exact(hok.used i).2 ⟨e,he,hs⟩
theorem aID{L:List Lv}(h:(L.map (·.slot)).Nodup){e d:Lv}(he:e∈L)(hd:d∈L)(hs:e.slot=d.slot):e=d:=by
 have h1:=fN h he;have h2:=fN h hd;rw[<-h1,<-h2,hs]
theorem iY(s:Sm):∀ds:List Nat,(s.rems ds).V=s.V/\(s.rems ds).E=s.E/\(s.rems ds).last=s.last:=by
 intro ds;induction ds generalizing s with
 | nil=>exact⟨rfl,rfl,rfl⟩
 | cons i r ih=>rw[Sm.rems_cons];exact ih (s.rem i)
theorem fG.law{to:Int}{Q Q' :Nat->Option Int}{ds:List Nat}(h:fG to Q ds Q'):∀{s:Sm} {G:Nat->Option (Nat×Nat×Int)},Lk s Q G->s.Ok ->
    (s.rems ds).Ok/\(s.rems ds).L=s.L.filter (fun e=>decide (to<e.x))/\Lk (s.rems ds) Q' (fun j=>if j∈ds then none else G j)/\ds.length+(s.rems ds).L.length=s.L.length:=by
 induction h with
 | done Q h=>{
 intro s G hl hok;have hf:s.L.filter (fun e=>decide (to<e.x))=s.L:=List.filter_eq_self.2 fun e he=>by simpa using h e.slot e.x ((hl.q _ _).2 ⟨e,he,rfl,rfl⟩)
 refine⟨hok,hf.symm,?_,by simp[Sm.rems]⟩;simpa[Sm.rems] using hl}
 | more Q i x ds Q' hq hx hm h ih=>{
 intro s G hl hok;have hu:=oD hl hok hq;obtain⟨d,hd,hds,hdx⟩:=(hl.q i x).1 hq;have hok1:=Sm.ok_rem hok hu;obtain⟨h1,h2,h3,h4⟩:=ih (hl.drop hok i) hok1;have hL:(s.rem i).L=s.L.filter (fun e=>e.slot != i):=rfl;rw[Sm.rems_cons];refine⟨h1,?_,?_,?_⟩
 {
 rw[h2,hL,List.filter_filter];refine List.filter_congr fun e he=>?_;by_cases hs:e.slot=i
 {
 have:e=d:=aID hok.one he hd (by omega);subst this;simp[hs];omega}
 · simp[hs]}
 {
 have:(fun j=>if j∈i::ds then none else G j)=fun j=>if j∈ds then none else if j=i then none else G j:=by {
 funext j
 by_cases e:j=i
 · subst e;simp
 · by_cases e2:j∈ds<;>simp[e,e2]};rw[this];exact h3}
 {
 have h5:(s.L.filter fun e=>e.slot != i).length+1=s.L.length:=by {
 have hp:∀L:List Lv,(L.map (·.slot)).Nodup->d∈L->(L.filter fun e=>e.slot != i).length+1=L.length:=by {
 intro L;induction L with
 | nil=>intro _ h;cases h
 | cons a r ihr=>{
 intro hn hm;simp only[List.map_cons,qN]at hn;rcases qB.1 hm with rfl|hm
 {
 have hr:r.filter (fun e=>e.slot != i)=r:=List.filter_eq_self.2 fun e he=>by
   simp only[bne_iff_ne];exact fun h=>hn.1 (qV.2 ⟨e,he,by omega⟩)
 rw[List.filter_cons_of_neg (by simp[hds]),hr];rfl}
 {
 have hne:a.slot≠i:=fun h=>hn.1 (qV.2 ⟨d,hm,by omega⟩);rw[List.filter_cons_of_pos (by simpa using hne)];simp only[qY];have:=ihr hn.2 hm;omega}}};exact hp s.L hok.one hd};rw[hL]at h4;simp only[qY];omega}}
theorem mW{l m:List Nat}(hl:l.Nodup)(hs:∀x∈l,x∈m):l.length<=m.length:=by
 induction l generalizing m with
 | nil=>simp
 | cons a r ih=>{
 simp only[qN]at hl;have ha:a∈m:=hs a (by simp);have h1:r.length<=(m.erase a).length:=ih hl.2 fun x hx=>(List.mem_erase_of_ne (fun e=>hl.1 (by rw[<-e];exact hx))).2 (hs x (by simp[hx]));rw[List.length_erase_of_mem ha]at h1;have:0<m.length:=List.length_pos_of_mem ha;simp only[qY];omega}
def jW(M:Md)(u v:Nat):List Nat:=M.L.map (·.1)++[u,v].filter fun x=> !(M.find x).isSome
theorem nG(M:Md)(u v:Nat):(jW M u v).length=M.L.length+((if (M.find u).isSome=true then 0 else 1)+if (M.find v).isSome=true then 0 else 1):=by
 unfold jW;rw[zE,List.length_map];congr 1
 cases hu:(M.find u).isSome<;>cases hv:(M.find v).isSome<;>simp only[List.filter,hu,hv]<;>rfl
theorem jX{M:Md}(h:M.Ok){x:Nat}:x∈M.L.map (·.1)↔(M.find x).isSome=true:=by
 rw[qV,qU];constructor
 · rintro⟨⟨a,i⟩,hx,rfl⟩;exact⟨i,(Md.find_iff h).2 hx⟩
 · rintro⟨i,hi⟩;exact⟨(x,i),Md.find_mem hi,rfl⟩
theorem nH{M:Md}(h:M.Ok){u v x:Nat}:x∈jW M u v↔(M.find x).isSome=true∨x=u∨x=v:=by
 unfold jW;rw[qE,jX h];simp only[qZ,qB,List.not_mem_nil,or_false,Bool.not_eq_true'];constructor
 {
 rintro(h|⟨h,_⟩)
 · exact .inl h
 · exact .inr h}
 {
 rintro(h|h)
 · exact .inl h
 {
 by_cases hf:(M.find x).isSome=true
 · exact .inl hf
 · exact .inr ⟨h,by simpa using hf⟩}}
theorem oE{M:Md}(h:M.Ok){u v:Nat}(hne:u≠v):(jW M u v).Nodup:=by
 unfold jW;rw[qM];refine⟨h.ids,(qN.2 ⟨by simpa using hne,by simp⟩).filter _,fun a ha b hb e=>?_⟩;subst e;rw[jX h]at ha;simp only[qZ,Bool.not_eq_true']at hb;rw[ha]at hb;cases hb.2
theorem aIE{s s' :Sm}(h:s.Ok)(h' :s'.Ok)(hV:s'.V=s.V)(hE:s'.E=s.E)(hL:∀e∈s'.L,e∈s.L)(hn:s'.L.length<=s.L.length){u v:Nat}(hc:s.chk u v=0):s'.chk u v=0:=by
 obtain⟨h1,h2,h3⟩:=Sm.chk_ok h hc;rw[Sm.len_used h]at h2;have hm:s'.M.L.length+s'.more u v<=s.M.L.length+s.more u v:=by {
 have e1:=nG s.M u v;have e2:=nG s'.M u v;have e3:(jW s'.M u v).length<=(jW s.M u v).length:=mW (oE h'.md h1) fun x hx=>by
   rw[nH h.md];rw[nH h'.md]at hx;refine hx.imp (fun hx=>?_) id;rw[h.vert];rw[h'.vert]at hx;obtain⟨k,hk⟩:=List.exists_mem_of_ne_nil _ hx;obtain⟨e,he,hat,_⟩:=eM.1 hk;exact List.ne_nil_of_mem (eM.2 ⟨e,hL e he,hat,rfl⟩)
 unfold Sm.more;omega};unfold Sm.chk;rw[qC h1,Sm.len_used h', hE,hV,qC (by omega),qC (by omega)]
structure Wm where
  m:Int
  E:Nat
  V:Nat
  D:Int
  now:Int
  s:Sm
  Q:Nat->Option Int
  G:Nat->Option (Nat×Nat×Int)
  gone:Nat
structure Wm.Ok (W:Wm):Prop where
  ok:W.s.Ok
  hV:W.s.V=W.V
  hE:W.s.E=W.E
  lk:Lk W.s W.Q W.G
  x:∀e∈W.s.L,e.x=e.t+W.m/\0<=e.t/\e.t<=W.now/\W.now<e.x
  mono:W.s.L.Pairwise fun a b=>a.t<=b.t
  num:∀i (h:i<W.s.L.length),(W.s.L[i]).seq=W.gone+i+1
  last:W.s.last=W.gone+W.s.L.length
  max:W.s.last<=9223372036854775807
  m1:1<=W.m
  m2:W.m<=9223372036854775807
  n0:0<=W.now
  n1:W.now+W.m<=9223372036854775807
theorem zL{L:List Lv}{to:Int}(h:L.Pairwise fun a b=>a.x<=b.x):∃k,k<=L.length/\L.filter (fun e=>decide (to<e.x))=L.drop k:=by
 induction L with
 | nil=>exact⟨0,by simp,rfl⟩
 | cons a r ih=>{
 rw[List.pairwise_cons]at h;by_cases ha:to<a.x
 {
 refine⟨0,by simp,?_⟩;rw[List.drop_zero];refine List.filter_eq_self.2 fun e he=>?_;rcases qB.1 he with rfl|he
 · simpa using ha
 {
 have:=h.1 e he;simp;omega}}
 {
 obtain⟨k,hk,e⟩:=ih h.2;refine⟨k+1,by simp;omega,?_⟩;rw[List.filter_cons_of_neg (by simpa using ha),e];rfl}}
def Wm.tick(W:Wm)(to:Int)(ds:List Nat)(Q' :Nat->Option Int):Wm:={ W with now:=to,s:=W.s.rems ds,Q:=Q', G:=fun j=>if j∈ds then none else W.G j,gone:=W.gone+ds.length }
theorem Wm.tick_ok{W:Wm}(h:W.Ok){to:Int}(h1:W.now<=to)(h2:to+W.m<=9223372036854775807){ds:List Nat}{Q' :Nat->Option Int}(hm:fG to W.Q ds Q'):(W.tick to ds Q').Ok/\(W.tick to ds Q').s.L=W.s.L.filter (fun e=>decide (to<e.x))/\(W.tick to ds Q').s.last=W.s.last:=by
 obtain⟨k1,k2,k3,k4⟩:=hm.law h.lk h.ok;obtain⟨r1,r2,r3⟩:=iY W.s ds;have hx:W.s.L.Pairwise fun a b=>a.x<=b.x:=by {
 refine List.Pairwise.imp_of_mem ?_ h.mono;intro a b ha hb hab;have:=h.x a ha;have:=h.x b hb;omega};obtain⟨k,hk,hf⟩:=zL (to:=to) hx;have hkd:k=ds.length:=by rw[k2,hf,List.length_drop]at k4;omega
 refine⟨⟨k1,r1.trans h.hV,r2.trans h.hE,k3,fun e he=>?_,?_,fun i hi=>?_,?_,?_,h.m1,h.m2,Int.le_trans h.n0 h1,h2⟩,k2,r3⟩
 {
 rw[show(W.tick to ds Q').s.L=_ from k2,qZ]at he;have h3:=h.x e he.1;have h4:to<e.x:=by simpa using he.2
 exact⟨h3.1,h3.2.1,Int.le_trans h3.2.2.1 h1,h4⟩}
 {
 show((W.s.rems ds).L).Pairwise _
 rw[k2];exact h.mono.sublist List.filter_sublist}
 {
 have hL:(W.s.rems ds).L=W.s.L.drop ds.length:=by rw[k2,hf,hkd]
 have hi' :i<(W.s.rems ds).L.length:=hi;have hi2:ds.length+i<W.s.L.length:=by rw[hL,List.length_drop]at hi'; omega
 have e:(W.s.rems ds).L[i]'hi' =W.s.L[ds.length+i]'hi2:=by {
 have h5:(W.s.rems ds).L[i]? =W.s.L[ds.length+i]? :=by rw[hL,List.getElem?_drop]
 rw[qK hi', qK hi2]at h5;exact Option.some.inj h5};show((W.s.rems ds).L[i]'hi').seq=W.gone+ds.length+i+1
 rw[e,h.num];omega}
 {
 show(W.s.rems ds).last=W.gone+ds.length+(W.s.rems ds).L.length
 rw[r3,h.last];omega}
 {
 show(W.s.rems ds).last<=_
 rw[r3];exact h.max}
def Wm.put(W:Wm)(u v:Nat)(wt:Int)(a b:Nat):Wm:={ W with s:=W.s.ins u v wt W.now (W.now+W.m),Q:=fun j=>if j=W.s.slot then some (W.now+W.m) else W.Q j,G:=fun j=>if j=W.s.slot then some (a,b,W.now+W.m) else W.G j }
theorem Wm.put_ok{W:Wm}(h:W.Ok){u v:Nat}(hu:u<18446744073709551616)(hv:v<18446744073709551616)(wt:Int)(hc:W.s.chk u v=0)(hl:W.s.last<9223372036854775807){a b:Nat}
    (ha:(W.s.ins u v wt W.now (W.now+W.m)).M.find u=some a) (hb:(W.s.ins u v wt W.now (W.now+W.m)).M.find v=some b):(W.put u v wt a b).Ok:=by
 have hL:(W.put u v wt a b).s.L=W.s.L++[W.s.edge u v wt W.now (W.now+W.m)]:=rfl;have hm1:=h.m1;refine⟨Sm.ok_ins h.ok hu hv hc (by omega) wt W.now (W.now+W.m),h.hV,h.hE,h.lk.ins h.ok hu hv hc wt W.now (W.now+W.m) ha hb,fun e he=>?_,?_,fun i hi=>?_,?_,?_,h.m1,h.m2,h.n0,h.n1⟩
 {
 rw[hL,qE,qH]at he;rcases he with he|rfl
 · exact h.x e he
 · exact⟨rfl,h.n0,Int.le_refl _,by show W.now<W.now+W.m;omega⟩}
 {
 rw[hL,List.pairwise_append];exact⟨h.mono,by simp,fun d hd e he=>by
   rw[qH]at he;subst he;exact(h.x d hd).2.2.1⟩}
 {
 have hi' :i<(W.s.L++[W.s.edge u v wt W.now (W.now+W.m)]).length:=hi;show((W.s.L++[W.s.edge u v wt W.now (W.now+W.m)])[i]'hi').seq=W.gone+i+1
 rw[List.getElem_append];split
 · exact h.num i _
 {
 have:i=W.s.L.length:=by simp at hi'; omega
 subst this;simp only[Nat.sub_self,List.getElem_singleton];show W.s.last+1=_
 rw[h.last]}}
 {
 show W.s.last+1=W.gone+(W.s.L++[W.s.edge u v wt W.now (W.now+W.m)]).length
 rw[h.last];simp;omega}
 {
 show W.s.last+1<=_
 omega}
def Wm.new(m:Int)(E V:Nat)(D:Int)(gone:Nat):Wm:={ m:=m,E:=E,V:=V,D:=D,now:=0,s:=Sm.new V E gone,Q:=fun _=>none,G:=fun _=>none,gone:=gone }
theorem Wm.new_ok{m:Int}{E V:Nat}{D:Int}{gone:Nat}(h1:1<=m)(h2:m<=9223372036854775807)(hE:E<=16384)(hV:V<=4096)(hg:gone<=9223372036854775807):(Wm.new m E V D gone).Ok:=
  ⟨Sm.ok_new hV hE (by omega),rfl,rfl,Lk.new _ _ _,fun e he=>(by cases he),List.Pairwise.nil,fun i hi=>absurd hi (Nat.not_lt_zero _),rfl,hg,h1,h2,Int.le_refl _,by show 0+m<=_;omega⟩
structure Nd where
  k0:Nat
  k1:Nat
  up:Nat
  flip:Bool
  key:Int
  size:Int
  first:Nat
  light:Int
  total:Int
def fv(n:Nd):Nat->Value
  | 0=>.int .i64 n.k0
  | 1=>.int .i64 n.k1
  | 2=>.int .i64 n.up
  | 3=>.bool n.flip
  | 4=>.int .i64 n.key
  | 5=>.int .i64 n.size
  | 6=>.int .i64 n.first
  | 7=>.int .i64 n.light
  | _=>.int .i64 n.total
abbrev Tbl:=Nat->Nd
def Tbl.upd(σ:Tbl)(i:Nat)(n:Nd):Tbl:=fun j=>if j=i then n else σ j
def bL(w:World)(g N:Nat)(σ:Tbl):Prop:=
  ∃arr:Array Value,w.heap[g]? =some (.cells arr 251 (0,0))/\N*9<=arr.size/\∀i,i<N->∀f,f<9->arr[i*9+f]? =some (fv (σ i) f)
theorem bL.cell{w:World}{g N:Nat}{σ:Tbl}(h:bL w g N σ){i f:Nat}(hi:i<N)(hf:f<9):w.cell? ⟨g,i*9+f,none⟩=some (fv (σ i) f):=by
 obtain⟨arr,h1,_,h2⟩:=h;simp[World.cell?,h1];exact h2 i hi f hf
theorem bL.frozen{w:World}{g N:Nat}{σ:Tbl}(h:bL w g N σ)(c:Nat):w.frozen? ⟨g,c,none⟩=false:=by
 obtain⟨arr,h1,_⟩:=h;simp[World.frozen?,h1]
theorem bL.lt{w:World}{g N:Nat}{σ:Tbl}(h:bL w g N σ):g<w.heap.size:=by
 obtain⟨arr,h1,_⟩:=h;exact(qL.1 h1).1
theorem bL.same{w w' :World}{g N:Nat}{σ:Tbl}(h:bL w g N σ)(e:w'.heap[g]? =w.heap[g]?):bL w' g N σ:=by
 obtain⟨arr,h1,r⟩:=h;exact⟨arr,e.trans h1,r⟩
theorem bL.eqv{w w' :World}{g N:Nat}{σ:Tbl}(h:bL w g N σ)(e:Eqv w' w):bL w' g N σ:=h.same (by rw[e.heap])
theorem bL.congr{w:World}{g N:Nat}{σ τ:Tbl}(h:bL w g N σ)(e:∀i,i<N->σ i=τ i):bL w g N τ:=by
 obtain⟨arr,h1,h2,h3⟩:=h;exact⟨arr,h1,h2,fun i hi f hf=>by rw[<-e i hi];exact h3 i hi f hf⟩
theorem bL.store{w:World}{g N:Nat}{σ:Tbl}(h:bL w g N σ){i f:Nat}(hi:i<N)(hf:f<9)(n:Nd)(v:Value)(hv:fv n f=v)(ho:∀f', f' < 9->f' ≠ f->fv n f' =fv (σ i) f'):
    bL (w.setCell ⟨g,i*9+f,none⟩ v) g N (σ.upd i n):=by
 obtain⟨arr,h1,h2,h3⟩:=h;refine⟨arr.setIfInBounds (i*9+f) v,?_,by simpa using h2,fun j hj f' hf' =>?_⟩
 {
 simp only[World.setCell,Array.getElem?_modify];simp[h1]}
 {
 rw[Array.getElem?_setIfInBounds];by_cases e:i*9+f=j*9+f'
 {
 have e1:i=j:=by omega
 have e2:f=f' :=by omega
 subst e1;subst e2;rw[qD rfl,qD (by omega)];simp[Tbl.upd,hv]}
 {
 rw[qC e,h3 j hj f' hf'];simp only[Tbl.upd];by_cases ej:j=i
 · subst ej;rw[qD rfl,ho f' hf' (fun e' =>e (by omega))]
 · rw[qC ej]}}
section
variable {w:World} {g N:Nat} {σ:Tbl} (h:bL w g N σ)
include h
theorem bL.c0:∀i,i<N->w.cell? ⟨g,i*9,none⟩=some (.int .i64 (σ i).k0):=fun i hi=>h.cell (f:=0) hi (by decide)
theorem bL.c1:∀i,i<N->w.cell? ⟨g,i*9+1,none⟩=some (.int .i64 (σ i).k1):=fun i hi=>h.cell (f:=1) hi (by decide)
theorem bL.c2:∀i,i<N->w.cell? ⟨g,i*9+2,none⟩=some (.int .i64 (σ i).up):=fun i hi=>h.cell (f:=2) hi (by decide)
theorem bL.c3:∀i,i<N->w.cell? ⟨g,i*9+3,none⟩=some (.bool (σ i).flip):=fun i hi=>h.cell (f:=3) hi (by decide)
theorem bL.c4:∀i,i<N->w.cell? ⟨g,i*9+4,none⟩=some (.int .i64 (σ i).key):=fun i hi=>h.cell (f:=4) hi (by decide)
theorem bL.c5:∀i,i<N->w.cell? ⟨g,i*9+5,none⟩=some (.int .i64 (σ i).size):=fun i hi=>h.cell (f:=5) hi (by decide)
theorem bL.c6:∀i,i<N->w.cell? ⟨g,i*9+6,none⟩=some (.int .i64 (σ i).first):=fun i hi=>h.cell (f:=6) hi (by decide)
theorem bL.c7:∀i,i<N->w.cell? ⟨g,i*9+7,none⟩=some (.int .i64 (σ i).light):=fun i hi=>h.cell (f:=7) hi (by decide)
theorem bL.c8:∀i,i<N->w.cell? ⟨g,i*9+8,none⟩=some (.int .i64 (σ i).total):=fun i hi=>h.cell (f:=8) hi (by decide)
end
structure aF (w:World) (pf g N:Nat) (cap:Nat) (σ:Tbl) (edges:Int):Prop where
  hd:Blk w pf 253 [.pointer (some ⟨pf,0,none⟩),.slice (some ⟨g,0,none⟩) N cap,.int .i64 edges]
  nodes:bL w g N σ
  ne:pf≠g
  le:N<=65537
  cap:N<=cap
def bQ(σ:Tbl)(i j:Nat):Bool:=decide ((σ i).key<(σ j).key)||(decide ((σ i).key=(σ j).key)&&decide (i<j))
theorem aIF{w:World}{pf g N cap:Nat}{σ:Tbl}{ed:Int}(h:aF w pf g N cap σ ed)(i j:Nat)(hi:i<N)(hj:j<N):
    Calls Tryz.prog 203 #[.pointer (some ⟨pf,0,none⟩),.int .i64 i,.int .i64 j] w fun e w' =>e=.returned (.bool (bQ σ i j))/\∃n,w' =w.drewN n:=by
 have c1:=h.hd.cell 1;simp only[zI,zJ]at c1;have ci:=h.nodes.c4 i hi;have cj:=h.nodes.c4 j hj;have hN:=h.le;have hi2:(i:Int)<N:=by omega
 have hj2:(j:Int)<N:=by omega
 by_cases h1:(σ i).key<(σ j).key
 {
 have d1:decide ((σ i).key<(σ j).key)=true:=qG h1;have hr:bQ σ i j=true:=by simp[bQ,h1]
 rw[hr];clear hr;go_enter Tryz.func203,Tryz.ntmps203
 go_wp2
 go_quiet (fail)
 go_wp2
 go_ret;exact⟨rfl,_,rfl⟩}
 {
 have d1:decide ((σ i).key<(σ j).key)=false:=qF h1;by_cases h2:(σ i).key=(σ j).key
 {
 have d2:((σ i).key == (σ j).key)=true:=beq_iff_eq.2 h2;have hr:bQ σ i j=decide (i<j):=by simp[bQ,h2]
 rw[hr];clear hr;have H2:=qA h2;clear h2;by_cases h3:i<j
 {
 have d3:decide ((i:Int)<(j:Int))=true:=qG (by omega);have d4:decide (i<j)=true:=qG h3;rw[d4];clear d4;go_enter Tryz.func203,Tryz.ntmps203
 go_wp2
 go_quiet (fail)
 go_wp2
 go_ret;exact⟨rfl,_,rfl⟩}
 {
 have d3:decide ((i:Int)<(j:Int))=false:=qF (by omega);have d4:decide (i<j)=false:=qF h3;rw[d4];clear d4;go_enter Tryz.func203,Tryz.ntmps203
 go_wp2
 go_quiet (fail)
 go_wp2
 go_ret;exact⟨rfl,_,rfl⟩}}
 {
 have d2:((σ i).key == (σ j).key)=false:=qQ.2 h2;have hr:bQ σ i j=false:=by simp[bQ,h1,h2]
 rw[hr];clear hr;have H2:=qA h2;clear h2;go_enter Tryz.func203,Tryz.ntmps203
 go_wp2
 go_quiet (fail)
 go_wp2
 go_ret;exact⟨rfl,_,rfl⟩}}
end Go.Proofs.YtjdgpcjbgjnahaaGreatDoor
