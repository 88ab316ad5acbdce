/- lct: a node of a splay tree and what lies about it; rotation. -/
import Derived.Test.YtjdgpcjbgjnahaaGreatDoorB2
import Derived.Deep.RegionHeld3
import Derived.StillTailTactics
import Derived.Shelf.SlicesE.Index
import Derived.Shelf.SlicesG.Delete
import Derived.Sort.OwnSortedInts
import Derived.Deep.QuietTactic
import Derived.BigQuiet
set_option maxRecDepth 10000
set_option maxHeartbeats 1600000
set_option linter.unusedSimpArgs false
set_option linter.unusedVariables false
/- 'append' of one element of several cells; 'append' at a step of a region that draws its order; onto an empty slice that was just made. -/
namespace Go.Proofs.YtjdgpcjbgjnahaaGreatDoor
open Go.RowKit
theorem aCG{P:Program}{w:World}{o:Oper}{a:Act}{K:Act->World->Prop}{Q:Exit->Act->World->Prop}(s x:Operand)(t:TypeId)
    (ho:o.op=.call { callee:=.builtin .append,args:=#[s,x],argTypes:=#[t,t] })
    (e:TypeId) (z:Value) (size bytes:Nat) (ht:P.underlying t=some (.slice e)) (hinfo:(P.info? e).map (fun i=>(i.zero,i.size,i.bytes))=some (some z,size,bytes)) (hzs:z.cells.size=size) (hsz:0<size)
    (v:Value) (n:Nat) (xs:List Value) (hs:a.eval s=v) (hown:w.ownsRow 0 e size v n xs)
    (b:Nat) (et:TypeId) (news:List Value) (hx:a.eval x=.slice (some ⟨b,0,none⟩) 1 1) (hb:Blk w b et news) (hl:news.length=size) (h1:∀u∈news,u.oneCell' =true)
    (hn:n+1<=4294967296) (hby:bytes<=1024)
    (h:∀g cap w', w'.ownsRow 0 e size (.slice (some ⟨g,0,none⟩) (n+1) cap) (n+1) (xs++news)->w.grownBy w' v.ownBlock->(v.ownBlock=some g∨w.heap.size<=g) ->
      K (a.put o.dst (.slice (some ⟨g,0,none⟩) (n+1) cap)) w'):o.wp P a w K Q:=by
 obtain⟨i0,hi,hz0,hz1,hz2⟩:=info_parts hinfo;have hbb:(n+1)*bytes<=140737488355328:=by {
 have:(n+1)*bytes<=4294967296*1024:=Nat.mul_le_mul hn hby;omega};obtain⟨g,cap,w', hr,h2,h3,h4⟩:=yN (P:=P) w t o.type e i0 z size bytes ht hi hz0 hz1 hz2 hzs hsz v n xs hown ⟨b,0,none⟩ 1 1 news (by rw[Nat.one_mul];exact hl) (fun j u hj=>by rw[Addr.add_lit,Nat.zero_add,hb.cell];exact hj) h1 (by decide) (by unfold maxLen;omega) hbb;unfold Oper.wp execOp;simp only[ho,resolve,invoke,builtin,Sem.run_bind,Sem.run_pure,Result.andThen_ok,List.map_toArray,List.map_cons,List.map_nil,hs,hx,hr];exact h g cap w' h2 h3 h4
theorem iN{P:Program}{w:World}{ops:Array Oper}{rest:List Oper}{o:Oper}{a:Act}{Q:Exit->Act->World->Prop}(hgd:o.guard=none)(s x:Operand)(t:TypeId)
    (ho:o.op=.call { callee:=.builtin .append,args:=#[s,x],argTypes:=#[t,t] })
    (e:TypeId) (z:Value) (size bytes:Nat) (ht:P.underlying t=some (.slice e)) (hinfo:(P.info? e).map (fun i=>(i.zero,i.size,i.bytes))=some (some z,size,bytes)) (hzs:z.cells.size=size) (hsz:0<size)
    (v:Value) (n:Nat) (xs:List Value) (hs:a.eval s=v) (hown:w.ownsRow 0 e size v n xs)
    (b:Nat) (et:TypeId) (news:List Value) (hx:a.eval x=.slice (some ⟨b,0,none⟩) 1 1) (hb:Blk w b et news) (hl:news.length=size) (h1:∀u∈news,u.oneCell' =true)
    (hn:n+1<=4294967296) (hby:bytes<=1024)
    (h:∀g cap w', w'.ownsRow 0 e size (.slice (some ⟨g,0,none⟩) (n+1) cap) (n+1) (xs++news)->w.grownBy w' v.ownBlock->(v.ownBlock=some g∨w.heap.size<=g) ->
      wpList P ops Q rest (a.put o.dst (.slice (some ⟨g,0,none⟩) (n+1) cap)) w'):wpList P ops Q (o::rest) a w:=
  wpList_plain hgd fun _ hK=>aCG s x t ho e z size bytes ht hinfo hzs hsz v n xs hs hown b et news hx hb hl h1 hn hby fun g cap w' h2 h3 h4=>hK _ _ (h g cap w' h2 h3 h4)
theorem sD{P:Program}{w:World}{ops:Array Oper}{o:Oper}{a:Act}{K:Act->World->Prop}{Q:Exit->Act->World->Prop}{E:Prop}(hgd:o.guard=none)(s x:Operand)(t:TypeId)
    (ho:o.op=.call { callee:=.builtin .append,args:=#[s,x],argTypes:=#[t,t] })
    (e:TypeId) (z:Value) (size bytes:Nat) (ht:P.underlying t=some (.slice e)) (hinfo:(P.info? e).map (fun i=>(i.zero,i.size,i.bytes))=some (some z,size,bytes)) (hzs:z.cells.size=size) (hsz:0<size)
    (v:Value) (n:Nat) (xs:List Value) (hs:a.eval s=v) (hown:w.ownsRow 0 e size v n xs)
    (b:Nat) (et:TypeId) (news:List Value) (hx:a.eval x=.slice (some ⟨b,0,none⟩) 1 1) (hb:Blk w b et news) (hl:news.length=size) (h1:∀u∈news,u.oneCell' =true)
    (hn:n+1<=4294967296) (hby:bytes<=1024)
    (h:∀g cap w', w'.ownsRow 0 e size (.slice (some ⟨g,0,none⟩) (n+1) cap) (n+1) (xs++news)->w.grownBy w' v.ownBlock->(v.ownBlock=some g∨w.heap.size<=g) ->
      K (a.put o.dst (.slice (some ⟨g,0,none⟩) (n+1) cap)) w'):
    if Region.wanted o (yielded ops a.tmps)=true then Oper.wp P o a w K Q else E:=by
 rw[qD (by simp[Region.wanted,hgd])];exact aCG s x t ho e z size bytes ht hinfo hzs hsz v n xs hs hown b et news hx hb hl h1 hn hby h
def lvC(e:Lv):List Value:=[.int .i64 e.slot,.int .u64 e.seq,.int .u64 e.u,.int .u64 e.v,.int .i64 e.wt,.int .i64 e.t,.int .i64 e.x]
abbrev lvA(e:Lv):Value:=.agg #[.int .i64 e.slot,.int .u64 e.seq,.int .u64 e.u,.int .u64 e.v,.int .i64 e.wt,.int .i64 e.t,.int .i64 e.x]
def xK:Value:=.agg #[.int .i64 0,.int .u64 0,.int .u64 0,.int .u64 0,.int .i64 0,.int .i64 0,.int .i64 0]
theorem Tryz.info74:(Tryz.prog.info? 74).map (fun i=>(i.zero,i.size,i.bytes))=some (some xK,7,56):=by kernel_rfl
def rowV(l:List Lv):List Value:=l.flatMap lvC
theorem sE(l:List Lv)(e:Lv):rowV (l++[e])=rowV l++lvC e:=by simp[rowV]
theorem vD(l:List Lv):(rowV l).length=l.length*7:=by
 induction l with
 | nil=>rfl
 | cons a r ih=>simp only[rowV,List.flatMap_cons,zE,qY]at *;rw[ih];simp[lvC];omega
theorem tN:∀{l:List Lv} {i:Nat} (hi:i<l.length) (j:Nat),j<7->(rowV l)[i*7+j]? =(lvC l[i])[j]?
  | e::l,0,_,j,hj=>by
    show(lvC e++rowV l)[0*7+j]? =(lvC e)[j]?
    rw[List.getElem?_append_left (by simp[lvC];omega)];congr 1;omega
  | e::l,i+1,hi,j,hj=>by
    show(lvC e++rowV l)[(i+1)*7+j]? =_
    rw[List.getElem?_append_right (by simp[lvC];omega)];have:=tN (l:=l) (i:=i) (by simpa using hi) j hj;rw[show(i+1)*7+j-(lvC e).length=i*7+j by simp[lvC];omega,this];simp
theorem dV{w:World}{base:Nat}{e:TypeId}{size:Nat}{v:Value}{n:Nat}{xs:List Value}(h:w.ownsRow base e size v n xs){q:Nat}(hq:v.ownBlock=some q):q<w.heap.size:=by
 rcases h.2 with⟨rfl,_⟩|⟨g,cap,cur,rfl,_,hh,_⟩
 · cases hq
 · simp[Value.ownBlock]at hq;subst hq;exact(qL.1 hh).1
def cX(w:World)(v:Value)(l:List Lv):Prop:=w.ownsRow 0 74 7 v l.length (rowV l)
section
variable {w w' :World} {v:Value} {l:List Lv}
theorem cX.fr{S:List Nat}(h:cX w v l)(hf:Fr S w w')(hs:∀q,v.ownBlock=some q->q∉S):cX w' v l:=
  bD h (fun q hq=>hf.keep q (dV h hq) (hs q hq))
theorem cX.fr0(h:cX w v l)(hf:Fr [] w w'):cX w' v l:=h.fr hf (by simp)
theorem cX.slice(h:cX w v l):∃a cap,v=.slice a l.length cap:=cE h
theorem cX.nil(w:World):cX w (.slice none 0 0) []:=⟨rfl,.inl ⟨rfl,rfl⟩⟩
theorem cX.lt(h:cX w v l){q:Nat}(hq:v.ownBlock=some q):q<w.heap.size:=dV h hq
def aFS(w:World)(b o:Nat)(e:Lv):Prop:=
  w.cell? ⟨b,o,none⟩=some (.int .i64 e.slot)/\w.cell? ⟨b,o+1,none⟩=some (.int .u64 e.seq)/\w.cell? ⟨b,o+2,none⟩=some (.int .u64 e.u)/\w.cell? ⟨b,o+3,none⟩=some (.int .u64 e.v) /\
    w.cell? ⟨b,o+4,none⟩=some (.int .i64 e.wt)/\w.cell? ⟨b,o+5,none⟩=some (.int .i64 e.t)/\w.cell? ⟨b,o+6,none⟩=some (.int .i64 e.x)
theorem cX.at(h:cX w v l){i:Nat}(hi:i<l.length):∃b cap,v=.slice (some ⟨b,0,none⟩) l.length cap/\l.length<=cap/\b<w.heap.size/\(∀j,w.frozen? ⟨b,j,none⟩=false)/\aFS w b (i*7) l[i]:=by
 obtain⟨h1,h2⟩:=h;rcases h2 with⟨rfl,h0⟩|⟨g,cap,cur,rfl,_,hh,hn,hm,hsz,hxs⟩
 · omega
 {
 have key:∀j,j<7->w.cell? ⟨g,i*7+j,none⟩=(lvC l[i])[j]? :=by {
 intro j hj;rw[<-tN hi j hj,<-hxs,List.getElem?_take,qD (by omega)];simp[World.cell?,hh]};exact⟨g,cap,rfl,hn,(qL.1 hh).1,fun j=>by simp[World.frozen?,hh],key 0 (by omega),key 1 (by omega),key 2 (by omega),key 3 (by omega),key 4 (by omega),key 5 (by omega),key 6 (by omega)⟩}
theorem Blk.lvAt{b:Nat}{t:TypeId}{e:Lv}(h:Blk w b t (lvC e)):aFS w b 0 e:=⟨h.cell 0,h.cell 1,h.cell 2,h.cell 3,h.cell 4,h.cell 5,h.cell 6⟩
end
def put7(w:World)(b o:Nat)(e:Lv):World:=
  ((((((w.setCell ⟨b,o,none⟩ (.int .i64 e.slot)).setCell ⟨b,o+1,none⟩ (.int .u64 e.seq)).setCell ⟨b,o+2,none⟩ (.int .u64 e.u)).setCell ⟨b,o+3,none⟩ (.int .u64 e.v)).setCell ⟨b,o+4,none⟩ (.int .i64 e.wt)).setCell ⟨b,o+5,none⟩ (.int .i64 e.t)).setCell ⟨b,o+6,none⟩ (.int .i64 e.x)
theorem vE:∀{l:List Lv} {i:Nat} (_:i<l.length) (e:Lv),
    ((((((((rowV l).set (i*7) (.int .i64 e.slot)).set (i*7+1) (.int .u64 e.seq)).set (i*7+2) (.int .u64 e.u)).set (i*7+3) (.int .u64 e.v)).set (i*7+4) (.int .i64 e.wt)).set (i*7+5) (.int .i64 e.t)).set (i*7+6) (.int .i64 e.x))=rowV (l.set i e)
  | a::l,0,_,e=>by simp[rowV,lvC,qT]
  | a::l,i+1,hi,e=>by
    have ih:=vE (l:=l) (i:=i) (by simpa using hi) e;have hs:∀(xs:List Value) (k:Nat) (u:Value),(lvC a++xs).set (k+7) u=lvC a++xs.set k u:=fun xs k u=>by
      rw[List.set_append_right _ _ (by simp[lvC])];simp[lvC]
    show((((((((lvC a++rowV l).set _ _).set _ _).set _ _).set _ _).set _ _).set _ _).set _ _)=lvC a++rowV (l.set i e)
    rw[<-ih,show(i+1)*7=i*7+7 by omega,hs,show i*7+7+1=i*7+1+7 by omega,hs,show i*7+7+2=i*7+2+7 by omega,hs,show i*7+7+3=i*7+3+7 by omega,hs,
      show i*7+7+4=i*7+4+7 by omega,hs,show i*7+7+5=i*7+5+7 by omega,hs,show i*7+7+6=i*7+6+7 by omega,hs]
theorem cR{w:World}{e:TypeId}{size g n cap i:Nat}{xs:List Value}(h:w.ownsRow 0 e size (.slice (some ⟨g,0,none⟩) n cap) n xs)(u:Value):
    (w.setCell ⟨g,i,none⟩ u).ownsRow 0 e size (.slice (some ⟨g,0,none⟩) n cap) n (xs.set i u):=by
 obtain⟨h1,h2⟩:=h;refine⟨by simpa using h1,?_⟩;rcases h2 with⟨h2,_⟩|⟨g', cap', cur,e1,_,hh,hn,hm,hsz,hxs⟩
 · cases h2
 {
 simp only[qO,qI,Addr.mk.injEq,and_true,true_and]at e1;obtain⟨rfl,rfl⟩:=e1;refine .inr ⟨g,cap,cur.setIfInBounds i u,rfl,qR _,?_,hn,hm,by simpa using hsz,?_⟩
 {
 simp only[World.setCell,Array.getElem?_modify];simp[hh]}
 · rw[<-hxs,Array.toList_setIfInBounds,List.take_set]}
theorem cX.set{w:World}{g cap:Nat}{l:List Lv}(h:cX w (.slice (some ⟨g,0,none⟩) l.length cap) l){i:Nat}(hi:i<l.length)(e:Lv):cX (put7 w g (i*7) e) (.slice (some ⟨g,0,none⟩) l.length cap) (l.set i e):=by
 unfold cX at *;rw[List.length_set,<-vE hi];exact cR (cR (cR (cR (cR (cR (cR h _) _) _) _) _) _) _
theorem Fr.put7{S:List Nat}{w w' :World}(h:Fr S w w')(b o:Nat)(e:Lv)(hb:b∈S∨w.heap.size<=b):Fr S w (put7 w' b o e):=
  ((((((h.setCell _ _ hb).setCell _ _ hb).setCell _ _ hb).setCell _ _ hb).setCell _ _ hb).setCell _ _ hb).setCell _ _ hb
def eZ(w:World)(v:Value)(p:List Nat):Prop:=w.ownsRow 0 3 1 v p.length (mC p)
section
variable {w w' :World} {v:Value} {p:List Nat}
theorem eZ.fr{S:List Nat}(h:eZ w v p)(hf:Fr S w w')(hs:∀q,v.ownBlock=some q->q∉S):eZ w' v p:=
  bD h (fun q hq=>hf.keep q (dV h hq) (hs q hq))
theorem eZ.fr0(h:eZ w v p)(hf:Fr [] w w'):eZ w' v p:=h.fr hf (by simp)
theorem eZ.slice(h:eZ w v p):∃a cap,v=.slice a p.length cap:=cE h
theorem eZ.nil(w:World):eZ w (.slice none 0 0) []:=⟨rfl,.inl ⟨rfl,rfl⟩⟩
theorem eZ.lt(h:eZ w v p){q:Nat}(hq:v.ownBlock=some q):q<w.heap.size:=dV h hq
theorem eZ.at(h:eZ w v p){i:Nat}(hi:i<p.length):∃b cap,v=.slice (some ⟨b,0,none⟩) p.length cap/\b<w.heap.size/\w.cell? ⟨b,i,none⟩=some (.int .i64 (p[i]'hi)):=by
 obtain⟨b,cap,e,_,h2,h3,_⟩:=dA h hi;exact⟨b,cap,e,h2,h3.trans (by simp[mC,hi])⟩
end
def okS:Value->Bool
  | .slice _ _ _=>true
  | _=>false
abbrev fT:Value:=.slice none 0 0
def mH(f:Nat->List Nat)(a:Nat)(l:List Nat):Nat->List Nat:=fun x=>if x=a then l else f x
theorem mI(f:Nat->List Nat)(a:Nat)(l:List Nat):mH f a l a=l:=by simp[mH]
theorem eJ{f:Nat->List Nat}{a x:Nat}{l:List Nat}(h:x≠a):mH f a l x=f x:=by simp[mH,h]
abbrev U64:Nat:=18446744073709551616
structure tO (w:World) (mb:Nat) (iv:Int->Option Value) (f:Nat->List Nat) (n:Nat) (lb:List Nat):Prop where
  im:dX Tryz.prog 36 .u64 okS w mb iv n
  nm:mb∉lb
  lt:∀b∈lb,b<w.heap.size
  row:∀id:Nat,id<U64->((iv id).isSome=true↔f id≠[])/\eZ w ((iv id).getD fT) (f id)/\∀q,((iv id).getD fT).ownBlock=some q->q∈lb
  inj:∀(id id' q:Nat),id<U64->id' < U64->((iv id).getD fT).ownBlock=some q->((iv id').getD fT).ownBlock=some q->id=id'
def lA(w:World)(mb:Nat)(f:Nat->List Nat)(n:Nat)(lb:List Nat):Prop:=∃iv,tO w mb iv f n lb
theorem tO.fr{w w' :World}{mb n:Nat}{iv:Int->Option Value}{f:Nat->List Nat}{lb S:List Nat}(h:tO w mb iv f n lb)(hf:Fr S w w')(h1:mb∉S)(h2:∀b∈lb,b∉S):tO w' mb iv f n lb:=
  ⟨h.im.same (hf.keep mb h.im.lt h1),h.nm,fun b hb=>Nat.lt_of_lt_of_le (h.lt b hb) hf.size,fun id hid=>⟨(h.row id hid).1,(h.row id hid).2.1.fr hf (fun q hq=>h2 q ((h.row id hid).2.2 q hq)),(h.row id hid).2.2⟩,h.inj⟩
theorem tO.set{w w1 w2:World}{mb n n2:Nat}{iv:Int->Option Value}{f:Nat->List Nat}{lb:List Nat}(h:tO w mb iv f n lb){id:Nat}(hid:id<U64){v1:Value}{l1:List Nat}(h1:eZ w1 v1 l1)(hne:l1≠[])
    (hF:Fr ((iv id).getD fT).ownBlock.toList w w1) (hq:∀q,v1.ownBlock=some q->((iv id).getD fT).ownBlock=some q∨w.heap.size<=q)
    (hI:dX Tryz.prog 36 .u64 okS w2 mb (oM iv id (some v1)) n2) (hF2:Fr [mb] w1 w2):tO w2 mb (oM iv id (some v1)) (mH f id l1) n2 (lb++v1.ownBlock.toList):=by
 have hml:=h.im.lt;have hs1:=hF.size;have hs2:=hF2.size;have hqm:∀q,v1.ownBlock=some q->q≠mb:=fun q hqq e=>by
   subst e;rcases hq q hqq with e|e
   · exact h.nm ((h.row id hid).2.2 q e)
   · omega
 have hother:∀(x:Nat),x<U64->x≠id->∀q,((iv x).getD fT).ownBlock=some q->q∉((iv id).getD fT).ownBlock.toList/\q≠mb:=fun x hx hxn q hqq=>
   ⟨fun hm=>hxn (h.inj x id q hx hid hqq (by simpa using hm)),fun e=>h.nm (e▸(h.row x hx).2.2 q hqq)⟩
 refine⟨hI,fun hm=>?_,fun b hb=>?_,fun x hx=>?_,fun x y q hx hy hxq hyq=>?_⟩
 {
 rcases qE.1 hm with hm|hm
 · exact h.nm hm
 · exact hqm mb (by simpa using hm) rfl}
 {
 rcases qE.1 hb with hb|hb
 · have:=h.lt b hb;omega
 · have:=h1.lt (by simpa using hb);omega}
 {
 by_cases e:x=id
 {
 subst e;rw[fE,mI];refine⟨by simp[hne],h1.fr hF2 (fun q hqq hm=>?_),fun q hqq=>qE.2 (.inr (by simpa using hqq))⟩;exact hqm q hqq (by simpa using hm)}
 {
 rw[dR (by omega),eJ e];obtain⟨a1,a2,a3⟩:=h.row x hx;exact⟨a1,(a2.fr hF (fun q hqq=>(hother x hx e q hqq).1)).fr hF2 (fun q hqq hm=>(hother x hx e q hqq).2 (by simpa using hm)),fun q hqq=>qE.2 (.inl (a3 q hqq))⟩}}
 {
 by_cases ex:x=id
 {
 by_cases ey:y=id
 · rw[ex,ey]
 {
 subst ex;rw[fE]at hxq;rw[dR (by omega)]at hyq;rcases hq q hxq with e|e
 · exact(h.inj y x q hy hx hyq e).symm
 · have:=h.lt q ((h.row y hy).2.2 q hyq);omega}}
 {
 rw[dR (by omega)]at hxq;by_cases ey:y=id
 {
 subst ey;rw[fE]at hyq;rcases hq q hyq with e|e
 · exact h.inj x y q hx hy hxq e
 · have:=h.lt q ((h.row x hx).2.2 q hxq);omega}
 {
 rw[dR (by omega)]at hyq;exact h.inj x y q hx hy hxq hyq}}}
theorem lA.fr{w w' :World}{mb n:Nat}{f:Nat->List Nat}{lb S:List Nat}(h:lA w mb f n lb)(hf:Fr S w w')(h1:mb∉S)(h2:∀b∈lb,b∉S):lA w' mb f n lb:=by
 obtain⟨iv,h⟩:=h;exact⟨iv,h.fr hf h1 h2⟩
theorem xL{id:Nat}(h:id<U64):(Lit.int .u64 (id:Int)).wf=true:=by
 show(decide ((0:Int)<=id)&&decide ((id:Int)<=18446744073709551615))=true
 have h:id<18446744073709551616:=h;simp;omega
structure Cls (c:Nat->Nat) (ps mb:Nat) (vl:Value) (la lt lb:List Nat):Prop where
  p:c ps=0
  m:c mb=1
  a:∀b∈la,c b=2
  t:∀b∈lt,c b=3
  l:∀q,vl.ownBlock=some q->c q=4
  b:∀b∈lb,c b=5
structure StB (w:World) (ps pa pt mb n:Nat) (vl:Value) (s:Sm) (la lt lb:List Nat) (c:Nat->Nat):Prop where
  hd:Blk w ps 145 [.int .i64 s.V,.int .i64 s.E,.int .u64 s.last,ptr pa,ptr pt,vl,.map (some mb)]
  ar:aX w pa s.A la
  tb:gM w pt s.M lt
  lv:cX w vl ((List.range n).map (bG s.L))
  inc:lA w mb (cU s.L) s.M.L.length lb
  sn:∀e∈s.L,e.slot<n
  nE:n<=s.E
  ok:s.Ok
  cls:Cls c ps mb vl la lt lb
def stK(ps mb:Nat)(vl:Value)(la lt lb:List Nat):List Nat:=ps::mb::(la++lt++vl.ownBlock.toList++lb)
def bF(w:World)(ps:Nat)(s:Sm)(K:List Nat):Prop:=∃pa pt mb n vl la lt lb c,StB w ps pa pt mb n vl s la lt lb c/\K=stK ps mb vl la lt lb
theorem lA.ltm{w:World}{mb n:Nat}{f:Nat->List Nat}{lb:List Nat}(h:lA w mb f n lb):mb<w.heap.size:=by
 obtain⟨iv,h⟩:=h;exact h.im.lt
theorem lA.ltb{w:World}{mb n:Nat}{f:Nat->List Nat}{lb:List Nat}(h:lA w mb f n lb):∀b∈lb,b<w.heap.size:=by
 obtain⟨iv,h⟩:=h;exact h.lt
section
variable {w w' :World} {ps pa pt mb n:Nat} {vl:Value} {s:Sm} {la lT lb K S:List Nat} {c:Nat->Nat}
theorem StB.fr(h:StB w ps pa pt mb n vl s la lT lb c)(hf:Fr S w w')(hd:∀q∈stK ps mb vl la lT lb,q∉S):StB w' ps pa pt mb n vl s la lT lb c:=
  ⟨hf.blk h.hd (hd _ (by simp[stK])),h.ar.fr hf (fun q hq=>hd q (by simp[stK,hq])),h.tb.fr hf (fun q hq=>hd q (by simp[stK,hq])),h.lv.fr hf (fun q hq=>hd q (by simp[stK,hq])),
    h.inc.fr hf (hd _ (by simp[stK])) (fun q hq=>hd q (by simp[stK,hq])),h.sn,h.nE,h.ok,h.cls⟩
theorem StB.lt(h:StB w ps pa pt mb n vl s la lT lb c):∀q∈stK ps mb vl la lT lb,q<w.heap.size:=by
 intro q hq;simp only[stK,qB,qE,Option.mem_toList]at hq;rcases hq with rfl|rfl|((hq|hq)|hq)|hq
 · exact h.hd.lt
 · exact h.inc.ltm
 · exact h.ar.lt q hq
 · exact h.tb.lt q hq
 · exact h.lv.lt hq
 · exact h.inc.ltb q hq
theorem bF.fr(h:bF w ps s K)(hf:Fr S w w')(hd:∀q∈K,q∉S):bF w' ps s K:=by
 obtain⟨pa,pt,mb,n,vl,la,lt,lb,c,h,rfl⟩:=h;exact⟨pa,pt,mb,n,vl,la,lt,lb,c,h.fr hf hd,rfl⟩
theorem bF.fr0(h:bF w ps s K)(hf:Fr [] w w'):bF w' ps s K:=h.fr hf (by simp)
theorem bF.lt(h:bF w ps s K):∀q∈K,q<w.heap.size:=by
 obtain⟨pa,pt,mb,n,vl,la,lt,lb,c,h,rfl⟩:=h;exact h.lt
theorem bF.ok(h:bF w ps s K):s.Ok:=by
 obtain⟨pa,pt,mb,n,vl,la,lt,lb,c,h,rfl⟩:=h;exact h.ok
end
theorem oR(l:List Nat):(kZ l).Perm l:=List.mergeSort_perm _ _
theorem aCH(l:List Nat):(kZ l).Pairwise (·<= ·):=by
 have:=List.pairwise_mergeSort (le:=fun x y:Nat=>decide (x<=y)) (fun a b c h1 h2=>by simp at *;omega) (fun a b=>by simp;omega) l;exact this.imp (fun h=>by simpa using h)
theorem aCI{l:List Nat}(h:l.Nodup):(kZ l).Pairwise (· < ·):=by
 have h1:=aCH l;have h2:(kZ l).Nodup:=(oR l).nodup_iff.2 h;exact(h1.and h2).imp (fun h=>by omega)
theorem aAP{l:List Nat}{x:Nat}:x∈kZ l↔x∈l:=(oR l).mem_iff
@[go_sem] theorem aKR(w:World)(r:Option Nat):(binOp .neq 143 (.map r) (.map none)).run Tryz.prog w=.ok (.bool (!r.isNone)) w:=run_neq_map_nil w _ _ _ r Tryz.underlying143
abbrev iB(b:Nat):Value:=.pointer (some ⟨b,0,none⟩)
section
variable {w w' :World} {ps:Nat} {s:Sm} {K:List Nat}
theorem bF.open(h:bF w ps s K):∃pa pt mb n vl la lT lb c,StB w ps pa pt mb n vl s la lT lb c/\K=stK ps mb vl la lT lb /\
    w.cell? ⟨ps,0,none⟩=some (.int .i64 s.V)/\w.cell? ⟨ps,1,none⟩=some (.int .i64 s.E)/\w.cell? ⟨ps,2,none⟩=some (.int .u64 s.last)/\w.cell? ⟨ps,3,none⟩=some (ptr pa)/\w.cell? ⟨ps,4,none⟩=some (ptr pt)/\w.cell? ⟨ps,5,none⟩=some vl/\w.cell? ⟨ps,6,none⟩=some (.map (some mb)):=by
 obtain⟨pa,pt,mb,n,vl,la,lT,lb,c,h,rfl⟩:=h;exact⟨pa,pt,mb,n,vl,la,lT,lb,c,h,rfl,h.hd.cell 0,h.hd.cell 1,h.hd.cell 2,h.hd.cell 3,h.hd.cell 4,h.hd.cell 5,h.hd.cell 6⟩
theorem oS(h:bF w ps s K):Calls Tryz.prog 96 #[iB ps] w fun e w' =>e=.returned (.bool true)/\w' =w:=by
 obtain⟨pa,pt,mb,n,vl,la,lT,lb,c,hB,rfl,c0,c1,c2,c3,c4,c5,c6⟩:=h.open;clear h hB;go_enter Tryz.func96,Tryz.ntmps96
 go_wp2
 go_ret;exact⟨rfl,rfl⟩
theorem vF(h:bF w ps s K)(id:Nat)(hid:id<18446744073709551616):Calls Tryz.prog 136 #[iB ps,.int .u64 id] w fun e w' =>e=.returned (.tuple #[.int .i64 ((s.M.find id).getD 0),.bool (s.M.find id).isSome])/\Fr [] w w' :=by
 have HV:=qA (oS h);obtain⟨pa,pt,mb,n,vl,la,lT,lb,c,hB,rfl,c0,c1,c2,c3,c4,c5,c6⟩:=h.open;have HL:=qA (yS id hid hB.tb);clear h hB;generalize (s.M.find id).getD 0=i at *;generalize (s.M.find id).isSome=b at *;go_enter Tryz.func136,Tryz.ntmps136
 go_wp2_with fail
 refine HV.out.mono ?_;rintro _ w ⟨rfl,rfl⟩;go_wp2_with fail
 refine HL.out.mono ?_;rintro _ w1 ⟨rfl,_,hb⟩;have HB:=qA (Fr.of_below hb);clear hb;go_wp2
 go_ret2;exact⟨rfl,HB.out⟩
def Sm.ids(s:Sm):List Nat:=kZ (s.M.L.map (·.1))
theorem Sm.ids_len(s:Sm):s.ids.length=s.M.L.length:=by unfold Sm.ids;rw[aAN,List.length_map]
end
abbrev xM(u v:Nat)(wt t:Int):Value:=.agg #[.int .u64 u,.int .u64 v,.int .i64 wt,.int .i64 t]
@[go_sem] theorem aKS(a b:Value)(w:World):(Instr.index 199 (.agg #[a,b]) (.int .i64 0)).run Tryz.prog w=.ok a w:=by kernel_rfl
@[go_sem] theorem aKT(a b:Value)(w:World):(Instr.index 199 (.agg #[a,b]) (.int .i64 1)).run Tryz.prog w=.ok b w:=by kernel_rfl
def nf(b:Bool):Nat:=if b=true then 0 else 1
def oT(a b:Bool)(k:Nat):Nat:=(if 0<k then nf a else 0)+if 1<k then nf b else 0
section
variable {w w' :World} {ps:Nat} {s:Sm} {K:List Nat}
theorem vG(h:bF w ps s K)(u v:Nat)(hu:u<18446744073709551616)(hv:v<18446744073709551616)(wt t:Int):
    Calls Tryz.prog 90 #[iB ps,xM u v wt t] w fun e w' =>e=.returned (.int .i64 (s.chk u v))/\Fr [] w w' :=by
 have H:=qA h;have hok:=h.ok;have hE:=hok.leE;have hV4:=hok.leV;have hmn:=hok.md.cnt;have hmb:=hok.md.ar.hb;have hms:=hok.ms;simp only[Md.ar]at hmb;have hml:s.M.L.length<=4096:=by omega
 have hau:s.A.used<=16384:=by {
 have h1:=hok.ar.hb;have h2:=hok.sl;unfold Ar.used;omega};clear hmn hmb hms hok h;obtain⟨code,hcode⟩:∃code,code=s.chk u v:=⟨_,rfl⟩;rw[<-hcode];have HCD:=qA hcode;clear hcode;go_enter Tryz.func90,Tryz.ntmps90
 go_wp2_with fail
 have hf0:Fr [] w (w.alloc (.cells #[.int .u64 u,.int .u64 v,.int .i64 wt,.int .i64 t] 72)):=(Fr.refl [] w).alloc _;have hbx:Blk (w.alloc (.cells #[.int .u64 u,.int .u64 v,.int .i64 wt,.int .i64 t] 72)) w.heap.size 72 [.int .u64 u,.int .u64 v,.int .i64 wt,.int .i64 t]:=Blk.new w _ _;have hlt0:w.heap.size<(w.alloc (.cells #[.int .u64 u,.int .u64 v,.int .i64 wt,.int .i64 t] 72)).heap.size:=by simp
 generalize w.alloc (.cells #[.int .u64 u,.int .u64 v,.int .i64 wt,.int .i64 t] 72)=w1 at *;have r0:=hbx.cell 0;have r1:=hbx.cell 1;simp only[zI,zJ]at r0 r1;obtain⟨pa,pt,mb,n,vl,la,lT,lb,c,hB,hK,c0,c1,c2,c3,c4,c5,c6⟩:=(H.out.fr0 hf0).open;have HV:=qA (oS (H.out.fr0 hf0));have HF0:=qA hf0;have HA:=qA (fun(w' :World) (hf:Fr [] w1 w')=>rT (hB.fr hf (by simp)).ar);have HT:=qA (fun(w' :World) (hf:Fr [] w1 w')=>aFO (hB.fr hf (by simp)).tb);have HG:=qA (fun(w' :World) (hf:Fr [] w1 w') (id:Nat) (hid:id<18446744073709551616)=>yS id hid (hB.fr hf (by simp)).tb);clear hf0 hbx hB hK c2 c5 c6 hlt0;refine HV.out.mono ?_;rintro _ w1 ⟨rfl,rfl⟩;clear HV;by_cases huv:u=v
 {
 subst huv;have HCD' :=qA (show code=9 by rw[HCD.out];unfold Sm.chk;rw[qD rfl]);go_wp2_with fail
 go_ret;exact⟨by rw[HCD'.out];rfl,HF0.out⟩}
 {
 have d1:((u:Int) == v)=false:=qQ.2 (by omega);have HUV:=qA huv;clear huv;go_wp2_with fail
 obtain⟨au,hau2⟩:∃au,au=s.A.used:=⟨_,rfl⟩;rw[<-hau2]at HA hau;have HAU:=qA hau2;clear hau2;refine eH (fun w' =>Fr [] w1 w') (by kernel_rfl) (by kernel_rfl) ((Fr.refl [] w1).drew) ?_;iterate 3 (refine aJ (by kernel_rfl) (fun KK hK=>?_);go_simp;refine hK.out _ ?_;clear hK KK)
 refine bT (by kernel_rfl) (ptr pa) (fun w' hw' =>?_) ?_
 {
 have c3:=hw'.cell c3 (by simp);go_simp;first|exact hw' | exact⟨rfl,hw'⟩|skip};refine bT (by kernel_rfl) (.int .i64 au) (fun w' hw' =>?_) ?_
 {
 go_simp;refine(HA.out w' hw').mono ?_;rintro _ w6 ⟨rfl,rfl⟩;exact⟨rfl,hw'⟩};iterate 3 (refine aJ (by kernel_rfl) (fun KK hK=>?_);go_simp;refine hK.out _ ?_;clear hK KK)
 refine bT (by kernel_rfl) (.int .i64 s.E) (fun w' hw' =>?_) ?_
 {
 have c1:=hw'.cell c1 (by simp);go_simp;first|exact hw' | exact⟨rfl,hw'⟩|skip};iterate 1 (refine aJ (by kernel_rfl) (fun KK hK=>?_);go_simp;refine hK.out _ ?_;clear hK KK)
 refine kH ?_;intro w2 hf2;have r0:=hf2.cell r0 (by simp);have r1:=hf2.cell r1 (by simp);have c0:=hf2.cell c0 (by simp);have c4:=hf2.cell c4 (by simp);have HT2:=qA (HT.out w2 hf2);have HF2:=qA hf2;clear hf2 HT HA c1 c3 d1;by_cases hfull:s.E<=au
 {
 have HCD' :=qA (show code=12 by rw[HCD.out];unfold Sm.chk;rw[qC HUV.out,<-HAU.out,qD hfull]);have d1:decide ((s.E:Int)<=au)=true:=qG (by omega);go_wp2_with fail
 go_ret;exact⟨by rw[HCD'.out];rfl,HF0.out.trans' HF2.out⟩}
 {
 have d1:decide ((s.E:Int)<=au)=false:=qF (by omega);have d2:decide (s.E<=au)=false:=qF (by omega);have HFU:=qA hfull;clear hfull;go_wp2_with fail
 refine HT2.out.mono ?_;rintro _ w2 ⟨rfl,rfl⟩;clear HT2 d1 d2;go_wp2_with fail
 have Hu:=qA hu;have Hv:=qA hv;clear r0 r1;go_loopw [5,38] (fun x y wr=>∃k m:Nat,k<=2/\y=.int .i64 k/\x=.int .i64 m/\m<=4096+k/\Hid (m=s.M.L.length+oT (s.M.find u).isSome (s.M.find v).isSome k)/\Hid (Fr [] w2 wr)) (fun _ y _=>2-(intOf y).toNat)
 case atStart=>exact⟨0,s.M.L.length,by omega,rfl,rfl,by omega,qA (by simp[oT]),qA (Fr.refl _ _)⟩
 case round=>
  obtain⟨k,m,hk,rfl,rfl,hm,HM,HF⟩:=hrel;by_cases hlt:k<2
  {
  have hk2:k=0∨k=1:=by omega
  clear hlt hk;rcases hk2 with rfl|rfl
  {
  have HGu:=qA (HG.out wr (HF2.out.trans' HF.out) u Hu.out);have c4:=HF.out.cell c4 (by simp);generalize hfu:(s.M.find u).isSome=fu at *;have HFU2:=qA hfu;clear hfu;generalize (s.M.find u).getD 0=iu at *;rename World=>wo
  go_wp2_with fail
  refine HGu.out.mono ?_;rintro _ w5 ⟨rfl,_,hb5⟩;have HF5:=qA (HF.out.trans' (Fr.of_below hb5));clear hb5 HGu c4;cases fu with
  | true=>{
  go_wp2_with fail
  go_roundw
  case rel=>exact⟨1,m,by omega,rfl,rfl,by omega,qA (by rw[HM.out];simp[oT,nf]),HF5⟩
  case measure=>simp[intOf]}
  | false=>{
  go_wp2_with fail
  go_roundw
  case rel=>exact⟨1,m+1,by omega,rfl,by go_num,by omega,qA (by rw[HM.out];simp[oT,nf];try omega),HF5⟩
  case measure=>simp[intOf]}}
  {
  have HGu:=qA (HG.out wr (HF2.out.trans' HF.out) v Hv.out);have c4:=HF.out.cell c4 (by simp);generalize hfu:(s.M.find v).isSome=fu at *;have HFU2:=qA hfu;clear hfu;generalize (s.M.find v).getD 0=iu at *;rename World=>wo
  go_wp2_with fail
  refine HGu.out.mono ?_;rintro _ w5 ⟨rfl,_,hb5⟩;have HF5:=qA (HF.out.trans' (Fr.of_below hb5));clear hb5 HGu c4;cases fu with
  | true=>{
  go_wp2_with fail
  go_roundw
  case rel=>exact⟨2,m,by omega,rfl,rfl,by omega,qA (by rw[HM.out];simp[oT,nf]),HF5⟩
  case measure=>simp[intOf]}
  | false=>{
  go_wp2_with fail
  go_roundw
  case rel=>exact⟨2,m+1,by omega,rfl,by go_num,by omega,qA (by rw[HM.out];simp[oT,nf];try omega),HF5⟩
  case measure=>simp[intOf]}}}
  {
  obtain rfl:k=2:=by omega
  have c0:=HF.out.cell c0 (by simp);have hmore:m=s.M.L.length+s.more u v:=by rw[HM.out];simp[oT,nf,Sm.more]
  by_cases hov:s.V<m
  {
  have HCD' :=qA (show code=11 by rw[HCD.out];unfold Sm.chk;rw[qC HUV.out,<-HAU.out,qC HFU.out,<-hmore,qD hov]);have d1:decide ((m:Int)>s.V)=true:=qG (by omega);clear hmore;go_wp2_with fail
  go_ret;exact⟨by rw[HCD'.out];rfl,(HF0.out.trans' HF2.out).trans' HF.out⟩}
  {
  have HCD' :=qA (show code=0 by rw[HCD.out];unfold Sm.chk;rw[qC HUV.out,<-HAU.out,qC HFU.out,<-hmore,qC hov]);have d1:decide ((m:Int)>s.V)=false:=qF (by omega);have d2:decide (s.V<m)=false:=qF (by omega);clear hmore;go_wp2_with fail
  go_ret;exact⟨by rw[HCD'.out];rfl,(HF0.out.trans' HF2.out).trans' HF.out⟩}}}}
end
def tP(w:World)(ps:Nat):Nat:=match w.cell? ⟨ps,5,none⟩ with
  | some (.slice _ m _)=>m
  | _=>0
theorem oU{w:World}{ps m cap:Nat}{a:Option Addr}(h:w.cell? ⟨ps,5,none⟩=some (.slice a m cap)):tP w ps=m:=by unfold tP;rw[h]
theorem aAQ{L:List Lv}{n n' :Nat}(hs:∀e∈L,e.slot<n)(hn:n<=n'):(List.range (n' + 1)).map (bG L)=(List.range n').map (bG L)++[Lv.z]:=by
 rw[List.range_succ,List.map_append,List.map_cons,List.map_nil,vA (fun e he=>by have:=hs e he;omega)]
theorem Blk.put7{w:World}{b:Nat}{t:TypeId}{v0 v1 v2 v3 v4 v5 v6:Value}(h:Blk w b t [v0,v1,v2,v3,v4,v5,v6])(e:Lv):Blk (put7 w b 0 e) b t (lvC e):=
  ((((((h.set 0 (.int .i64 e.slot)).set 1 (.int .u64 e.seq)).set 2 (.int .u64 e.u)).set 3 (.int .u64 e.v)).set 4 (.int .i64 e.wt)).set 5 (.int .i64 e.t)).set 6 (.int .i64 e.x)
theorem aAR(w:World):(zeroValue 158).run Tryz.prog w=.ok fT w:=by kernel_rfl
def rD(w7:World)(ps pt mb:Nat)(v7:Value)(la lT lb:List Nat)(M:Md)(f:Nat->List Nat)(n:Nat)(wr:World):Prop:=
  ∃lT' lb' c', Cls c' ps mb v7 la lT' lb' /\ gM wr pt M lT' /\ lA wr mb f n lb' /\ Fr (mb::(lT++lb)) w7 wr/\(∀q∈lT', q∈lT∨w7.heap.size<=q)/\∀q∈lb', q∈lb∨w7.heap.size<=q
section
variable {w7 wr:World} {ps pt mb n:Nat} {v7:Value} {la lT lb:List Nat} {M:Md} {f:Nat->List Nat}
theorem yT(hps:ps<w7.heap.size)(hla:∀b∈la,b<w7.heap.size)(hv7:∀q,v7.ownBlock=some q->q<w7.heap.size)(h:rD w7 ps pt mb v7 la lT lb M f n wr){id:Nat}(hid:id<U64):
    Calls Tryz.prog 173 #[ptr pt,.int .u64 id] wr fun e w' =>∃r,e=.returned r/\rD w7 ps pt mb v7 la lT lb (M.put id).M f n w' /\ Fr (mb::(lT++lb)) w7 w' :=by
 obtain⟨lT', lb', c', hc,hT,hI,hF,h5,h6⟩:=h;refine(aFN id hid hT).mono ?_;rintro _ w' ⟨rfl,l', hT', hN1,hN2⟩;have hlt:=hT.lt;have hlb:=hI.ltb;have hml:=hI.ltm;have hsz:=hF.size;have e1:=hN1.size;have hF' :Fr (mb::(lT++lb)) w7 w' :=hF.trans hN1 (fun q hq=>(h5 q hq).imp (fun e=>by simp[e]) (fun e=>e));refine⟨_,rfl,⟨l', lb', fun x=>if x<wr.heap.size then c' x else 3,⟨?_,?_,?_,?_,?_,?_⟩,hT', ?_,hF', ?_,h6⟩,hF'⟩
 · rw[qD (by omega)];exact hc.p
 · rw[qD hml];exact hc.m
 · intro b hb;rw[qD (by have:=hla b hb;omega)];exact hc.a b hb
 {
 intro b hb;rcases hN2 b hb with e|e
 · rw[qD (hlt b e)];exact hc.t b e
 · rw[qC (by omega)]}
 · intro q hq;rw[qD (by have:=hv7 q hq;omega)];exact hc.l q hq
 · intro b hb;rw[qD (hlb b hb)];exact hc.b b hb
 {
 refine hI.fr hN1 (fun hm=>?_) (fun b hb hm=>?_)
 · have e1:=hc.t mb hm;have e2:=hc.m;omega
 · have e1:=hc.t b hm;have e2:=hc.b b hb;omega}
 {
 intro q hq;rcases hN2 q hq with e|e
 · exact h5 q e
 · exact .inr (by omega)}
theorem yU(hps:ps<w7.heap.size)(hla:∀b∈la,b<w7.heap.size)(hv7:∀q,v7.ownBlock=some q->q<w7.heap.size){lT' lb' :List Nat}{c' :Nat->Nat}{iv:Int->Option Value}(hc:Cls c' ps mb v7 la lT' lb')(hT:gM wr pt M lT')(hI:tO wr mb iv f n lb')(hF:Fr (mb::(lT++lb)) w7 wr)
    (h5:∀q∈lT', q∈lT∨w7.heap.size<=q) (h6:∀q∈lb', q∈lb∨w7.heap.size<=q) {id:Nat} (hid:id<U64) {w8 w9:World} {v1:Value} {l1:List Nat} {n2:Nat} (h1:eZ w8 v1 l1) (hne:l1≠[])
    (hF1:Fr ((iv id).getD fT).ownBlock.toList wr w8) (hq:∀q,v1.ownBlock=some q->((iv id).getD fT).ownBlock=some q∨wr.heap.size<=q)
    (hM:dX Tryz.prog 36 .u64 okS w9 mb (oM iv id (some v1)) n2) (hF2:Fr [mb] w8 w9):rD w7 ps pt mb v7 la lT lb M (mH f id l1) n2 w9:=by
 have hI2:=hI.set hid h1 hne hF1 hq hM hF2;have hlt:=hT.lt;have hml:=hI.im.lt;have hsz:=hF.size;have hs8:=hF1.size;have hs9:=hF2.size;have hin:=(hI.row id hid).2.2;have hG:Fr (mb::((iv id).getD fT).ownBlock.toList) wr w9:=(hF1.mono (S' :=mb::((iv id).getD fT).ownBlock.toList) (fun b hb=>.inl (List.mem_cons_of_mem _ hb))).trans hF2 (fun b hb=>.inl (by simp at hb;simp[hb]));refine⟨lT', lb' ++ v1.ownBlock.toList,fun x=>if x<wr.heap.size then c' x else 5,⟨?_,?_,?_,?_,?_,?_⟩,hT.fr hG (fun b hb hm=>?_),⟨_,hI2⟩,hF.trans hG (fun b hb=>?_),h5,fun q hqq=>?_⟩
 · rw[qD (by omega)];exact hc.p
 · rw[qD hml];exact hc.m
 · intro b hb;rw[qD (by have:=hla b hb;omega)];exact hc.a b hb
 · intro b hb;rw[qD (hlt b hb)];exact hc.t b hb
 · intro q hqq;rw[qD (by have:=hv7 q hqq;omega)];exact hc.l q hqq
 {
 intro b hb;rcases qE.1 hb with hb|hb
 · rw[qD (hI.lt b hb)];exact hc.b b hb
 {
 rcases hq b (by simpa using hb) with e|e
 {
 have:=hin b e;rw[qD (hI.lt b this)];exact hc.b b this}
 · rw[qC (by omega)]}}
 {
 have e0:=hc.t b hb;rcases qB.1 hm with e|e
 · have:=hc.m;rw[<-e]at this;omega
 · have:=hc.b b (hin b (by simpa using e));omega}
 {
 rcases qB.1 hb with rfl|e
 · exact .inl (by simp)
 {
 rcases h6 b (hin b (by simpa using e)) with e2|e2
 · exact .inl (by simp[e2])
 · exact .inr e2}}
 {
 rcases qE.1 hqq with e|e
 · exact h6 q e
 {
 rcases hq q (by simpa using e) with e2|e2
 · exact h6 q (hin q e2)
 · exact .inr (by omega)}}
end
def rE(M:Md)(u v:Nat):Nat->Md
  | 0=>M
  | 1=>(M.put u).M
  | _=>((M.put u).M.put v).M
def jU(f:Nat->List Nat)(u v sl:Nat):Nat->Nat->List Nat
  | 0=>f
  | 1=>mH f u (f u++[sl])
  | _=>mH (mH f u (f u++[sl])) v (mH f u (f u++[sl]) v++[sl])
theorem aCJ{L:List Lv}{e:Lv}(hne:e.u≠e.v):jU (cU L) e.u e.v e.slot 2=cU (L++[e]):=by
 funext id
 rw[sA];show mH (mH (cU L) e.u (cU L e.u++[e.slot])) e.v (mH (cU L) e.u (cU L e.u++[e.slot]) e.v++[e.slot]) id=_
 unfold Lv.at;by_cases h1:id=e.v
 {
 subst h1;rw[mI,eJ (fun h=>hne h.symm)];simp}
 {
 rw[eJ h1];by_cases h2:id=e.u
 {
 subst h2;rw[mI];simp}
 {
 rw[eJ h2];have b1:(e.u == id)=false:=by simp;omega
 have b2:(e.v == id)=false:=by simp;omega
 rw[b1,b2];simp}}
theorem rD.fr{w7 wr:World}{ps pt mb n:Nat}{v7:Value}{la lT lb:List Nat}{M:Md}{f:Nat->List Nat}(h:rD w7 ps pt mb v7 la lT lb M f n wr):Fr (mb::(lT++lb)) w7 wr:=by
 obtain⟨_,_,_,_,_,_,h,_⟩:=h;exact h
theorem rD.mok{w7 wr:World}{ps pt mb n:Nat}{v7:Value}{la lT lb:List Nat}{M:Md}{f:Nat->List Nat}(h:rD w7 ps pt mb v7 la lT lb M f n wr):M.Ok:=by
 obtain⟨_,_,_,_,h,_⟩:=h;exact h.ok
theorem sF{w w' :World}{mb n:Nat}{iv:Int->Option Value}{f:Nat->List Nat}{lb:List Nat}(h:tO w mb iv f n lb){id:Nat}(hid:id<U64){v:Value}(hv:(iv id).getD fT=v)(he:w'.heap[mb]? =w.heap[mb]?):
    (Instr.lookup 143 (.map (some mb)) (.int .u64 id) false).run Tryz.prog w' =.ok v w' :=by
 have:=(h.im.same he).run_get Tryz.underlying36 Tryz.underlying143 (aAR w') rfl (xL hid);rw[hv]at this;exact this
theorem aCK{L:List Lv}{e:Lv}{n:Nat}(hL:∀x∈L,x.slot≠e.slot)(hn:e.slot<n):((List.range n).map (bG L)).set e.slot e=(List.range n).map (bG (L++[e])):=by
 refine List.ext_getElem? fun i=>?_;rw[List.getElem?_set];by_cases hi:i<n
 {
 simp only[List.length_map,List.length_range,List.getElem?_map,List.getElem?_range hi,Option.map_some,vB hL];by_cases he:e.slot=i
 · rw[qD he,qD he.symm,qD hn]
 · rw[qC he,qC (fun h=>he h.symm)]}
 · rw[qC (by omega),zA (by simp;omega),zA (by simp;omega)]
section
variable {w w' :World} {ps:Nat} {s:Sm} {K:List Nat}
end
end Go.Proofs.YtjdgpcjbgjnahaaGreatDoor
namespace Go.Proofs.YtjdgpcjbgjnahaaGreatDoor
open Go.RowKit Go.Lib Go.Sort
section
variable {w:World} {v:Value} {p:List Nat}
end
end Go.Proofs.YtjdgpcjbgjnahaaGreatDoor
namespace Go.Proofs.YtjdgpcjbgjnahaaGreatDoor
open Go.RowKit
section
variable {w w' :World} {ps:Nat} {s:Sm} {K:List Nat}
end
theorem vH{M:Md}(h:M.Ok){id x:Nat}(hid:id<18446744073709551616)(hx:(M.find x).isSome=true∨x≠id):(M.put id).M.find x=M.find x:=by
 unfold Md.put;cases hi:M.find id with
 | some i=>rfl
 | none=>{
 cases hn:M.next with
 | none=>rfl
 | some i=>{
 show(M.add id i).find x=_
 rw[oL h hid hi hn,qC];rintro rfl;rcases hx with e|e
 · rw[hi]at e;cases e
 · exact e rfl}}
section
variable {s:Sm} {i:Nat}
theorem iO(h:s.Ok){e:Lv}(he:e∈s.L){x:Nat}(hx:e.at x=true):(s.M.find x).isSome=true:=(h.vert x).2 (List.ne_nil_of_mem (oH.2 ⟨e,he,hx,rfl⟩))
end
structure Lk (s:Sm) (Q:Nat->Option Int) (G:Nat->Option (Nat×Nat×Int)):Prop where
  q:∀i x,Q i=some x↔∃e∈s.L,e.slot=i/\e.x=x
  g:∀i a b x,G i=some (a,b,x)↔∃e∈s.L,e.slot=i/\s.M.find e.u=some a/\s.M.find e.v=some b/\e.x=x
section
variable {s:Sm} {Q:Nat->Option Int} {G:Nat->Option (Nat×Nat×Int)}
theorem Lk.new(V E last:Nat):Lk (Sm.new V E last) (fun _=>none) (fun _=>none):=⟨fun i x=>by simp[Sm.new],fun i a b x=>by simp[Sm.new]⟩
theorem Lk.free(h:Lk s Q G)(hok:s.Ok){i:Nat}(hi:¬s.A.isUsed i):Q i=none/\G i=none:=by
 have hno:∀e∈s.L,e.slot≠i:=fun e he hs=>hi ((hok.used i).2 ⟨e,he,hs⟩);constructor
 {
 cases hq:Q i with
 | none=>rfl
 | some x=>{
 obtain⟨e,he,hs,_⟩:=(h.q i x).1 hq;exact absurd hs (hno e he)}}
 {
 cases hg:G i with
 | none=>rfl
 | some p=>{
 obtain⟨a,b,x⟩:=p;obtain⟨e,he,hs,_⟩:=(h.g i a b x).1 hg;exact absurd hs (hno e he)}}
theorem Lk.ins(h:Lk s Q G)(hok:s.Ok){u v:Nat}(hu:u<18446744073709551616)(hv:v<18446744073709551616)(hc:s.chk u v=0)(wt t x:Int){a b:Nat}(ha:(s.ins u v wt t x).M.find u=some a)(hb:(s.ins u v wt t x).M.find v=some b):
    Lk (s.ins u v wt t x) (fun j=>if j=s.slot then some x else Q j) (fun j=>if j=s.slot then some (a,b,x) else G j):=by
 have hok1:=Md.ok_put hok.md hu;have hfree:∀e∈s.L,e.slot≠s.slot:=fun e he hs=>(Md.isUsed_alloc' hok.ar (Sm.slot_next hok hc)).1 ((hok.used _).2 ⟨e,he,hs⟩);have hf:∀y,(s.M.find y).isSome=true->(s.ins u v wt t x).M.find y=s.M.find y:=fun y hy=>by
   show((s.M.put u).M.put v).M.find y=_
   have h1:=vH hok.md (x:=y) hu (.inl hy);rw[vH hok1 hv (.inl (by rw[h1];exact hy)),h1]
 have hL:(s.ins u v wt t x).L=s.L++[s.edge u v wt t x]:=rfl;constructor
 {
 intro j y;rw[hL];by_cases e:j=s.slot
 {
 subst e;simp only[if_true,qE,qH];constructor
 · intro hx;exact⟨s.edge u v wt t x,.inr rfl,rfl,Option.some.inj hx⟩
 {
 rintro⟨d,hd|hd,hs,hx⟩
 · exact absurd hs (hfree d hd)
 · subst hd;exact congrArg some hx}}
 {
 simp only[qC e,qE,qH];rw[h.q];constructor
 · rintro⟨d,hd,hs,hx⟩;exact⟨d,.inl hd,hs,hx⟩
 {
 rintro⟨d,hd|hd,hs,hx⟩
 · exact⟨d,hd,hs,hx⟩
 · subst hd;exact absurd hs.symm e}}}
 {
 intro j c d y;rw[hL];by_cases e:j=s.slot
 {
 subst e;simp only[if_true,qE,qH];constructor
 {
 intro hx;simp only[qI,zD]at hx;obtain⟨rfl,rfl,rfl⟩:=hx;exact⟨s.edge u v wt t x,.inr rfl,rfl,ha,hb,rfl⟩}
 {
 rintro⟨d', hd|hd,hs,h1,h2,hx⟩
 · exact absurd hs (hfree d' hd)
 {
 subst hd;have e1:some a=some c:=ha.symm.trans h1;have e2:some b=some d:=hb.symm.trans h2;have e3:x=y:=hx;rw[Option.some.inj e1,Option.some.inj e2,e3]}}}
 {
 simp only[qC e,qE,qH];rw[h.g];constructor
 {
 rintro⟨d', hd,hs,h1,h2,hx⟩;exact⟨d', .inl hd,hs,by rw[hf _ (iO hok hd (by simp[Lv.at]))];exact h1,by rw[hf _ (iO hok hd (by simp[Lv.at]))];exact h2,hx⟩}
 {
 rintro⟨d', hd|hd,hs,h1,h2,hx⟩
 {
 rw[hf _ (iO hok hd (by simp[Lv.at]))]at h1 h2;exact⟨d', hd,hs,h1,h2,hx⟩}
 · subst hd;exact absurd hs.symm e}}}
end
inductive aIJ (to:Int):(Nat->Option Int)->List Nat->(Nat->Option Int)->Prop
  | done (Q:Nat->Option Int) (h:∀i x,Q i=some x->to<x):aIJ to Q [] Q
  | more (Q : Nat -> Option Int) (i : Nat) (x : Int) (ds : List Nat) (Q' : Nat -> Option Int) (hq : Q i = some x) (hx : x <= to) (hm : ∀ j y, Q j = some y -> ¬ (y < x ∨ (y = x /\ j < i)))
      (h:aIJ to (fun j=>if j=i then none else Q j) ds Q'):aIJ to Q (i::ds) Q'
def kI(M:Md)(u v:Nat):List Nat:=M.L.map (·.1)++[u,v].filter fun x=> !(M.find x).isSome
theorem xN(M:Md)(u v:Nat):(kI M u v).length=M.L.length+((if (M.find u).isSome=true then 0 else 1)+if (M.find v).isSome=true then 0 else 1):=by
 unfold kI;rw[zE,List.length_map];congr 1
 cases hu:(M.find u).isSome<;>cases hv:(M.find v).isSome<;>simp only[List.filter,hu,hv]<;>rfl
theorem gR{M:Md}(h:M.Ok){x:Nat}:x∈M.L.map (·.1)↔(M.find x).isSome=true:=by
 rw[qV,qU];constructor
 · rintro⟨⟨a,i⟩,hx,rfl⟩;exact⟨i,(Md.find_iff h).2 hx⟩
 · rintro⟨i,hi⟩;exact⟨(x,i),Md.find_mem hi,rfl⟩
theorem xO{M:Md}(h:M.Ok){u v x:Nat}:x∈kI M u v↔(M.find x).isSome=true∨x=u∨x=v:=by
 unfold kI;rw[qE,gR h];simp only[qZ,qB,List.not_mem_nil,or_false,Bool.not_eq_true'];constructor
 {
 rintro(h|⟨h,_⟩)
 · exact .inl h
 · exact .inr h}
 {
 rintro(h|h)
 · exact .inl h
 {
 by_cases hf:(M.find x).isSome=true
 · exact .inl hf
 · exact .inr ⟨h,by simpa using hf⟩}}
theorem tQ{M:Md}(h:M.Ok){u v:Nat}(hne:u≠v):(kI M u v).Nodup:=by
 unfold kI;rw[qM];refine⟨h.ids,(qN.2 ⟨by simpa using hne,by simp⟩).filter _,fun a ha b hb e=>?_⟩;subst e;rw[gR h]at ha;simp only[qZ,Bool.not_eq_true']at hb;rw[ha]at hb;cases hb.2
structure Wm where
  m:Int
  E:Nat
  V:Nat
  D:Int
  now:Int
  s:Sm
  Q:Nat->Option Int
  G:Nat->Option (Nat×Nat×Int)
  gone:Nat
structure Wm.Ok (W:Wm):Prop where
  ok:W.s.Ok
  hV:W.s.V=W.V
  hE:W.s.E=W.E
  lk:Lk W.s W.Q W.G
  x:∀e∈W.s.L,e.x=e.t+W.m/\0<=e.t/\e.t<=W.now/\W.now<e.x
  mono:W.s.L.Pairwise fun a b=>a.t<=b.t
  num:∀i (h:i<W.s.L.length),(W.s.L[i]).seq=W.gone+i+1
  last:W.s.last=W.gone+W.s.L.length
  max:W.s.last<=9223372036854775807
  m1:1<=W.m
  m2:W.m<=9223372036854775807
  n0:0<=W.now
  n1:W.now+W.m<=9223372036854775807
def Wm.new(m:Int)(E V:Nat)(D:Int)(gone:Nat):Wm:={ m:=m,E:=E,V:=V,D:=D,now:=0,s:=Sm.new V E gone,Q:=fun _=>none,G:=fun _=>none,gone:=gone }
theorem Wm.new_ok{m:Int}{E V:Nat}{D:Int}{gone:Nat}(h1:1<=m)(h2:m<=9223372036854775807)(hE:E<=16384)(hV:V<=4096)(hg:gone<=9223372036854775807):(Wm.new m E V D gone).Ok:=
  ⟨Sm.ok_new hV hE (by omega),rfl,rfl,Lk.new _ _ _,fun e he=>(by cases he),List.Pairwise.nil,fun i hi=>absurd hi (Nat.not_lt_zero _),rfl,hg,h1,h2,Int.le_refl _,by show 0+m<=_;omega⟩
structure Nd where
  k0:Nat
  k1:Nat
  up:Nat
  flip:Bool
  key:Int
  size:Int
  first:Nat
  light:Int
  total:Int
def fv(n:Nd):Nat->Value
  | 0=>.int .i64 n.k0
  | 1=>.int .i64 n.k1
  | 2=>.int .i64 n.up
  | 3=>.bool n.flip
  | 4=>.int .i64 n.key
  | 5=>.int .i64 n.size
  | 6=>.int .i64 n.first
  | 7=>.int .i64 n.light
  | _=>.int .i64 n.total
abbrev Tbl:=Nat->Nd
def Tbl.upd(σ:Tbl)(i:Nat)(n:Nd):Tbl:=fun j=>if j=i then n else σ j
def aV(w:World)(g N:Nat)(σ:Tbl):Prop:=
  ∃arr:Array Value,w.heap[g]? =some (.cells arr 251 (0,0))/\N*9<=arr.size/\∀i,i<N->∀f,f<9->arr[i*9+f]? =some (fv (σ i) f)
theorem aV.cell{w:World}{g N:Nat}{σ:Tbl}(h:aV w g N σ){i f:Nat}(hi:i<N)(hf:f<9):w.cell? ⟨g,i*9+f,none⟩=some (fv (σ i) f):=by
 obtain⟨arr,h1,_,h2⟩:=h;simp[World.cell?,h1];exact h2 i hi f hf
theorem aV.frozen{w:World}{g N:Nat}{σ:Tbl}(h:aV w g N σ)(c:Nat):w.frozen? ⟨g,c,none⟩=false:=by
 obtain⟨arr,h1,_⟩:=h;simp[World.frozen?,h1]
theorem aV.lt{w:World}{g N:Nat}{σ:Tbl}(h:aV w g N σ):g<w.heap.size:=by
 obtain⟨arr,h1,_⟩:=h;exact(qL.1 h1).1
theorem aV.same{w w' :World}{g N:Nat}{σ:Tbl}(h:aV w g N σ)(e:w'.heap[g]? =w.heap[g]?):aV w' g N σ:=by
 obtain⟨arr,h1,r⟩:=h;exact⟨arr,e.trans h1,r⟩
theorem aV.eqv{w w' :World}{g N:Nat}{σ:Tbl}(h:aV w g N σ)(e:Eqv w' w):aV w' g N σ:=h.same (by rw[e.heap])
theorem aV.congr{w:World}{g N:Nat}{σ τ:Tbl}(h:aV w g N σ)(e:∀i,i<N->σ i=τ i):aV w g N τ:=by
 obtain⟨arr,h1,h2,h3⟩:=h;exact⟨arr,h1,h2,fun i hi f hf=>by rw[<-e i hi];exact h3 i hi f hf⟩
theorem aV.store{w:World}{g N:Nat}{σ:Tbl}(h:aV w g N σ){i f:Nat}(hi:i<N)(hf:f<9)(n:Nd)(v:Value)(hv:fv n f=v)(ho:∀f', f' < 9->f' ≠ f->fv n f' =fv (σ i) f'):
    aV (w.setCell ⟨g,i*9+f,none⟩ v) g N (σ.upd i n):=by
 obtain⟨arr,h1,h2,h3⟩:=h;refine⟨arr.setIfInBounds (i*9+f) v,?_,by simpa using h2,fun j hj f' hf' =>?_⟩
 {
 simp only[World.setCell,Array.getElem?_modify];simp[h1]}
 {
 rw[Array.getElem?_setIfInBounds];by_cases e:i*9+f=j*9+f'
 {
 have e1:i=j:=by omega
 have e2:f=f' :=by omega
 subst e1;subst e2;rw[qD rfl,qD (by omega)];simp[Tbl.upd,hv]}
 {
 rw[qC e,h3 j hj f' hf'];simp only[Tbl.upd];by_cases ej:j=i
 · subst ej;rw[qD rfl,ho f' hf' (fun e' =>e (by omega))]
 · rw[qC ej]}}
section
variable {w:World} {g N:Nat} {σ:Tbl} (h:aV w g N σ)
include h
theorem aV.c0:∀i,i<N->w.cell? ⟨g,i*9,none⟩=some (.int .i64 (σ i).k0):=fun i hi=>h.cell (f:=0) hi (by decide)
theorem aV.c1:∀i,i<N->w.cell? ⟨g,i*9+1,none⟩=some (.int .i64 (σ i).k1):=fun i hi=>h.cell (f:=1) hi (by decide)
theorem aV.c2:∀i,i<N->w.cell? ⟨g,i*9+2,none⟩=some (.int .i64 (σ i).up):=fun i hi=>h.cell (f:=2) hi (by decide)
theorem aV.c3:∀i,i<N->w.cell? ⟨g,i*9+3,none⟩=some (.bool (σ i).flip):=fun i hi=>h.cell (f:=3) hi (by decide)
theorem aV.c4:∀i,i<N->w.cell? ⟨g,i*9+4,none⟩=some (.int .i64 (σ i).key):=fun i hi=>h.cell (f:=4) hi (by decide)
theorem aV.c5:∀i,i<N->w.cell? ⟨g,i*9+5,none⟩=some (.int .i64 (σ i).size):=fun i hi=>h.cell (f:=5) hi (by decide)
theorem aV.c6:∀i,i<N->w.cell? ⟨g,i*9+6,none⟩=some (.int .i64 (σ i).first):=fun i hi=>h.cell (f:=6) hi (by decide)
theorem aV.c7:∀i,i<N->w.cell? ⟨g,i*9+7,none⟩=some (.int .i64 (σ i).light):=fun i hi=>h.cell (f:=7) hi (by decide)
theorem aV.c8:∀i,i<N->w.cell? ⟨g,i*9+8,none⟩=some (.int .i64 (σ i).total):=fun i hi=>h.cell (f:=8) hi (by decide)
end
structure aD (w:World) (pf g N:Nat) (cap:Nat) (σ:Tbl) (edges:Int):Prop where
  hd:Blk w pf 253 [.pointer (some ⟨pf,0,none⟩),.slice (some ⟨g,0,none⟩) N cap,.int .i64 edges]
  nodes:aV w g N σ
  ne:pf≠g
  le:N<=65537
  cap:N<=cap
def aY(σ:Tbl)(i j:Nat):Bool:=decide ((σ i).key<(σ j).key)||(decide ((σ i).key=(σ j).key)&&decide (i<j))
theorem aCL{w:World}{pf g N cap:Nat}{σ:Tbl}{ed:Int}(h:aD w pf g N cap σ ed)(i j:Nat)(hi:i<N)(hj:j<N):
    Calls Tryz.prog 203 #[.pointer (some ⟨pf,0,none⟩),.int .i64 i,.int .i64 j] w fun e w' =>e=.returned (.bool (aY σ i j))/\∃n,w' =w.drewN n:=by
 have c1:=h.hd.cell 1;simp only[zI,zJ]at c1;have ci:=h.nodes.c4 i hi;have cj:=h.nodes.c4 j hj;have hN:=h.le;have hi2:(i:Int)<N:=by omega
 have hj2:(j:Int)<N:=by omega
 by_cases h1:(σ i).key<(σ j).key
 {
 have d1:decide ((σ i).key<(σ j).key)=true:=qG h1;have hr:aY σ i j=true:=by simp[aY,h1]
 rw[hr];clear hr;go_enter Tryz.func203,Tryz.ntmps203
 go_wp2
 go_quiet (fail)
 go_wp2
 go_ret;exact⟨rfl,_,rfl⟩}
 {
 have d1:decide ((σ i).key<(σ j).key)=false:=qF h1;by_cases h2:(σ i).key=(σ j).key
 {
 have d2:((σ i).key == (σ j).key)=true:=beq_iff_eq.2 h2;have hr:aY σ i j=decide (i<j):=by simp[aY,h2]
 rw[hr];clear hr;have H2:=qA h2;clear h2;by_cases h3:i<j
 {
 have d3:decide ((i:Int)<(j:Int))=true:=qG (by omega);have d4:decide (i<j)=true:=qG h3;rw[d4];clear d4;go_enter Tryz.func203,Tryz.ntmps203
 go_wp2
 go_quiet (fail)
 go_wp2
 go_ret;exact⟨rfl,_,rfl⟩}
 {
 have d3:decide ((i:Int)<(j:Int))=false:=qF (by omega);have d4:decide (i<j)=false:=qF h3;rw[d4];clear d4;go_enter Tryz.func203,Tryz.ntmps203
 go_wp2
 go_quiet (fail)
 go_wp2
 go_ret;exact⟨rfl,_,rfl⟩}}
 {
 have d2:((σ i).key == (σ j).key)=false:=qQ.2 h2;have hr:aY σ i j=false:=by simp[aY,h1,h2]
 rw[hr];clear hr;have H2:=qA h2;clear h2;go_enter Tryz.func203,Tryz.ntmps203
 go_wp2
 go_quiet (fail)
 go_wp2
 go_ret;exact⟨rfl,_,rfl⟩}}
def aP(σ:Tbl)(i k:Nat):Tbl:=
  if k=0 then σ else
    let σ1:=σ.upd i { σ i with size:=wrap64 ((σ i).size+(σ k).size) }
    let σ2:=σ1.upd i { σ1 i with total:=wrap64 ((σ1 i).total+(σ1 k).total) }
    if aY σ2 (σ2 k).first (σ2 i).first then σ2.upd i { σ2 i with first:=(σ2 k).first } else σ2
def cN(σ:Tbl)(i:Nat):Tbl:=σ.upd i { σ i with size:=1,first:=i,total:=wrap64 (1+(σ i).light) }
def xP(σ:Tbl)(i:Nat):Nat->Tbl
  | 0=>cN σ i
  | 1=>aP (cN σ i) i (σ i).k0
  | _=>aP (aP (cN σ i) i (σ i).k0) i (σ i).k1
def refresh(σ:Tbl)(i:Nat):Tbl:=xP σ i 2
theorem aG(σ:Tbl)(i:Nat)(n:Nd):σ.upd i n i=n:=by simp[Tbl.upd]
theorem aE{σ:Tbl}{i j:Nat}{n:Nd}(h:j≠i):σ.upd i n j=σ j:=by simp[Tbl.upd,h]
def InR(N:Nat)(σ:Tbl):Prop:=∀i,i<N->(σ i).k0<N/\(σ i).k1<N/\(σ i).up<N/\(σ i).first<N
theorem eA{σ:Tbl}{i k j:Nat}(h:j≠i):aP σ i k j=σ j:=by
 unfold aP;by_cases hk:k=0
 · rw[qD hk]
 · rw[qC hk];dsimp only;split<;>simp[aE h]
theorem fA{σ:Tbl}{i k j:Nat}:(aP σ i k j).k0=(σ j).k0/\(aP σ i k j).k1=(σ j).k1/\(aP σ i k j).up=(σ j).up/\(aP σ i k j).flip=(σ j).flip/\(aP σ i k j).key=(σ j).key/\(aP σ i k j).light=(σ j).light:=by
 by_cases h:j=i
 {
 subst h;unfold aP;by_cases hk:k=0
 · rw[qD hk];simp
 · rw[qC hk];dsimp only;split<;>simp[aG]}
 · rw[eA h];simp
theorem kJ{N:Nat}{σ:Tbl}{i k:Nat}(h:InR N σ)(hi:i<N)(hk:k<N)(hki:k≠i):InR N (aP σ i k):=by
 intro j hj;obtain⟨a,b,c,_⟩:=@fA σ i k j;rw[a,b,c];refine⟨(h j hj).1,(h j hj).2.1,(h j hj).2.2.1,?_⟩;by_cases e:j=i
 {
 subst e;unfold aP;by_cases hk0:k=0
 · rw[qD hk0];exact(h j hj).2.2.2
 {
 rw[qC hk0];dsimp only;split
 · simp[aG,aE hki];exact(h k hk).2.2.2
 · simp[aG];exact(h j hj).2.2.2}}
 · rw[eA e];exact(h j hj).2.2.2
theorem oV{N:Nat}{σ:Tbl}{i:Nat}(h:InR N σ)(hi:i<N):InR N (cN σ i):=by
 intro j hj;by_cases e:j=i
 · subst e;simp only[cN,aG];exact⟨(h j hj).1,(h j hj).2.1,(h j hj).2.2.1,hi⟩
 · simp only[cN,aE e];exact h j hj
theorem vI{N:Nat}{σ:Tbl}{i:Nat}(h:InR N σ)(hi:i<N)(h0:(σ i).k0≠i)(h1:(σ i).k1≠i)(t:Nat):InR N (xP σ i t):=by
 match t with
 | 0=>exact oV h hi
 | 1=>exact kJ (oV h hi) hi (h i hi).1 h0
 | t+2=>exact kJ (kJ (oV h hi) hi (h i hi).1 h0) hi (h i hi).2.1 h1
theorem aD.store{w w0:World}{pf g N cap:Nat}{σ:Tbl}{ed:Int}(h:aD w pf g N cap σ ed)(hF:Fr [g] w0 w){i f:Nat}(hi:i<N)(hf:f<9)(n:Nd)(v:Value)(hv:fv n f=v)(ho:∀f', f' < 9->f' ≠ f->fv n f' =fv (σ i) f'):
    aD (w.setCell ⟨g,i*9+f,none⟩ v) pf g N cap (σ.upd i n) ed/\Fr [g] w0 (w.setCell ⟨g,i*9+f,none⟩ v):=
  ⟨⟨h.hd.other _ _ h.ne,h.nodes.store hi hf n v hv ho,h.ne,h.le,h.cap⟩,hF.setCell _ _ (.inl (by simp))⟩
theorem aD.eqv{w w' :World}{pf g N cap:Nat}{σ:Tbl}{ed:Int}(h:aD w pf g N cap σ ed)(e:Eqv w' w):aD w' pf g N cap σ ed:=
  ⟨e.blk h.hd,h.nodes.eqv e,h.ne,h.le,h.cap⟩
section
variable {w w0:World} {pf g N cap:Nat} {σ:Tbl} {ed:Int} (h:aD w pf g N cap σ ed) (hF:Fr [g] w0 w) {i:Nat} (hi:i<N)
include h hF hi
theorem aD.st0(x:Nat):aD (w.setCell ⟨g,i*9,none⟩ (.int .i64 x)) pf g N cap (σ.upd i { σ i with k0:=x }) ed/\Fr [g] w0 (w.setCell ⟨g,i*9,none⟩ (.int .i64 x)):=
  h.store hF hi (f:=0) (by decide) _ _ rfl (by intro f' h1 h2;match f', h1,h2 with|1,_,_=>rfl|2,_,_=>rfl|3,_,_=>rfl|4,_,_=>rfl|5,_,_=>rfl|6,_,_=>rfl|7,_,_=>rfl|_+8,_,_=>rfl)
theorem aD.st1(x:Nat):aD (w.setCell ⟨g,i*9+1,none⟩ (.int .i64 x)) pf g N cap (σ.upd i { σ i with k1:=x }) ed/\Fr [g] w0 (w.setCell ⟨g,i*9+1,none⟩ (.int .i64 x)):=
  h.store hF hi (f:=1) (by decide) _ _ rfl (by intro f' h1 h2;match f', h1,h2 with|0,_,_=>rfl|2,_,_=>rfl|3,_,_=>rfl|4,_,_=>rfl|5,_,_=>rfl|6,_,_=>rfl|7,_,_=>rfl|_+8,_,_=>rfl)
theorem aD.st2(x:Nat):aD (w.setCell ⟨g,i*9+2,none⟩ (.int .i64 x)) pf g N cap (σ.upd i { σ i with up:=x }) ed/\Fr [g] w0 (w.setCell ⟨g,i*9+2,none⟩ (.int .i64 x)):=
  h.store hF hi (f:=2) (by decide) _ _ rfl (by intro f' h1 h2;match f', h1,h2 with|0,_,_=>rfl|1,_,_=>rfl|3,_,_=>rfl|4,_,_=>rfl|5,_,_=>rfl|6,_,_=>rfl|7,_,_=>rfl|_+8,_,_=>rfl)
theorem aD.st3(x:Bool):aD (w.setCell ⟨g,i*9+3,none⟩ (.bool x)) pf g N cap (σ.upd i { σ i with flip:=x }) ed/\Fr [g] w0 (w.setCell ⟨g,i*9+3,none⟩ (.bool x)):=
  h.store hF hi (f:=3) (by decide) _ _ rfl (by intro f' h1 h2;match f', h1,h2 with|0,_,_=>rfl|1,_,_=>rfl|2,_,_=>rfl|4,_,_=>rfl|5,_,_=>rfl|6,_,_=>rfl|7,_,_=>rfl|_+8,_,_=>rfl)
theorem aD.st4(x:Int):aD (w.setCell ⟨g,i*9+4,none⟩ (.int .i64 x)) pf g N cap (σ.upd i { σ i with key:=x }) ed/\Fr [g] w0 (w.setCell ⟨g,i*9+4,none⟩ (.int .i64 x)):=
  h.store hF hi (f:=4) (by decide) _ _ rfl (by intro f' h1 h2;match f', h1,h2 with|0,_,_=>rfl|1,_,_=>rfl|2,_,_=>rfl|3,_,_=>rfl|5,_,_=>rfl|6,_,_=>rfl|7,_,_=>rfl|_+8,_,_=>rfl)
theorem aD.st5(x:Int):aD (w.setCell ⟨g,i*9+5,none⟩ (.int .i64 x)) pf g N cap (σ.upd i { σ i with size:=x }) ed/\Fr [g] w0 (w.setCell ⟨g,i*9+5,none⟩ (.int .i64 x)):=
  h.store hF hi (f:=5) (by decide) _ _ rfl (by intro f' h1 h2;match f', h1,h2 with|0,_,_=>rfl|1,_,_=>rfl|2,_,_=>rfl|3,_,_=>rfl|4,_,_=>rfl|6,_,_=>rfl|7,_,_=>rfl|_+8,_,_=>rfl)
theorem aD.st6(x:Nat):aD (w.setCell ⟨g,i*9+6,none⟩ (.int .i64 x)) pf g N cap (σ.upd i { σ i with first:=x }) ed/\Fr [g] w0 (w.setCell ⟨g,i*9+6,none⟩ (.int .i64 x)):=
  h.store hF hi (f:=6) (by decide) _ _ rfl (by intro f' h1 h2;match f', h1,h2 with|0,_,_=>rfl|1,_,_=>rfl|2,_,_=>rfl|3,_,_=>rfl|4,_,_=>rfl|5,_,_=>rfl|7,_,_=>rfl|_+8,_,_=>rfl)
theorem aD.st7(x:Int):aD (w.setCell ⟨g,i*9+7,none⟩ (.int .i64 x)) pf g N cap (σ.upd i { σ i with light:=x }) ed/\Fr [g] w0 (w.setCell ⟨g,i*9+7,none⟩ (.int .i64 x)):=
  h.store hF hi (f:=7) (by decide) _ _ rfl (by intro f' h1 h2;match f', h1,h2 with|0,_,_=>rfl|1,_,_=>rfl|2,_,_=>rfl|3,_,_=>rfl|4,_,_=>rfl|5,_,_=>rfl|6,_,_=>rfl|_+8,_,_=>rfl)
theorem aD.st8(x:Int):aD (w.setCell ⟨g,i*9+8,none⟩ (.int .i64 x)) pf g N cap (σ.upd i { σ i with total:=x }) ed/\Fr [g] w0 (w.setCell ⟨g,i*9+8,none⟩ (.int .i64 x)):=
  h.store hF hi (f:=8) (by decide) _ _ rfl (by intro f' h1 h2;match f', h1,h2 with|0,_,_=>rfl|1,_,_=>rfl|2,_,_=>rfl|3,_,_=>rfl|4,_,_=>rfl|5,_,_=>rfl|6,_,_=>rfl|7,_,_=>rfl|m+8,h1,h2=>exact absurd (show m+8=8 by omega) h2)
end
theorem mJ(x y:Value)(w:World):(Instr.index 249 (.agg #[x,y]) (.int .i64 0)).run Tryz.prog w=.ok x w:=by kernel_rfl
theorem mK(x y:Value)(w:World):(Instr.index 249 (.agg #[x,y]) (.int .i64 1)).run Tryz.prog w=.ok y w:=by kernel_rfl
theorem aCM{w:World}{pf g N cap:Nat}{σ:Tbl}{ed:Int}(h:aD w pf g N cap σ ed){i:Nat}(hi:i<N):
    aD (((w.setCell ⟨g,i*9+5,none⟩ (.int .i64 1)).setCell ⟨g,i*9+6,none⟩ (.int .i64 i)).setCell ⟨g,i*9+8,none⟩ (.int .i64 (wrap64 (1+(σ i).light)))) pf g N cap (cN σ i) ed /\
      Fr [g] w (((w.setCell ⟨g,i*9+5,none⟩ (.int .i64 1)).setCell ⟨g,i*9+6,none⟩ (.int .i64 i)).setCell ⟨g,i*9+8,none⟩ (.int .i64 (wrap64 (1+(σ i).light)))):=by
 obtain⟨h1,f1⟩:=h.st5 (Fr.refl _ _) hi 1;obtain⟨h2,f2⟩:=h1.st6 f1 hi i;obtain⟨h3,f3⟩:=h2.st8 f2 hi (wrap64 (1+(σ i).light));refine⟨⟨h3.hd,h3.nodes.congr ?_,h3.ne,h3.le,h3.cap⟩,f3⟩;intro j _;by_cases e:j=i
 · subst e;simp[cN,aG]
 · simp[cN,aE e]
theorem aCN(n:Int):IntKind.i64.wrap n=wrap64 n:=by rw[IntKind.wrap_i64];unfold wrap64;omega
theorem cW{w:World}{pf g N cap:Nat}{σ:Tbl}{ed:Int}(h:aD w pf g N cap σ ed)(i:Nat)(hi:i<N)(hR:InR N σ)(h0:(σ i).k0≠i)(h1:(σ i).k1≠i):
    Calls Tryz.prog 167 #[.pointer (some ⟨pf,0,none⟩),.int .i64 i] w fun e w' =>e=.returned (.tuple #[])/\aD w' pf g N cap (refresh σ i) ed/\Fr [g] w w' :=by
 have c1:=h.hd.cell 1;simp only[zI,zJ]at c1;have hN:=h.le;have a0:=h.nodes.c0 i hi;have a1:=h.nodes.c1 i hi;have a5:=h.nodes.c5 i hi;have a6:=h.nodes.c6 i hi;have a7:=h.nodes.c7 i hi;have a8:=h.nodes.c8 i hi;have hfz:=h.nodes.frozen;have hi2:(i:Int)<N:=by omega
 obtain⟨hm0,hf0⟩:=aCM h hi;have HR:=qA hR;clear hR;have H0:=qA h0;clear h0;have H1:=qA h1;clear h1;go_enter Tryz.func167,Tryz.ntmps167
 go_wp2
 generalize hW:(((w.setCell ⟨g,i*9+5,none⟩ (.int .i64 1)).setCell ⟨g,i*9+6,none⟩ (.int .i64 i)).setCell ⟨g,i*9+8,none⟩ (.int .i64 (wrap64 (1+(σ i).light))))=W0 at *;clear hW a0 a1 a5 a6 a7 a8 hfz c1;go_loopw [33] (fun x wr=>∃t:Nat,t<=2/\x=.int .i64 t/\aD wr pf g N cap (xP σ i t) ed/\Fr [g] w wr) (fun x _=>2-(intOf x).toNat)
 case atStart=>exact⟨0,by omega,rfl,hm0,hf0⟩
 case round=>
  clear hm0 hf0;obtain⟨t,ht,rfl,hL,hF⟩:=hrel;by_cases hlt:t<2
  {
  have hInR:=vI HR.out hi H0.out H1.out t;obtain⟨k,hix,hkN,hki,hnx⟩:∃k:Nat,(∀W:World,(Instr.index 249 (.agg #[.int .i64 (σ i).k0,.int .i64 (σ i).k1]) (.int .i64 t)).run Tryz.prog W=.ok (.int .i64 k) W)/\k<N/\k≠i/\xP σ i (t+1)=aP (xP σ i t) i k:=by {
  rcases(show t=0∨t=1 by omega) with rfl|rfl
  · exact⟨(σ i).k0,fun W=>mJ _ _ W,(HR.out i hi).1,H0.out,rfl⟩
  · exact⟨(σ i).k1,fun W=>mK _ _ W,(HR.out i hi).2.1,H1.out,rfl⟩};have Hnx:=qA hnx;clear hnx;have HIn:=qA hInR;clear hInR;generalize xP σ i t=τ at *;by_cases hk0:k=0
  {
  subst hk0;go_wp2
  go_roundw
  case rel=>exact⟨t+1,by omega,by go_num,by rw[Hnx.out];exact hL,hF⟩
  case measure=>simp[intOf];omega}
  {
  have hb0:((k:Int) == 0)=false:=qQ.2 (by omega);have hk2:(k:Int)<N:=by omega
  have c1:=hL.hd.cell 1;simp only[zI,zJ]at c1;have a5:=hL.nodes.c5 i hi;have b5:=hL.nodes.c5 k hkN;have hfz:=hL.nodes.frozen;go_wp2
  refine bL 11 (fun w' =>aD w' pf g N cap (τ.upd i { τ i with size:=wrap64 ((τ i).size+(τ k).size) }) ed/\Fr [g] w w') (by kernel_rfl) (by kernel_rfl) (by kernel_rfl) ?_;iterate 11 (refine bW (by decide) (fun K hK=>?_);go_simp;refine hK _ ?_;clear hK K)
  refine bE rfl undef (fun w' hw' =>?_) ?_
  {
  obtain⟨nq,rfl⟩:=hw';go_simp;rw[aCN];exact(hL.eqv (Eqv.drewN wr nq)).st5 (hF.drewN nq) hi _};refine bX ?_;rintro w2 ⟨hL2,hF2⟩;have hk1:τ.upd i { τ i with size:=wrap64 ((τ i).size+(τ k).size) } k=τ k:=aE hki;have c1' :=hL2.hd.cell 1;simp only[zI,zJ]at c1';have a8:=hL2.nodes.c8 i hi;have b8:=hL2.nodes.c8 k hkN;rw[hk1]at b8;rw[aG]at a8;have hfz2:=hL2.nodes.frozen;clear a5 b5 hfz c1 hk1;go_wp2
  refine bL 11 (fun w' =>aD w' pf g N cap ((τ.upd i { τ i with size:=wrap64 ((τ i).size+(τ k).size) }).upd i { τ i with size:=wrap64 ((τ i).size+(τ k).size),total:=wrap64 ((τ i).total+(τ k).total) }) ed/\Fr [g] w w') (by kernel_rfl) (by kernel_rfl) (by kernel_rfl) ?_;iterate 11 (refine bW (by decide) (fun K hK=>?_);go_simp;refine hK _ ?_;clear hK K)
  refine bE rfl undef (fun w' hw' =>?_) ?_
  {
  obtain⟨nq,rfl⟩:=hw';go_simp;have:=(hL2.eqv (Eqv.drewN w2 nq)).st8 (hF2.drewN nq) hi (wrap64 ((τ i).total+(τ k).total));rw[aG]at this;rw[aCN];exact this};refine bX ?_;rintro w3 ⟨hL3,hF3⟩;clear a8 b8 hfz2 c1' hL hL2 hF hF2;have hns:aP τ i k=if aY ((τ.upd i { τ i with size:=wrap64 ((τ i).size+(τ k).size) }).upd i { τ i with size:=wrap64 ((τ i).size+(τ k).size),total:=wrap64 ((τ i).total+(τ k).total) }) (τ k).first (τ i).first then((τ.upd i { τ i with size:=wrap64 ((τ i).size+(τ k).size) }).upd i { τ i with size:=wrap64 ((τ i).size+(τ k).size),total:=wrap64 ((τ i).total+(τ k).total) }).upd i { τ i with size:=wrap64 ((τ i).size+(τ k).size),total:=wrap64 ((τ i).total+(τ k).total),first:=(τ k).first } else((τ.upd i { τ i with size:=wrap64 ((τ i).size+(τ k).size) }).upd i { τ i with size:=wrap64 ((τ i).size+(τ k).size),total:=wrap64 ((τ i).total+(τ k).total) }):=by {
  unfold aP;rw[qC hk0];simp only[aG,aE hki]};have Hns:=qA hns;clear hns;have c6:=hL3.nodes.c6 i hi;have d6:=hL3.nodes.c6 k hkN;have hk1:((τ.upd i { τ i with size:=wrap64 ((τ i).size+(τ k).size) }).upd i { τ i with size:=wrap64 ((τ i).size+(τ k).size),total:=wrap64 ((τ i).total+(τ k).total) }) k=τ k:=by rw[aE hki,aE hki]
  have hi1:((τ.upd i { τ i with size:=wrap64 ((τ i).size+(τ k).size) }).upd i { τ i with size:=wrap64 ((τ i).size+(τ k).size),total:=wrap64 ((τ i).total+(τ k).total) }) i={ τ i with size:=wrap64 ((τ i).size+(τ k).size),total:=wrap64 ((τ i).total+(τ k).total) }:=aG _ _ _;rw[hi1]at c6;rw[hk1]at d6;have hst:=fun nq:Nat=>(hL3.eqv (Eqv.drewN w3 nq)).st6 (hF3.drewN nq) hi (τ k).first
  rw[hi1]at hst;generalize ((τ.upd i { τ i with size:=wrap64 ((τ i).size+(τ k).size) }).upd i { τ i with size:=wrap64 ((τ i).size+(τ k).size),total:=wrap64 ((τ i).total+(τ k).total) })=τ2 at *;have hbf:=fun W (hW:aD W pf g N cap τ2 ed)=>aCL hW (τ k).first (τ i).first (HIn.out k hkN).2.2.2 (HIn.out i hi).2.2.2
  have Hbf:=qA hbf;clear hbf hk1 hi1;have hfz3:=hL3.nodes.frozen;have Hst:=qA hst;clear hst;dsimp only at c6
  cases hB:aY τ2 (τ k).first (τ i).first with
  | true=>{
  rw[hB]at Hbf Hns;clear hB;go_wp2
  go_quiet ((go_at_call 203;exact Calls.quiet_of (Hbf.out _ (hL3.eqv (Eqv.drewN _ _)))))
  go_wp2
  exact⟨⟨t+1,by omega,by go_num,by rw[Hnx.out,Hns.out,qD trivial];exact(Hst.out nq).1,(Hst.out nq).2⟩,by simp[intOf];omega⟩}
  | false=>{
  rw[hB]at Hbf Hns;clear hB;go_wp2
  go_quiet ((go_at_call 203;exact Calls.quiet_of (Hbf.out _ (hL3.eqv (Eqv.drewN _ _)))))
  go_wp2
  exact⟨⟨t+1,by omega,by go_num,by rw[Hnx.out,Hns.out,qC (by decide)];exact hL3.eqv (Eqv.drewN w3 nq),hF3.drewN nq⟩,by simp[intOf];omega⟩}}}
  {
  obtain rfl:t=2:=by omega
  go_wp2
  go_end0
  exact⟨rfl,hL,hF⟩}
def iP(σ:Tbl)(k:Nat):Tbl:=if k=0 then σ else σ.upd k { σ k with flip:= !(σ k).flip }
def gY(σ:Tbl)(i:Nat):Tbl:=σ.upd i { σ i with flip:=false,k0:=(σ i).k1,k1:=(σ i).k0 }
def sG(σ:Tbl)(i:Nat):Nat->Tbl
  | 0=>gY σ i
  | 1=>iP (gY σ i) (σ i).k1
  | _=>iP (iP (gY σ i) (σ i).k1) (σ i).k0
def push(σ:Tbl)(i:Nat):Tbl:=if (σ i).flip then sG σ i 2 else σ
theorem aD.congr{w:World}{pf g N cap:Nat}{σ τ:Tbl}{ed:Int}(h:aD w pf g N cap σ ed)(e:∀i,σ i=τ i):aD w pf g N cap τ ed:=by
 have:σ=τ:=funext e;rw[<-this];exact h
theorem aIK{w:World}{pf g N cap:Nat}{σ:Tbl}{ed:Int}(h:aD w pf g N cap σ ed)(i:Nat)(hi:i<N)(hR:InR N σ):
    Calls Tryz.prog 227 #[.pointer (some ⟨pf,0,none⟩),.int .i64 i] w fun e w' =>e=.returned (.tuple #[])/\aD w' pf g N cap (push σ i) ed/\Fr [g] w w' :=by
 have c1:=h.hd.cell 1;simp only[zI,zJ]at c1;have hN:=h.le;have a3:=h.nodes.c3 i hi;have hfz:=h.nodes.frozen;have hi2:(i:Int)<N:=by omega
 have HR:=qA hR;clear hR;by_cases hfl:(σ i).flip=true
 {
 have hp:push σ i=sG σ i 2:=by unfold push;rw[qD hfl]
 have Hp:=qA hp;clear hp;rw[hfl]at a3;have Hfl:=qA hfl;clear hfl;obtain⟨h1,f1⟩:=h.st3 (Fr.refl _ _) hi false;go_enter Tryz.func227,Tryz.ntmps227
 go_wp2
 generalize hW:w.setCell ⟨g,i*9+3,none⟩ (.bool false)=W0 at *;clear hW a3 c1 hfz;have a0:=h1.nodes.c0 i hi;have a1:=h1.nodes.c1 i hi;rw[aG]at a0 a1;dsimp only at a0 a1
 have hfz:=h1.nodes.frozen;have c1:=h1.hd.cell 1;simp only[zI,zJ]at c1;refine nD [15,19] [1] (fun q w' =>match q with
   | 0=>∃n,w' =W0.drewN n
   | 1=>aD w' pf g N cap ((σ.upd i { σ i with flip:=false }).upd i { σ i with flip:=false,k0:=(σ i).k1 }) ed/\Fr [g] w w'
   | _=>aD w' pf g N cap (gY σ i) ed/\Fr [g] w w') (fun w' =>Iff.rfl) (by kernel_rfl) (by kernel_rfl) (by kernel_rfl) ?_
 refine jK (by decide) (fun K hK=>?_);go_simp;refine hK _ ?_;clear hK K;refine gQ (by decide) (fun K hK=>?_);go_simp;refine hK _ ?_;clear hK K;iterate 13 (refine jK (by decide) (fun K hK=>?_);go_simp;refine hK _ ?_;clear hK K)
 refine fO (q:=0) (by decide) rfl undef (fun w' hw' =>?_) ?_
 {
 obtain⟨nq,rfl⟩:=hw';go_simp;have:=(h1.eqv (Eqv.drewN W0 nq)).st0 (f1.drewN nq) hi (σ i).k1;rw[aG]at this;exact this};iterate 3 (refine gQ (by decide) (fun K hK=>?_);go_simp;refine hK _ ?_;clear hK K)
 refine fO (q:=1) (by decide) rfl undef (fun w' hw' =>?_) ?_
 {
 obtain⟨hA,hB⟩:=hw';have hfz' :=hA.nodes.frozen;have b1:=hA.nodes.c1 i hi;go_simp;have:=hA.st1 hB hi (σ i).k0;rw[aG]at this;refine⟨this.1.congr ?_,this.2⟩;intro j;by_cases e:j=i
 · subst e;simp[gY,aG]
 · simp[gY,aE e]};refine sC ?_;rintro w2 ⟨h2,f2⟩;clear a0 a1 hfz c1 h1 f1;have a0:=h2.nodes.c0 i hi;have a1:=h2.nodes.c1 i hi;simp only[gY,aG]at a0 a1;go_wp2
 clear a0 a1;go_loopw [43] (fun x wr=>∃t:Nat,t<=2/\x=.int .i64 t/\aD wr pf g N cap (sG σ i t) ed/\Fr [g] w wr) (fun x _=>2-(intOf x).toNat)
 case atStart=>exact⟨0,by omega,rfl,h2,f2⟩
 case round=>
  clear h2 f2;obtain⟨t,ht,rfl,hL,hF⟩:=hrel;by_cases hlt:t<2
  {
  obtain⟨k,hix,hkN,hnx⟩:∃k:Nat,(∀W:World,(Instr.index 249 (.agg #[.int .i64 (σ i).k1,.int .i64 (σ i).k0]) (.int .i64 t)).run Tryz.prog W=.ok (.int .i64 k) W)/\k<N/\sG σ i (t+1)=iP (sG σ i t) k:=by {
  rcases(show t=0∨t=1 by omega) with rfl|rfl
  · exact⟨(σ i).k1,fun W=>mJ _ _ W,(HR.out i hi).2.1,rfl⟩
  · exact⟨(σ i).k0,fun W=>mK _ _ W,(HR.out i hi).1,rfl⟩};have Hnx:=qA hnx;clear hnx;generalize sG σ i t=τ at *;by_cases hk0:k=0
  {
  subst hk0;go_wp2
  exact⟨⟨t+1,by omega,by go_num,by rw[Hnx.out];exact hL,hF⟩,by simp[intOf];omega⟩}
  {
  have hb0:((k:Int) == 0)=false:=qQ.2 (by omega);have hk2:(k:Int)<N:=by omega
  have c1:=hL.hd.cell 1;simp only[zI,zJ]at c1;have a3:=hL.nodes.c3 k hkN;have hfz:=hL.nodes.frozen;go_wp2
  refine bL 16 (fun w' =>aD w' pf g N cap (τ.upd k { τ k with flip:= !(τ k).flip }) ed/\Fr [g] w w') (by kernel_rfl) (by kernel_rfl) (by kernel_rfl) ?_;iterate 16 (refine bW (by decide) (fun K hK=>?_);go_simp;refine hK _ ?_;clear hK K)
  refine bE rfl undef (fun w' hw' =>?_) ?_
  {
  obtain⟨nq,rfl⟩:=hw';go_simp;exact(hL.eqv (Eqv.drewN wr nq)).st3 (hF.drewN nq) hkN _};refine bX ?_;rintro w3 ⟨h3,f3⟩;go_wp2
  exact⟨⟨t+1,by omega,by go_num,by rw[Hnx.out];unfold iP;rw[qC hk0];exact h3,f3⟩,by simp[intOf];omega⟩}}
  {
  obtain rfl:t=2:=by omega
  go_wp2
  go_end0
  exact⟨rfl,by rw[Hp.out];exact hL,hF⟩}}
 {
 have hfl:(σ i).flip=false:=by simpa using hfl
 have hp:push σ i=σ:=by unfold push;rw[qC (by simp[hfl])]
 rw[hp];clear hp;rw[hfl]at a3;go_enter Tryz.func227,Tryz.ntmps227
 go_wp2
 refine bodyPost_ret (results_none rfl _ _ _) rfl ?_;exact⟨rfl,h,Fr.refl _ _⟩}
def aR(σ:Tbl)(i:Nat):Nat×Bool:=
  if (σ i).up=0 then(0,false) else if (σ (σ i).up).k0=i then(0,true) else if (σ (σ i).up).k1=i then(1,true) else(0,false)
def aK(n:Nd)(s k:Nat):Nd:=if s=0 then { n with k0:=k } else { n with k1:=k }
def kid(n:Nd)(s:Nat):Nat:=if s=0 then n.k0 else n.k1
def hang(σ:Tbl)(i s k:Nat):Tbl:=
  let σ1:=σ.upd i (aK (σ i) s k)
  if k=0 then σ1 else σ1.upd k { σ1 k with up:=i }
theorem mL{w:World}{pf g N cap:Nat}{σ:Tbl}{ed:Int}(h:aD w pf g N cap σ ed)(i:Nat)(hi:i<N)(hR:InR N σ):
    Calls Tryz.prog 225 #[.pointer (some ⟨pf,0,none⟩),.int .i64 i] w fun e w' =>e=.returned (.tuple #[.int .i64 (aR σ i).1,.bool (aR σ i).2])/\w' =w:=by
 have c1:=h.hd.cell 1;simp only[zI,zJ]at c1;have hN:=h.le;have a2:=h.nodes.c2 i hi;have hp:=(hR i hi).2.2.1;have hi2:(i:Int)<N:=by omega
 have HR:=qA hR;clear hR;have hs:aR σ i=if (σ i).up=0 then(0,false) else if (σ (σ i).up).k0=i then(0,true) else if (σ (σ i).up).k1=i then(1,true) else(0,false):=rfl;generalize hpp:(σ i).up=p at *;have Hs:=qA hs;clear hs;by_cases hp0:p=0
 {
 subst hp0;rw[Hs.out,qD rfl];clear Hs;go_enter Tryz.func225,Tryz.ntmps225
 go_wp2
 go_ret2;exact⟨rfl,rfl⟩}
 {
 have hp2:(p:Int)<N:=by omega
 have hb0:((p:Int) == 0)=false:=qQ.2 (by omega);have b0:=h.nodes.c0 p hp;have b1:=h.nodes.c1 p hp;have Hp0:=qA hp0;clear hp0;go_enter Tryz.func225,Tryz.ntmps225
 go_wp2
 clear a2 b0 b1 c1;go_loopw [27] (fun x wr=>∃t:Nat,t<=2/\x=.int .i64 t/\wr=w/\(0<t->(σ p).k0≠i)/\(1<t->(σ p).k1≠i)) (fun x _=>2-(intOf x).toNat)
 case atStart=>exact⟨0,by omega,rfl,rfl,by omega,by omega⟩
 case round=>
  obtain⟨t,ht,rfl,rfl,he0,he1⟩:=hrel;by_cases hlt:t<2
  {
  obtain⟨k,hix,hkN,hy,hn0,hn1⟩:∃k:Nat,(∀W:World,(Instr.index 249 (.agg #[.int .i64 (σ p).k0,.int .i64 (σ p).k1]) (.int .i64 t)).run Tryz.prog W=.ok (.int .i64 k) W)/\k<N/\(k=i->aR σ i=(t,true))/\(k≠i->0<t+1->(σ p).k0≠i)/\(k≠i->1<t+1->(σ p).k1≠i):=by {
  rcases(show t=0∨t=1 by omega) with rfl|rfl
  · exact⟨(σ p).k0,fun W=>mJ _ _ W,(HR.out p hp).1,fun e=>by rw[Hs.out,qC Hp0.out,qD e],fun e _=>e,fun _ e=>by omega⟩
  · exact⟨(σ p).k1,fun W=>mK _ _ W,(HR.out p hp).2.1,fun e=>by rw[Hs.out,qC Hp0.out,qC (he0 (by decide)),qD e],fun _ _=>he0 (by decide),fun e _=>e⟩};have Hy:=qA hy;clear hy;have Hn0:=qA hn0;clear hn0;have Hn1:=qA hn1;clear hn1;clear he0 he1;by_cases hki:k=i
  {
  have hb:((k:Int) == (i:Int))=true:=beq_iff_eq.2 (by omega);go_wp2
  go_ret2;rw[Hy.out hki];exact⟨rfl,rfl⟩}
  {
  have hb:((k:Int) == (i:Int))=false:=qQ.2 (by omega);go_wp2
  exact⟨⟨t+1,by omega,by go_num,trivial,Hn0.out hki,Hn1.out hki⟩,by simp[intOf];omega⟩}}
  {
  obtain rfl:t=2:=by omega
  have hs:aR σ i=(0,false):=by rw[Hs.out,qC Hp0.out,qC (he0 (by decide)),qC (he1 (by decide))]
  have Hs' :=qA hs;clear hs;clear Hs he0 he1;go_wp2
  go_ret2;rw[Hs'.out];exact⟨rfl,rfl⟩}}
theorem gS{w:World}{pf g N cap:Nat}{σ:Tbl}{ed:Int}(h:aD w pf g N cap σ ed)(i s k:Nat)(hi:i<N)(hs:s<2)(hk:k<N):
    Calls Tryz.prog 244 #[.pointer (some ⟨pf,0,none⟩),.int .i64 i,.int .i64 s,.int .i64 k] w fun e w' =>e=.returned (.tuple #[])/\aD w' pf g N cap (hang σ i s k) ed/\Fr [g] w w' :=by
 have c1:=h.hd.cell 1;simp only[zI,zJ]at c1;have hN:=h.le;have hfz:=h.nodes.frozen;have hi2:(i:Int)<N:=by omega
 have hk2:(k:Int)<N:=by omega
 have key:∀W1:World,aD W1 pf g N cap (σ.upd i (aK (σ i) s k)) ed/\Fr [g] w W1->(k=0->aD W1 pf g N cap (hang σ i s k) ed/\Fr [g] w W1)/\(k≠0->aD (W1.setCell ⟨g,k*9+2,none⟩ (.int .i64 i)) pf g N cap (hang σ i s k) ed/\Fr [g] w (W1.setCell ⟨g,k*9+2,none⟩ (.int .i64 i))):=by {
 intro W1 ⟨h1,f1⟩;constructor
 · intro e;unfold hang;rw[qD e];exact⟨h1,f1⟩
 · intro e;unfold hang;rw[qC e];exact h1.st2 f1 hk i};have Key:=qA key;clear key;rcases(show s=0∨s=1 by omega) with rfl|rfl
 {
 obtain⟨h1,f1⟩:=h.st0 (Fr.refl _ _) hi k;have a0:=h.nodes.c0 i hi;have K:=qA (Key.out _ ⟨h1,f1⟩);clear Key f1;by_cases hk0:k=0
 {
 have r:=K.out.1 hk0;clear K h1;subst hk0;go_enter Tryz.func244,Tryz.ntmps244
 go_wp2
 go_end0
 exact⟨rfl,r⟩}
 {
 have hb0:((k:Int) == 0)=false:=qQ.2 (by omega);have hfz1:=h1.nodes.frozen;have d1:=h1.hd.cell 1;simp only[zI,zJ]at d1;have b2:=h1.nodes.c2 k hk;have r:=K.out.2 hk0;clear K h1;go_enter Tryz.func244,Tryz.ntmps244
 go_wp2
 go_end0
 exact⟨rfl,r⟩}}
 {
 obtain⟨h1,f1⟩:=h.st1 (Fr.refl _ _) hi k;have a0:=h.nodes.c1 i hi;have K:=qA (Key.out _ ⟨h1,f1⟩);clear Key f1;by_cases hk0:k=0
 {
 have r:=K.out.1 hk0;clear K h1;subst hk0;go_enter Tryz.func244,Tryz.ntmps244
 go_wp2
 go_end0
 exact⟨rfl,r⟩}
 {
 have hb0:((k:Int) == 0)=false:=qQ.2 (by omega);have hfz1:=h1.nodes.frozen;have d1:=h1.hd.cell 1;simp only[zI,zJ]at d1;have b2:=h1.nodes.c2 k hk;have r:=K.out.2 hk0;clear K h1;go_enter Tryz.func244,Tryz.ntmps244
 go_wp2
 go_end0
 exact⟨rfl,r⟩}}
def rot1(σ:Tbl)(i:Nat):Tbl:=
  if (aR σ (σ i).up).2 then hang σ (σ (σ i).up).up (aR σ (σ i).up).1 i else σ.upd i { σ i with up:=(σ (σ i).up).up }
def rF(σ:Tbl)(i:Nat):Tbl:=hang (rot1 σ i) (σ i).up (aR σ i).1 (kid (rot1 σ i i) (1-(aR σ i).1))
def cD(σ:Tbl)(i:Nat):Tbl:=hang (rF σ i) i (1-(aR σ i).1) (σ i).up
def rotate(σ:Tbl)(i:Nat):Tbl:=refresh (refresh (cD σ i) (σ i).up) i
theorem Fr.then{g:Nat}{a b c:World}(h:Fr [g] a b)(h' :Fr [g] b c):Fr [g] a c:=h.trans h' (fun _ h=>.inl h)
theorem sH(σ:Tbl)(i:Nat):(aR σ i).1<2:=by unfold aR;split<;>(try split)<;>(try split)<;>decide
theorem InR.upd{N:Nat}{σ:Tbl}(h:InR N σ){i:Nat}{n:Nd}(hn:n.k0<N/\n.k1<N/\n.up<N/\n.first<N):InR N (σ.upd i n):=by
 intro j hj;by_cases e:j=i
 · subst e;rw[aG];exact hn
 · rw[aE e];exact h j hj
theorem InR.hang{N:Nat}{σ:Tbl}(h:InR N σ){i s k:Nat}(hi:i<N)(hk:k<N):InR N (hang σ i s k):=by
 have h1:InR N (σ.upd i (aK (σ i) s k)):=by {
 refine h.upd ?_;unfold aK;have:=h i hi;split
 · exact⟨hk,this.2⟩
 · exact⟨this.1,hk,this.2.2⟩};unfold Proofs.YtjdgpcjbgjnahaaGreatDoor.hang;dsimp only
 split
 · exact h1
 · exact h1.upd ⟨(h1 k hk).1,(h1 k hk).2.1,hi,(h1 k hk).2.2.2⟩
theorem InR.refresh{N:Nat}{σ:Tbl}(h:InR N σ){i:Nat}(hi:i<N)(h0:(σ i).k0≠i)(h1:(σ i).k1≠i):InR N (refresh σ i):=vI h hi h0 h1 2
theorem InR.kid{N:Nat}{σ:Tbl}(h:InR N σ){i:Nat}(hi:i<N)(s:Nat):kid (σ i) s<N:=by
 unfold Proofs.YtjdgpcjbgjnahaaGreatDoor.kid;split
 · exact(h i hi).1
 · exact(h i hi).2.1
theorem InR.rot1{N:Nat}{σ:Tbl}(h:InR N σ){i:Nat}(hi:i<N):InR N (rot1 σ i):=by
 have hp:=(h i hi).2.2.1;have hg:=(h _ hp).2.2.1;unfold Proofs.YtjdgpcjbgjnahaaGreatDoor.rot1;split
 · exact h.hang hg hi
 · exact h.upd ⟨(h i hi).1,(h i hi).2.1,hg,(h i hi).2.2.2⟩
theorem aF{σ:Tbl}{i j:Nat}:(refresh σ i j).k0=(σ j).k0/\(refresh σ i j).k1=(σ j).k1/\(refresh σ i j).up=(σ j).up/\(refresh σ i j).flip=(σ j).flip/\(refresh σ i j).key=(σ j).key/\(refresh σ i j).light=(σ j).light:=by
 unfold refresh xP;have a:=@fA (aP (cN σ i) i (σ i).k0) i (σ i).k1 j;have b:=@fA (cN σ i) i (σ i).k0 j;have c:(cN σ i j).k0=(σ j).k0/\(cN σ i j).k1=(σ j).k1/\(cN σ i j).up=(σ j).up/\(cN σ i j).flip=(σ j).flip/\(cN σ i j).key=(σ j).key/\(cN σ i j).light=(σ j).light:=by {
 by_cases e:j=i
 · subst e;simp[cN,aG]
 · simp[cN,aE e]};refine⟨a.1.trans (b.1.trans c.1),a.2.1.trans (b.2.1.trans c.2.1),a.2.2.1.trans (b.2.2.1.trans c.2.2.1),a.2.2.2.1.trans (b.2.2.2.1.trans c.2.2.2.1),a.2.2.2.2.1.trans (b.2.2.2.2.1.trans c.2.2.2.2.1),a.2.2.2.2.2.trans (b.2.2.2.2.2.trans c.2.2.2.2.2)⟩
theorem bV{σ:Tbl}{i j:Nat}(h:j≠i):refresh σ i j=σ j:=by
 show aP (aP (cN σ i) i (σ i).k0) i (σ i).k1 j=_
 rw[eA h,eA h,cN,aE h]
theorem iQ{w:World}{pf g N cap:Nat}{σ:Tbl}{ed:Int}(h:aD w pf g N cap σ ed)(i:Nat)(hi:i<N)(hR:InR N σ)
    (q0:(cD σ i (σ i).up).k0≠(σ i).up) (q1:(cD σ i (σ i).up).k1≠(σ i).up) (q2:(cD σ i i).k0≠i) (q3:(cD σ i i).k1≠i):
    Calls Tryz.prog 228 #[.pointer (some ⟨pf,0,none⟩),.int .i64 i] w fun e w' =>e=.returned (.tuple #[])/\aD w' pf g N cap (rotate σ i) ed/\Fr [g] w w' :=by
 have c1:=h.hd.cell 1;simp only[zI,zJ]at c1;have hN:=h.le;have hi2:(i:Int)<N:=by omega
 have hp:=(hR i hi).2.2.1;have hp2:((σ i).up:Int)<N:=by omega
 have hg:=(hR _ hp).2.2.1;have a2:=h.nodes.c2 i hi;have b2:=h.nodes.c2 _ hp;have hfz:=h.nodes.frozen;have hR1:=hR.rot1 hi;have hs:=sH σ i;have hs' :=sH σ (σ i).up;have hR2:InR N (rF σ i):=hR1.hang hp (hR1.kid hi _);have hR3:InR N (cD σ i):=hR2.hang hi hp;have HR:=qA hR;clear hR;have HR1:=qA hR1;clear hR1;have HR2:=qA hR2;clear hR2;have HR3:=qA hR3;clear hR3;have Q:=qA (zH (zH q0 q1) (zH q2 q3));clear q0 q1 q2 q3;have Hst:=qA (h.st2 (Fr.refl _ _) hi (σ (σ i).up).up);have hr1t:(aR σ (σ i).up).2=true->rot1 σ i=hang σ (σ (σ i).up).up (aR σ (σ i).up).1 i:=fun e=>by unfold rot1;rw[qD e]
 have hr1f:(aR σ (σ i).up).2=false->rot1 σ i=σ.upd i { σ i with up:=(σ (σ i).up).up }:=fun e=>by unfold rot1;rw[qC (by simp[e])]
 have Hr1t:=qA hr1t;clear hr1t;have Hr1f:=qA hr1f;clear hr1f;have Hr2:=qA (show rF σ i=hang (rot1 σ i) (σ i).up (aR σ i).1 (kid (rot1 σ i i) (1-(aR σ i).1)) from rfl);have Hr3:=qA (show cD σ i=hang (rF σ i) i (1-(aR σ i).1) (σ i).up from rfl);have s1:=mL h i hi HR.out;have s2:=mL h (σ i).up hp HR.out;have hh:=fun s (hs:s<2)=>gS h (σ (σ i).up).up s i hg hs hi;generalize hsi:aR σ i=si at *;generalize hsp:aR σ (σ i).up=sp at *;obtain⟨s,ok⟩:=si;obtain⟨s', b⟩:=sp;dsimp only at s1 s2 hs hs' Hr1t Hr1f Hr2 Hr3
 clear hsi hsp;have S1:=qA s1;clear s1;have S2:=qA s2;clear s2;have Hh:=qA (hh s' hs');clear hh hs';generalize hτ1:rot1 σ i=τ1 at *;generalize hτ2:rF σ i=τ2 at *;generalize hτ3:cD σ i=τ3 at *;have Hrot:=qA (show rotate σ i=refresh (refresh τ3 (σ i).up) i by rw[<-hτ3];rfl);clear hτ1 hτ2 hτ3;rcases(show s=0∨s=1 by omega) with rfl|rfl
 {
 have Hr2:=qA (show τ2=hang τ1 (σ i).up 0 (τ1 i).k1 from Hr2.out);have Hr3:=qA (show τ3=hang τ2 i 1 (σ i).up from Hr3.out);cases b with
 | true=>{
 have hr:=Hr1t.out rfl;have Hr:=qA hr;clear hr Hr1t Hr1f Hst;go_enter Tryz.func228,Tryz.ntmps228
 go_wp2_with fail
 refine S1.out.mono ?_;rintro _ _ ⟨rfl,rfl⟩;go_wp2_with fail
 refine S2.out.mono ?_;rintro _ _ ⟨rfl,rfl⟩;go_wp2_with fail
 refine Hh.out.mono ?_;rintro _ w1 ⟨rfl,hL1,hF1⟩;rw[<-Hr.out]at hL1;have k0:=hL1.nodes.c0 i hi;have k1:=hL1.nodes.c1 i hi;have u2:=hL1.nodes.c2 i hi;have hfz1:=hL1.nodes.frozen;have d1:=hL1.hd.cell 1;simp only[zI,zJ]at d1;go_wp2_with fail
 refine(gS hL1 (σ i).up 0 (τ1 i).k1 hp (by decide) (HR1.out i hi).2.1).mono ?_;rintro _ w2 ⟨rfl,hL2,hF2⟩;rw[<-Hr2.out]at hL2;clear hfz1 k0 k1 d1 hL1 u2;go_wp2_with fail
 refine(gS hL2 i 1 (σ i).up hi (by decide) hp).mono ?_;rintro _ w3 ⟨rfl,hL3,hF3⟩;rw[<-Hr3.out]at hL3;clear hL2;go_wp2_with fail
 refine(cW hL3 (σ i).up hp HR3.out Q.out.1.1 Q.out.1.2).mono ?_;rintro _ w4 ⟨rfl,hL4,hF4⟩;clear hL3;go_wp2_with fail
 refine(cW hL4 i hi (HR3.out.refresh hp Q.out.1.1 Q.out.1.2) (by rw[aF.1];exact Q.out.2.1) (by rw[aF.2.1];exact Q.out.2.2)).mono ?_;rintro _ w5 ⟨rfl,hL5,hF5⟩;clear hL4;go_wp2
 go_end0
 rw[<-Hrot.out]at hL5;exact⟨rfl,hL5,hF1.then (hF2.then (hF3.then (hF4.then hF5)))⟩}
 | false=>{
 have hr:=Hr1f.out rfl;have hst:=Hst.out;rw[<-hr]at hst;obtain⟨hL1,hF1⟩:=hst;clear hr Hr1t Hr1f Hst;go_enter Tryz.func228,Tryz.ntmps228
 go_wp2_with fail
 refine S1.out.mono ?_;rintro _ _ ⟨rfl,rfl⟩;go_wp2_with fail
 refine S2.out.mono ?_;rintro _ _ ⟨rfl,rfl⟩;have k0:=hL1.nodes.c0 i hi;have k1:=hL1.nodes.c1 i hi;have u2:=hL1.nodes.c2 i hi;have hfz1:=hL1.nodes.frozen;have d1:=hL1.hd.cell 1;simp only[zI,zJ]at d1;go_wp2_with fail
 refine(gS hL1 (σ i).up 0 (τ1 i).k1 hp (by decide) (HR1.out i hi).2.1).mono ?_;rintro _ w2 ⟨rfl,hL2,hF2⟩;rw[<-Hr2.out]at hL2;clear hfz1 k0 k1 d1 hL1 u2;go_wp2_with fail
 refine(gS hL2 i 1 (σ i).up hi (by decide) hp).mono ?_;rintro _ w3 ⟨rfl,hL3,hF3⟩;rw[<-Hr3.out]at hL3;clear hL2;go_wp2_with fail
 refine(cW hL3 (σ i).up hp HR3.out Q.out.1.1 Q.out.1.2).mono ?_;rintro _ w4 ⟨rfl,hL4,hF4⟩;clear hL3;go_wp2_with fail
 refine(cW hL4 i hi (HR3.out.refresh hp Q.out.1.1 Q.out.1.2) (by rw[aF.1];exact Q.out.2.1) (by rw[aF.2.1];exact Q.out.2.2)).mono ?_;rintro _ w5 ⟨rfl,hL5,hF5⟩;clear hL4;go_wp2
 go_end0
 rw[<-Hrot.out]at hL5;exact⟨rfl,hL5,hF1.then (hF2.then (hF3.then (hF4.then hF5)))⟩}}
 {
 have Hr2:=qA (show τ2=hang τ1 (σ i).up 1 (τ1 i).k0 from Hr2.out);have Hr3:=qA (show τ3=hang τ2 i 0 (σ i).up from Hr3.out);cases b with
 | true=>{
 have hr:=Hr1t.out rfl;have Hr:=qA hr;clear hr Hr1t Hr1f Hst;go_enter Tryz.func228,Tryz.ntmps228
 go_wp2_with fail
 refine S1.out.mono ?_;rintro _ _ ⟨rfl,rfl⟩;go_wp2_with fail
 refine S2.out.mono ?_;rintro _ _ ⟨rfl,rfl⟩;go_wp2_with fail
 refine Hh.out.mono ?_;rintro _ w1 ⟨rfl,hL1,hF1⟩;rw[<-Hr.out]at hL1;have k0:=hL1.nodes.c0 i hi;have k1:=hL1.nodes.c1 i hi;have u2:=hL1.nodes.c2 i hi;have hfz1:=hL1.nodes.frozen;have d1:=hL1.hd.cell 1;simp only[zI,zJ]at d1;go_wp2_with fail
 refine(gS hL1 (σ i).up 1 (τ1 i).k0 hp (by decide) (HR1.out i hi).1).mono ?_;rintro _ w2 ⟨rfl,hL2,hF2⟩;rw[<-Hr2.out]at hL2;clear hfz1 k0 k1 d1 hL1 u2;go_wp2_with fail
 refine(gS hL2 i 0 (σ i).up hi (by decide) hp).mono ?_;rintro _ w3 ⟨rfl,hL3,hF3⟩;rw[<-Hr3.out]at hL3;clear hL2;go_wp2_with fail
 refine(cW hL3 (σ i).up hp HR3.out Q.out.1.1 Q.out.1.2).mono ?_;rintro _ w4 ⟨rfl,hL4,hF4⟩;clear hL3;go_wp2_with fail
 refine(cW hL4 i hi (HR3.out.refresh hp Q.out.1.1 Q.out.1.2) (by rw[aF.1];exact Q.out.2.1) (by rw[aF.2.1];exact Q.out.2.2)).mono ?_;rintro _ w5 ⟨rfl,hL5,hF5⟩;clear hL4;go_wp2
 go_end0
 rw[<-Hrot.out]at hL5;exact⟨rfl,hL5,hF1.then (hF2.then (hF3.then (hF4.then hF5)))⟩}
 | false=>{
 have hr:=Hr1f.out rfl;have hst:=Hst.out;rw[<-hr]at hst;obtain⟨hL1,hF1⟩:=hst;clear hr Hr1t Hr1f Hst;go_enter Tryz.func228,Tryz.ntmps228
 go_wp2_with fail
 refine S1.out.mono ?_;rintro _ _ ⟨rfl,rfl⟩;go_wp2_with fail
 refine S2.out.mono ?_;rintro _ _ ⟨rfl,rfl⟩;have k0:=hL1.nodes.c0 i hi;have k1:=hL1.nodes.c1 i hi;have u2:=hL1.nodes.c2 i hi;have hfz1:=hL1.nodes.frozen;have d1:=hL1.hd.cell 1;simp only[zI,zJ]at d1;go_wp2_with fail
 refine(gS hL1 (σ i).up 1 (τ1 i).k0 hp (by decide) (HR1.out i hi).1).mono ?_;rintro _ w2 ⟨rfl,hL2,hF2⟩;rw[<-Hr2.out]at hL2;clear hfz1 k0 k1 d1 hL1 u2;go_wp2_with fail
 refine(gS hL2 i 0 (σ i).up hi (by decide) hp).mono ?_;rintro _ w3 ⟨rfl,hL3,hF3⟩;rw[<-Hr3.out]at hL3;clear hL2;go_wp2_with fail
 refine(cW hL3 (σ i).up hp HR3.out Q.out.1.1 Q.out.1.2).mono ?_;rintro _ w4 ⟨rfl,hL4,hF4⟩;clear hL3;go_wp2_with fail
 refine(cW hL4 i hi (HR3.out.refresh hp Q.out.1.1 Q.out.1.2) (by rw[aF.1];exact Q.out.2.1) (by rw[aF.2.1];exact Q.out.2.2)).mono ?_;rintro _ w5 ⟨rfl,hL5,hF5⟩;clear hL4;go_wp2
 go_end0
 rw[<-Hrot.out]at hL5;exact⟨rfl,hL5,hF1.then (hF2.then (hF3.then (hF4.then hF5)))⟩}}
inductive BT where
  | nil
  | node (f:Bool) (l:BT) (v:Nat) (r:BT)
namespace BT
def root:BT->Nat
  | nil=>0
  | node _ _ v _=>v
def nodes:BT->List Nat
  | nil=>[]
  | node _ l v r=>l.nodes++v::r.nodes
def seq:BT->List Nat
  | nil=>[]
  | node f l v r=>if f then(l.seq++v::r.seq).reverse else l.seq++v::r.seq
def flip:BT->BT
  | nil=>nil
  | node f l v r=>node (!f) l v r
theorem seq_flip(t:BT):t.flip.seq=t.seq.reverse:=by
 cases t with
 | nil=>rfl
 | node f l v r=>cases f<;>simp[flip,seq]
theorem nodes_flip(t:BT):t.flip.nodes=t.nodes:=by cases t<;>rfl
theorem root_flip(t:BT):t.flip.root=t.root:=by cases t<;>rfl
theorem seq_perm(t:BT):t.seq.Perm t.nodes:=by
 induction t with
 | nil=>exact .nil
 | node f l v r hl hr=>{
 have h:(l.seq++v::r.seq).Perm (l.nodes++v::r.nodes):=hl.append (hr.cons v);cases f with
 | false=>simpa[seq,nodes] using h
 | true=>simp only[seq,nodes,if_true];exact(List.reverse_perm _).trans h}
theorem root_mem{t:BT}(h:t.root≠0):t.root∈t.nodes:=by
 cases t with
 | nil=>exact absurd rfl h
 | node f l v r=>simp[root,nodes]
end BT
def tot(σ:Tbl)(l:List Nat):Int:=(l.map fun v=>1+(σ v).light).sum
def dK(σ:Tbl)(l:List Nat)(x:Nat):Prop:=x∈l/\∀y∈l,y≠x->aY σ x y=true
def Rep(σ:Tbl):BT->Nat->Prop
  | .nil,_=>True
  | .node f l v r,u=>(v≠0/\(σ v).up=u/\(σ v).flip=f/\(σ v).k0=l.root/\(σ v).k1=r.root)/\Rep σ l v/\Rep σ r v /\
      (σ v).size=wrap64 (BT.node f l v r).nodes.length/\(σ v).total=wrap64 (tot σ (BT.node f l v r).nodes)/\dK σ (BT.node f l v r).nodes (σ v).first
theorem bJ{σ σ' :Tbl}{l:List Nat}(h:∀x∈l,(σ' x).light=(σ x).light):tot σ' l=tot σ l:=by
 unfold tot;congr 1;exact List.map_congr_left (fun x hx=>by rw[h x hx])
theorem iR{σ:Tbl}{l m:List Nat}(h:l.Perm m):tot σ l=tot σ m:=by
 unfold tot;induction h with
 | nil=>rfl
 | cons x _ ih=>simp[ih]
 | swap x y l=>simp;omega
 | trans _ _ h1 h2=>exact h1.trans h2
theorem cG{σ σ' :Tbl}{l:List Nat}{x:Nat}(h:∀x∈l,(σ' x).key=(σ x).key)(hb:dK σ l x):dK σ' l x:=by
 refine⟨hb.1,fun y hy hne=>?_⟩;have:=hb.2 y hy hne;unfold aY at this ⊢;rw[h x hb.1,h y hy];exact this
theorem Rep.congr{σ σ' :Tbl}:∀{t:BT} {u:Nat},(∀x∈t.nodes,σ' x=σ x)->Rep σ t u->Rep σ' t u
  | .nil,_,_,_=>trivial
  | .node f l v r,u,h,⟨h1,hl,hr,h2,h3,h4⟩=>by
    have hv:=h v (by simp[BT.nodes]);refine⟨by rw[hv];exact h1,hl.congr (fun x hx=>h x (by simp[BT.nodes,hx])),hr.congr (fun x hx=>h x (by simp[BT.nodes,hx])),by rw[hv];exact h2,?_,?_⟩
    · rw[hv,bJ (fun x hx=>by rw[h x hx])];exact h3
    · rw[hv];exact cG (fun x hx=>by rw[h x hx]) h4
theorem Rep.reup{σ σ' :Tbl}{t:BT}{u u' :Nat}(h:Rep σ t u)(hnd:t.nodes.Nodup)(ho:∀x∈t.nodes,x≠t.root->σ' x=σ x)(hr:t.root≠0->σ' t.root={ σ t.root with up:=u' }):Rep σ' t u' :=by
 cases t with
 | nil=>trivial
 | node f l v r=>{
 obtain⟨h1,hl,hrr,h2,h3,h4⟩:=h;have hv:σ' v={ σ v with up:=u' }:=hr h1.1;have hnl:∀x∈l.nodes,x≠v:=by {
 intro x hx e;subst e;simp only[BT.nodes]at hnd;exact(qM.1 hnd).2.2 x hx x (by simp) rfl};have hnr:∀x∈r.nodes,x≠v:=by {
 intro x hx e;subst e;simp only[BT.nodes]at hnd;exact(qN.1 (qM.1 hnd).2.1).1 hx};have hlk:∀x∈(BT.node f l v r).nodes,(σ' x).light=(σ x).light/\(σ' x).key=(σ x).key:=by {
 intro x hx;by_cases e:x=v
 · subst e;rw[hv];exact⟨rfl,rfl⟩
 · rw[ho x hx e];exact⟨rfl,rfl⟩};refine⟨by rw[hv];exact⟨h1.1,rfl,h1.2.2⟩,hl.congr (fun x hx=>ho x (by simp[BT.nodes,hx]) (hnl x hx)),hrr.congr (fun x hx=>ho x (by simp[BT.nodes,hx]) (hnr x hx)),by rw[hv];exact h2,?_,?_⟩
 · rw[hv,bJ (fun x hx=>(hlk x hx).1)];exact h3
 · rw[hv];exact cG (fun x hx=>(hlk x hx).2) h4}
theorem oW(a b:Int):wrap64 (wrap64 a+wrap64 b)=wrap64 (a+b):=by unfold wrap64;omega
theorem tR{σ:Tbl}{x y:Nat}(h:x≠y):aY σ x y= !aY σ y x:=by
 unfold aY;by_cases h1:(σ x).key<(σ y).key
 {
 have h2:¬(σ y).key<(σ x).key:=by omega
 have h3:¬(σ y).key=(σ x).key:=by omega
 simp[h1,h2,h3]}
 {
 by_cases h2:(σ y).key<(σ x).key
 {
 have h3:¬(σ x).key=(σ y).key:=by omega
 simp[h1,h2,h3]}
 {
 have h3:(σ x).key=(σ y).key:=by omega
 by_cases h4:x<y
 {
 have:¬y<x:=by omega
 simp[h3,h4,this]}
 {
 have:y<x:=by omega
 simp[h3,h4,this]}}}
theorem lB{σ:Tbl}{x y z:Nat}(h1:aY σ x y=true)(h2:aY σ y z=true):aY σ x z=true:=by
 unfold aY at *;simp only[Bool.or_eq_true,qW,decide_eq_true_eq]at *;omega
theorem aAS{σ:Tbl}{l m:List Nat}{x y:Nat}(hx:dK σ l x)(hy:dK σ m y):dK σ (l++m) (if aY σ y x then y else x):=by
 by_cases hb:aY σ y x=true
 {
 rw[qD hb];refine⟨by simp[hy.1],fun z hz hne=>?_⟩;rcases qE.1 hz with hz|hz
 {
 by_cases e:z=x
 · rw[e];exact hb
 · exact lB hb (hx.2 z hz e)}
 · exact hy.2 z hz hne}
 {
 rw[qC hb];refine⟨by simp[hx.1],fun z hz hne=>?_⟩;rcases qE.1 hz with hz|hz
 · exact hx.2 z hz hne
 {
 by_cases e:x=y
 · exact hy.2 z hz (by rw[<-e];exact hne) |> fun h=>by rw[e];exact h
 {
 have hxy:aY σ x y=true:=by rw[tR e];simpa using hb
 by_cases e' :z=y
 · rw[e'];exact hxy
 · exact lB hxy (hy.2 z hz e')}}}
theorem gA{σ:Tbl}{l m:List Nat}{x:Nat}(h:l.Perm m)(hx:dK σ l x):dK σ m x:=
  ⟨h.mem_iff.1 hx.1,fun y hy=>hx.2 y (h.mem_iff.2 hy)⟩
theorem oX{σ:Tbl}{i:Nat}{k:BT}{l:List Nat}(hi:i∉k.nodes)(hk:Rep σ k i)(hsz:(σ i).size=wrap64 l.length)(htot:(σ i).total=wrap64 (tot σ l))(hb:dK σ l (σ i).first):
    (aP σ i k.root i).size=wrap64 (l++k.nodes).length/\(aP σ i k.root i).total=wrap64 (tot σ (l++k.nodes))/\dK σ (l++k.nodes) (aP σ i k.root i).first:=by
 cases k with
 | nil=>simpa[aP,BT.root,BT.nodes] using ⟨hsz,htot,hb⟩
 | node f a v b=>{
 obtain⟨h1,_,_,h2,h3,h4⟩:=hk;have hvi:v≠i:=by rintro rfl;exact hi (by simp[BT.nodes])
 have hj:=aAS hb h4;have hbef:∀τ:Tbl,(∀x,(τ x).key=(σ x).key)->∀x y,aY τ x y=aY σ x y:=by intro τ hτ x y;unfold aY;rw[hτ,hτ]
 have hfirst:(aP σ i v i).first=if aY σ (σ v).first (σ i).first then(σ v).first else(σ i).first:=by {
 unfold aP;rw[qC h1.1];simp only[aG,aE hvi];rw[hbef _ (fun x=>by by_cases e:x=i<;>simp[Tbl.upd,e])];split<;>simp[aG]};have hsize:(aP σ i v i).size=wrap64 ((σ i).size+(σ v).size)/\(aP σ i v i).total=wrap64 ((σ i).total+(σ v).total):=by {
 unfold aP;rw[qC h1.1];simp only[aG,aE hvi];split<;>simp[aG]};show(aP σ i v i).size=_/\(aP σ i v i).total=_/\dK σ _ (aP σ i v i).first
 refine⟨?_,?_,?_⟩
 · rw[hsize.1,hsz,h2,oW,zE,Int.natCast_add]
 · rw[hsize.2,htot,h3,oW];unfold tot;rw[List.map_append,List.sum_append]
 · rw[hfirst];exact hj}
theorem cQ{σ:Tbl}{f:Bool}{l r:BT}{v u:Nat}(hv:v≠0)(hup:(σ v).up=u)(hf:(σ v).flip=f)(h0:(σ v).k0=l.root)(h1:(σ v).k1=r.root)(hl:Rep σ l v)(hr:Rep σ r v)(nl:v∉l.nodes)(nr:v∉r.nodes):
    Rep (refresh σ v) (.node f l v r) u:=by
 have hlk:=@aF σ v v;have hc:∀x,x≠v->refresh σ v x=σ x:=fun x hx=>bV hx;have key:(refresh σ v v).size=wrap64 (([v]++l.nodes)++r.nodes).length/\(refresh σ v v).total=wrap64 (tot σ (([v]++l.nodes)++r.nodes))/\dK σ (([v]++l.nodes)++r.nodes) (refresh σ v v).first:=by {
 have a:=oX (σ:=cN σ v) (i:=v) (k:=l) (l:=[v]) nl (hl.congr (fun x hx=>by rw[cN,aE (by rintro rfl;exact nl hx)])) (by simp[cN,aG,wrap64]) (by simp[cN,aG,tot]) (by simp[cN,aG,dK]);have hk0:∀x,(cN σ v x).light=(σ x).light/\(cN σ v x).key=(σ x).key:=by {
 intro x;by_cases e:x=v
 · subst e;simp[cN,aG]
 · simp[cN,aE e]};have hk1:∀x,(aP (cN σ v) v l.root x).light=(σ x).light/\(aP (cN σ v) v l.root x).key=(σ x).key:=by {
 intro x;have:=@fA (cN σ v) v l.root x;exact⟨this.2.2.2.2.2.trans (hk0 x).1,this.2.2.2.2.1.trans (hk0 x).2⟩};have b:=oX (σ:=aP (cN σ v) v l.root) (i:=v) (k:=r) (l:=[v]++l.nodes) nr (hr.congr (fun x hx=>by
   have:x≠v:=by rintro rfl;exact nr hx
   rw[eA this,cN,aE this])) a.1 (by rw[a.2.1,bJ (fun x _=>(hk0 x).1),bJ (σ' :=aP (cN σ v) v l.root) (fun x _=>(hk1 x).1)]) (cG (fun x _=>by rw[(hk1 x).2,(hk0 x).2]) a.2.2)
 have e:refresh σ v=aP (aP (cN σ v) v l.root) v r.root:=by {
 show aP (aP (cN σ v) v (σ v).k0) v (σ v).k1=_
 rw[h0,h1]};rw[e];refine⟨b.1,?_,?_⟩
 · rw[b.2.1,bJ (fun x _=>(hk1 x).1)]
 · exact cG (fun x _=>((hk1 x).2).symm) b.2.2};have hp:(([v]++l.nodes)++r.nodes).Perm (l.nodes++v::r.nodes):=by {
 simp only[zB];exact List.perm_middle.symm};refine⟨⟨hv,by rw[hlk.2.2.1];exact hup,by rw[hlk.2.2.2.1];exact hf,by rw[hlk.1];exact h0,by rw[hlk.2.1];exact h1⟩,hl.congr (fun x hx=>hc x (by rintro rfl;exact nl hx)),hr.congr (fun x hx=>hc x (by rintro rfl;exact nr hx)),?_,?_,?_⟩
 · rw[key.1,hp.length_eq];rfl
 · rw[key.2.1,bJ (σ:=σ) (σ' :=refresh σ v) (fun x _=>aF.2.2.2.2.2),iR hp];rfl
 · exact cG (fun x _=>aF.2.2.2.2.1) (gA hp key.2.2)
theorem lC{σ:Tbl}{i s k x:Nat}(hik:k≠i):hang σ i s k x=if x=i then aK (σ i) s k else if x=k/\k≠0 then { σ k with up:=i } else σ x:=by
 unfold hang;by_cases hk:k=0
 {
 simp only[qD hk];by_cases e:x=i
 · subst e;rw[aG,qD rfl]
 · rw[aE e,qC e,qC (by simp[hk])]}
 {
 simp only[qC hk];by_cases e:x=k
 · subst e;rw[aG,qC hik,qD ⟨rfl,hk⟩,aE hik]
 {
 rw[aE e];by_cases e' :x=i
 · subst e'; rw[aG,qD rfl]
 · rw[aE e', qC e', qC (by simp[e])]}}
theorem oY(n:Nd)(s k:Nat):kid (aK n s k) s=k:=by unfold kid aK;split<;>rfl
theorem kA{n:Nd}{s s' k:Nat}(hs:s<2)(hs' :s' < 2)(h:s' ≠ s):kid (aK n s k) s' =kid n s' :=by
 unfold kid aK;rcases(show s=0∨s=1 by omega) with rfl|rfl
 · rw[qC h,qC h];simp
 {
 obtain rfl:s' =0:=by omega
 simp}
theorem fP(n:Nd)(s k:Nat):(aK n s k).up=n.up/\(aK n s k).flip=n.flip/\(aK n s k).key=n.key/\(aK n s k).size=n.size/\(aK n s k).first=n.first/\(aK n s k).light=n.light/\(aK n s k).total=n.total:=by
 unfold aK;split<;>simp
theorem aCO(n:Nd)(s u:Nat):kid { n with up:=u } s=kid n s:=rfl
theorem aFT{σ:Tbl}{i p g s s' :Nat}(_hs:s<2)(hp:(σ i).up=p)(hg:(σ p).up=g)(h1:aR σ i=(s,true))(h2:aR σ p=(s', true))(hpi:p≠i)(hgi:g≠i)(hgp:g≠p)(hi0:i≠0)(hp0:p≠0)
    (hki:kid (σ i) (1-s)≠i) (hkp:kid (σ i) (1-s)≠p) (hkg:kid (σ i) (1-s)≠g∨kid (σ i) (1-s)=0) (x:Nat):
    cD σ i x=if x=i then { aK (σ i) (1-s) p with up:=g } else if x=p then { aK (σ p) s (kid (σ i) (1-s)) with up:=i } else if x=g then aK (σ g) s' i else if x=kid (σ i) (1-s)/\kid (σ i) (1-s)≠0 then { σ x with up:=p } else σ x:=by
 have a1:∀x,rot1 σ i x=if x=g then aK (σ g) s' i else if x=i then { σ i with up:=g } else σ x:=by {
 intro x;unfold rot1;rw[hp,h2,hg,qD rfl,lC (fun e=>hgi e.symm)];by_cases e:x=g
 · rw[qD e,qD e]
 {
 rw[qC e,qC e];by_cases e' :x=i
 · rw[qD ⟨e', hi0⟩,qD e']
 · rw[qC (fun h=>e' h.1),qC e']}};have hk1:kid (rot1 σ i i) (1-s)=kid (σ i) (1-s):=by rw[a1,qC (fun e=>hgi e.symm),qD rfl,aCO]
 generalize hk:kid (σ i) (1-s)=k at *;have a2:∀x,rF σ i x=if x=p then aK (σ p) s k else if x=k/\k≠0 then { rot1 σ i k with up:=p } else rot1 σ i x:=by {
 intro x;unfold rF;rw[hp,h1,hk1,lC hkp];have e:rot1 σ i p=σ p:=by rw[a1 p,qC (fun e=>hgp e.symm),qC hpi]
 rw[e]};unfold cD;rw[hp,h1,lC hpi];by_cases e1:x=i
 {
 subst e1;rw[qD rfl,qD rfl,a2,qC (fun e=>hpi e.symm),qC (fun h=>hki h.1.symm),a1,qC (fun e=>hgi e.symm),qD rfl];dsimp only;unfold aK;split<;>rfl}
 {
 rw[qC e1,qC e1];by_cases e2:x=p
 {
 subst e2;rw[qD ⟨rfl,hp0⟩,qD rfl,a2,qD rfl]}
 {
 rw[qC (fun h=>e2 h.1),qC e2,a2,qC e2];by_cases e3:x=k/\k≠0
 {
 have hxg:x≠g:=by {
 intro e;rcases hkg with h|h
 · exact h (e3.1.symm.trans e)
 · exact e3.2 h};rw[qD e3,qC hxg,qD e3,<-e3.1,a1,qC hxg,qC e1]}
 {
 rw[qC e3,a1];by_cases e4:x=g
 · rw[qD e4,qD e4]
 · rw[qC e4,qC e4,qC e1,qC e3]}}}
theorem aCP{σ:Tbl}{i p g s s' :Nat}(_hs:s<2)(hp:(σ i).up=p)(hg:(σ p).up=g)(h1:aR σ i=(s,true))(h2:aR σ p=(s', false))(hpi:p≠i)(hi0:i≠0)(hp0:p≠0)
    (hki:kid (σ i) (1-s)≠i) (hkp:kid (σ i) (1-s)≠p) (x:Nat):
    cD σ i x=if x=i then { aK (σ i) (1-s) p with up:=g } else if x=p then { aK (σ p) s (kid (σ i) (1-s)) with up:=i } else if x=kid (σ i) (1-s)/\kid (σ i) (1-s)≠0 then { σ x with up:=p } else σ x:=by
 have a1:∀x,rot1 σ i x=if x=i then { σ i with up:=g } else σ x:=by {
 intro x;unfold rot1;rw[hp,h2,hg,qC (by simp)];rfl};have hk1:kid (rot1 σ i i) (1-s)=kid (σ i) (1-s):=by rw[a1,qD rfl,aCO]
 generalize hk:kid (σ i) (1-s)=k at *;have a2:∀x,rF σ i x=if x=p then aK (σ p) s k else if x=k/\k≠0 then { rot1 σ i k with up:=p } else rot1 σ i x:=by {
 intro x;unfold rF;rw[hp,h1,hk1,lC hkp];have e:rot1 σ i p=σ p:=by rw[a1 p,qC hpi]
 rw[e]};unfold cD;rw[hp,h1,lC hpi];by_cases e1:x=i
 {
 subst e1;rw[qD rfl,qD rfl,a2,qC (fun e=>hpi e.symm),qC (fun h=>hki h.1.symm),a1,qD rfl];dsimp only;unfold aK;split<;>rfl}
 {
 rw[qC e1,qC e1];by_cases e2:x=p
 {
 subst e2;rw[qD ⟨rfl,hp0⟩,qD rfl,a2,qD rfl]}
 {
 rw[qC (fun h=>e2 h.1),qC e2,a2,qC e2];by_cases e3:x=k/\k≠0
 · rw[qD e3,qD e3,<-e3.1,a1,qC e1]
 · rw[qC e3,a1,qC e1,qC e3]}}
structure Fm where
  s:Bool
  f:Bool
  p:Nat
  o:BT
def Fm.fill(a:Fm)(t:BT):BT:=if a.s then .node a.f a.o a.p t else .node a.f t a.p a.o
def aO:List Fm->BT->BT
  | [],t=>t
  | a::c,t=>aO c (a.fill t)
def lD:List Fm->Nat->Nat
  | [],u=>u
  | a::_,_=>a.p
def sd(b:Bool):Nat:=if b then 1 else 0
def kK(σ:Tbl):List Fm->Nat->List Nat->Nat->Prop
  | [],_,_,_=>True
  | a::c,x,ns,u=>(a.p≠0/\(σ a.p).up=lD c u/\(σ a.p).flip=a.f/\kid (σ a.p) (sd a.s)=x/\kid (σ a.p) (sd !a.s)=a.o.root)/\Rep σ a.o a.p /\
      ((σ a.p).size=wrap64 (ns++a.p::a.o.nodes).length/\(σ a.p).total=wrap64 (tot σ (ns++a.p::a.o.nodes))/\dK σ (ns++a.p::a.o.nodes) (σ a.p).first)/\kK σ c a.p (ns++a.p::a.o.nodes) u
theorem gB(a:Fm)(t:BT):(a.fill t).nodes.Perm (t.nodes++a.p::a.o.nodes):=by
 unfold Fm.fill;cases a.s with
 | false=>exact .refl _
 | true=>{
 simp only[if_true,BT.nodes];refine List.perm_middle.trans (((List.perm_append_comm).cons a.p).trans List.perm_middle.symm)}
theorem gC(a:Fm)(t:BT):(a.fill t).root=a.p:=by unfold Fm.fill;split<;>rfl
theorem kK.perm{σ:Tbl}:∀{c:List Fm} {x:Nat} {ns ms:List Nat} {u:Nat},ns.Perm ms->kK σ c x ns u->kK σ c x ms u
  | [],_,_,_,_,_,_=>trivial
  | a::c,x,ns,ms,u,hp,⟨h1,h2,⟨h3,h4,h5⟩,h6⟩=>by
    have hq:(ns++a.p::a.o.nodes).Perm (ms++a.p::a.o.nodes):=hp.append_right _;exact⟨h1,h2,⟨by rw[h3,hq.length_eq],by rw[h4,iR hq],gA hq h5⟩,h6.perm hq⟩
theorem aCQ{σ:Tbl}{a:Fm}{t:BT}{u:Nat}:Rep σ (a.fill t) u↔Rep σ t a.p/\(a.p≠0/\(σ a.p).up=u/\(σ a.p).flip=a.f/\kid (σ a.p) (sd a.s)=t.root/\kid (σ a.p) (sd !a.s)=a.o.root)/\Rep σ a.o a.p /\
      ((σ a.p).size=wrap64 (t.nodes++a.p::a.o.nodes).length/\(σ a.p).total=wrap64 (tot σ (t.nodes++a.p::a.o.nodes))/\dK σ (t.nodes++a.p::a.o.nodes) (σ a.p).first):=by
 have hp:=gB a t;obtain⟨s,f,p,o⟩:=a;cases s with
 | false=>{
 simp only[Fm.fill,Rep,kid,sd,Bool.not_false,if_true,Bool.false_eq_true,if_false,BT.nodes,Nat.one_ne_zero];constructor
 · rintro⟨⟨a1,a2,a3,a4,a5⟩,b,c,d⟩;exact⟨b,⟨a1,a2,a3,a4,a5⟩,c,d⟩
 · rintro⟨b,⟨a1,a2,a3,a4,a5⟩,c,d⟩;exact⟨⟨a1,a2,a3,a4,a5⟩,b,c,d⟩}
 | true=>{
 simp only[Fm.fill,if_true,BT.nodes]at hp;simp only[Fm.fill,Rep,kid,sd,Bool.not_true,if_true,Bool.false_eq_true,if_false,BT.nodes,Nat.one_ne_zero];rw[hp.length_eq,iR hp];constructor
 · rintro⟨⟨a1,a2,a3,a4,a5⟩,b,c,d,e,g⟩;exact⟨c,⟨a1,a2,a3,a5,a4⟩,b,d,e,gA hp g⟩
 · rintro⟨c,⟨a1,a2,a3,a5,a4⟩,b,d,e,g⟩;exact⟨⟨a1,a2,a3,a4,a5⟩,b,c,d,e,gA hp.symm g⟩}
theorem dN{σ:Tbl}:∀{c:List Fm} {t:BT} {u:Nat},Rep σ (aO c t) u↔Rep σ t (lD c u)/\kK σ c t.root t.nodes u
  | [],t,u=>by simp[aO,lD,kK]
  | a::c,t,u=>by
    simp only[aO,lD,kK];rw[dN,aCQ,gC];constructor
    · rintro⟨⟨h1,h2,h3,h4⟩,h5⟩;exact⟨h1,h2,h3,h4,h5.perm (gB a t)⟩
    · rintro⟨h1,h2,h3,h4,h5⟩;exact⟨⟨h1,h2,h3,h4⟩,h5.perm (gB a t).symm⟩
end Go.Proofs.YtjdgpcjbgjnahaaGreatDoor
