/- intern: the walk of 'clear', which empties a cell and shifts the ids behind it back. -/
import Derived.Test.YtjdgpcjbgjnahaaGreatDoorRows
import Derived.WalkKit
import Derived.WalkSpells
import Derived.WalkLawsBesides
import Derived.LaidEqlPtr
import Derived.Deep.QuietTactic
import Derived.BigQuiet
import Derived.Lib.Hide
import Derived.RangeFuncBox
import Derived.Maps.AppendAt
import Derived.ProofKit
import Derived.OpenShut
import Derived.ShutString
import Derived.Deep.Slices
import Derived.ChangeSame
import Derived.Sort.QuietTacIn
import Derived.RangeFuncNested
import Derived.RangeFuncBound
import Derived.RangeFuncCalls
import Derived.RangeFuncLeaves
import Derived.Shelf.Abstract
import Derived.Shelf.RegionOpen
import Derived.OwnWalkIn
import Derived.TacticsInMore
import Derived.LoopNIn
import Derived.LoopIn
set_option maxRecDepth 10000
set_option maxHeartbeats 400000
set_option linter.unusedSimpArgs false
set_option linter.unusedVariables false
/- Small facts on blocks of memory and on what a call leaves alone; used by all walks of this seat. -/
namespace Go.Proofs.YtjdgpcjbgjnahaaGreatDoor
theorem qA:type_of% @Lib.hid:=@Lib.hid
theorem qB:type_of% @List.mem_cons:=@List.mem_cons
theorem qC:type_of% @if_neg:=@if_neg
theorem qD:type_of% @if_pos:=@if_pos
theorem qE:type_of% @List.mem_append:=@List.mem_append
theorem qF:type_of% @decide_eq_false:=@decide_eq_false
theorem qG:type_of% @decide_eq_true:=@decide_eq_true
theorem qH:type_of% @List.mem_singleton:=@List.mem_singleton
theorem qI:type_of% @Option.some.injEq:=@Option.some.injEq
theorem qJ:type_of% @Calls.quiet_of_same:=@Calls.quiet_of_same
theorem qK:type_of% @Nat.le_refl:=@Nat.le_refl
theorem qL:type_of% @List.getElem?_eq_getElem:=@List.getElem?_eq_getElem
theorem qM:type_of% @Array.getElem?_eq_some_iff:=@Array.getElem?_eq_some_iff
theorem qN:type_of% @List.nodup_append:=@List.nodup_append
theorem qO:type_of% @List.nodup_cons:=@List.nodup_cons
theorem qP:type_of% @Value.slice.injEq:=@Value.slice.injEq
theorem qQ:type_of% @Classical.byContradiction:=@Classical.byContradiction
theorem qR:type_of% @beq_eq_false_iff_ne:=@beq_eq_false_iff_ne
theorem qS:type_of% @Nat.zero_le:=@Nat.zero_le
theorem qT:type_of% @List.getElem?_eq_some_iff:=@List.getElem?_eq_some_iff
theorem qU:type_of% @List.set_cons_succ:=@List.set_cons_succ
theorem qV:type_of% @Option.isSome_iff_exists:=@Option.isSome_iff_exists
theorem qW:type_of% @List.mem_map:=@List.mem_map
theorem qX:type_of% @Bool.and_eq_true:=@Bool.and_eq_true
theorem qY:type_of% @List.set_cons_zero:=@List.set_cons_zero
theorem qZ:type_of% @List.length_cons:=@List.length_cons
theorem zA:type_of% @List.mem_filter:=@List.mem_filter
theorem zB:type_of% @List.getElem?_eq_none:=@List.getElem?_eq_none
theorem zC:type_of% @List.cons_append:=@List.cons_append
theorem zD:type_of% @Int.toNat_natCast:=@Int.toNat_natCast
theorem zE:type_of% @Prod.mk.injEq:=@Prod.mk.injEq
theorem zF:type_of% @List.length_append:=@List.length_append
theorem zG:type_of% @IntWalk.i64_in:=@IntWalk.i64_in
theorem zH:type_of% @Nat.le_trans:=@Nat.le_trans
theorem zI:type_of% @And.intro:=@And.intro
theorem zJ:type_of% @List.getElem?_cons_zero:=@List.getElem?_cons_zero
theorem zK:type_of% @List.getElem?_cons_succ:=@List.getElem?_cons_succ
open Go.RowKit
def Blk(w:World)(b:Nat)(t:TypeId)(l:List Value):Prop:=w.heap[b]? =some (.cells l.toArray t (0,0))
section
variable {w:World} {b:Nat} {t:TypeId} {l:List Value}
theorem Blk.cell(h:Blk w b t l)(i:Nat):w.cell? ⟨b,i,none⟩=l[i]? :=by
 unfold Blk at h;simp[World.cell?,h]
theorem Blk.frozen(h:Blk w b t l)(i:Nat):w.frozen? ⟨b,i,none⟩=false:=by
 unfold Blk at h;simp[World.frozen?,h]
theorem Blk.lt(h:Blk w b t l):b<w.heap.size:=(qM.1 h).1
theorem Blk.of_same{w' :World}(h:Blk w b t l)(e:w'.heap[b]? =w.heap[b]?):Blk w' b t l:=e.trans h
theorem Blk.alloc(h:Blk w b t l)(o:Obj):Blk (w.alloc o) b t l:=h.of_same (Below.heap_alloc w o b h.lt)
theorem Blk.drew(h:Blk w b t l):Blk w.drew b t l:=h
theorem Blk.drewN(h:Blk w b t l)(n:Nat):Blk (w.drewN n) b t l:=h
theorem Blk.other(h:Blk w b t l)(a:Addr)(u:Value)(hne:b≠a.block):Blk (w.setCell a u) b t l:=
  h.of_same (Below.heap_setCell w a u b hne)
theorem Blk.set(h:Blk w b t l)(i:Nat)(u:Value):Blk (w.setCell ⟨b,i,none⟩ u) b t (l.set i u):=by
 have hb:=h.lt;unfold Blk at *;simp only[World.setCell,Array.getElem?_modify];simp[h]
theorem Blk.new(w:World)(l:List Value)(t:TypeId):Blk (w.alloc (.cells l.toArray t)) w.heap.size t l:=by
 show(w.heap.push _)[w.heap.size]? =_
 simp
end
structure Fr (S:List Nat) (w w' :World):Prop where
  os:w'.os=w.os
  tape:w'.tape=w.tape
  output:w'.output=w.output
  size:w.heap.size<=w'.heap.size
  keep:∀k,k<w.heap.size->k∉S->w'.heap[k]? =w.heap[k]?
section
variable {S:List Nat} {w w' w'' :World}
theorem Fr.refl(S:List Nat)(w:World):Fr S w w:=⟨rfl,rfl,rfl,qK _,fun _ _ _=>rfl⟩
theorem Fr.trans{S' :List Nat}(h:Fr S w w')(k:Fr S' w' w'')(hs:∀b∈S', b∈S∨w.heap.size<=b):Fr S w w'' :=
  ⟨k.os.trans h.os,k.tape.trans h.tape,k.output.trans h.output,zH h.size k.size,fun i hi hn=>
    (k.keep i (Nat.lt_of_lt_of_le hi h.size) (fun hm=>(hs i hm).elim hn (fun h=>by omega))).trans (h.keep i hi hn)⟩
theorem Fr.trans' (h:Fr S w w')(k:Fr S w' w''):Fr S w w'' :=h.trans k (fun _ hb=>.inl hb)
theorem Fr.mono{S' :List Nat}(h:Fr S w w')(hs:∀b∈S,b∈S' ∨ w.heap.size<=b):Fr S' w w' :=
  ⟨h.os,h.tape,h.output,h.size,fun k hk hn=>h.keep k hk (fun hm=>(hs k hm).elim hn (fun h=>by omega))⟩
theorem Fr.drew(h:Fr S w w'):Fr S w w'.drew:=⟨h.os,h.tape,h.output,h.size,h.keep⟩
theorem Fr.drewN(h:Fr S w w')(n:Nat):Fr S w (w'.drewN n):=⟨h.os,h.tape,h.output,h.size,h.keep⟩
theorem Fr.alloc(h:Fr S w w')(o:Obj):Fr S w (w'.alloc o):=
  h.trans' ⟨rfl,rfl,rfl,by simp,fun k hk _=>Below.heap_alloc _ _ _ hk⟩
theorem Fr.setCell(h:Fr S w w')(a:Addr)(u:Value)(ha:a.block∈S∨w.heap.size<=a.block):Fr S w (w'.setCell a u):=
  h.trans (S' := [a.block]) ⟨rfl, rfl, rfl, by simp [World.setCell], fun k _ hn => Below.heap_setCell _ _ _ _ (by simpa using hn)⟩
    (fun b hb=>by simp at hb;subst hb;exact ha)
theorem Fr.grown{row:Option Nat}(h:Fr S w w')(hg:w'.grownBy w'' row)(hr:∀k,row=some k->k∈S∨w.heap.size<=k):Fr S w w'' :=
  h.trans (S' := row.toList) ⟨hg.os, hg.tape, hg.output, hg.size, fun k hk hn => hg.block k hk (fun e => hn (by simp [<- e]))⟩
    (fun b hb=>hr b (by simpa using hb))
theorem Fr.below(h:Fr S w w')(hs:∀b∈S,w.heap.size<=b):Below w.heap.size w w' :=
  ⟨h.os,h.tape,h.output,h.size,fun k hk=>h.keep k hk (fun hm=>by have:=hs k hm;omega)⟩
theorem Fr.of_below(h:Below w.heap.size w w'):Fr [] w w' :=⟨h.os,h.tape,h.output,h.size,fun k hk _=>h.block k hk⟩
theorem Fr.blk{b:Nat}{t:TypeId}{l:List Value}(h:Fr S w w')(hb:Blk w b t l)(hn:b∉S):Blk w' b t l:=
  hb.of_same (h.keep b hb.lt hn)
end
theorem wK{w:World}{a:Addr}{v:Value}(h:w.cell? a=some v):a.block<w.heap.size:=by
 by_cases hb:a.block<w.heap.size
 · exact hb
 {
 have:w.heap[a.block]? =none:=Array.getElem?_eq_none (by omega);simp[World.cell?,this]at h}
theorem Fr.cell{S:List Nat}{w w' :World}{a:Addr}{v:Value}(h:Fr S w w')(hc:w.cell? a=some v)(hn:a.block∉S):w'.cell? a=some v:=
  (World.cell?_of_block (w:=w) (h.keep _ (wK hc) hn)).trans hc
structure Eqv (w' w:World):Prop where
  heap:w'.heap=w.heap
  os:w'.os=w.os
  tape:w'.tape=w.tape
  output:w'.output=w.output
theorem Eqv.refl(w:World):Eqv w w:=⟨rfl,rfl,rfl,rfl⟩
theorem Eqv.drewN(w:World)(n:Nat):Eqv (w.drewN n) w:=⟨rfl,rfl,rfl,rfl⟩
theorem Eqv.blk{w' w:World}(h:Eqv w' w){b:Nat}{t:TypeId}{l:List Value}(hb:Blk w b t l):Blk w' b t l:=by
 unfold Blk at *;rw[h.heap];exact hb
theorem Eqv.fr{w' w w0:World}(h:Eqv w' w){S:List Nat}(hf:Fr S w0 w):Fr S w0 w' :=
  ⟨h.os.trans hf.os,h.tape.trans hf.tape,h.output.trans hf.output,by rw[h.heap];exact hf.size,by rw[h.heap];exact hf.keep⟩
theorem Eqv.cell{w' w:World}(h:Eqv w' w)(a:Addr):w'.cell? a=w.cell? a:=by simp[World.cell?,h.heap]
theorem Eqv.owns{w' w:World}(h:Eqv w' w){base:Nat}{e:TypeId}{size:Nat}{v:Value}{n:Nat}{xs:List Value}
    (k:w.ownsRow base e size v n xs):w'.ownsRow base e size v n xs:=by unfold World.ownsRow at *;rw[h.heap];exact k
theorem aU{w w' :World}{base:Nat}{e:TypeId}{size:Nat}{v:Value}{n:Nat}{xs:List Value}
    (h:w.ownsRow base e size v n xs) (hs:∀k,v.ownBlock=some k->w'.heap[k]? =w.heap[k]?):w'.ownsRow base e size v n xs:=by
 obtain⟨h1,h2⟩:=h;refine⟨h1,?_⟩;rcases h2 with h2|⟨g,cap,cur,rfl,hg,hh,r⟩
 · exact Or.inl h2
 · exact Or.inr ⟨g,cap,cur,rfl,hg,by rw[hs g rfl];exact hh,r⟩
theorem dK{w:World}{base:Nat}{e:TypeId}{v:Value}{n:Nat}{xs:List Value}(h:w.ownsRow base e 1 v n xs){i:Nat}(hi:i<n):
    ∃g cap,v=.slice (some ⟨g,0,none⟩) n cap/\n<=cap/\g<w.heap.size/\w.cell? ⟨g,i,none⟩=xs[i]? /\ (∀j,w.frozen? ⟨g,j,none⟩=false):=by
 obtain⟨h1,h2⟩:=h;rcases h2 with⟨_,h2⟩|⟨g,cap,cur,rfl,_,hh,hn,hm,hsz,hxs⟩
 · omega
 {
 refine⟨g,cap,rfl,hn,(qM.1 hh).1,?_,fun j=>by simp[World.frozen?,hh]⟩;subst hxs;simp only[World.cell?,hh];simp[hi]}
theorem bH{w:World}{base:Nat}{e:TypeId}{size:Nat}{v:Value}{n:Nat}{xs:List Value}(h:w.ownsRow base e size v n xs):∃a cap,v=.slice a n cap:=by
 rcases h.2 with⟨rfl,rfl⟩|⟨g,cap,cur,rfl,_⟩
 · exact⟨_,_,rfl⟩
 · exact⟨_,_,rfl⟩
theorem kI{w:World}{e:TypeId}{g n cap i:Nat}{xs:List Value}(h:w.ownsRow 0 e 1 (.slice (some ⟨g,0,none⟩) n cap) n xs)(_hi:i<n)(u:Value):
    (w.setCell ⟨g,i,none⟩ u).ownsRow 0 e 1 (.slice (some ⟨g,0,none⟩) n cap) n (xs.set i u):=by
 obtain⟨h1,h2⟩:=h;refine⟨by simpa using h1,?_⟩;rcases h2 with⟨h2,_⟩|⟨g', cap', cur,e1,_,hh,hn,hm,hsz,hxs⟩
 · cases h2
 {
 simp only[qP,qI,Addr.mk.injEq,and_true,true_and]at e1;obtain⟨rfl,rfl⟩:=e1;refine .inr ⟨g,cap,cur.setIfInBounds i u,rfl,qS _,?_,hn,hm,by simpa using hsz,?_⟩
 {
 simp only[World.setCell,Array.getElem?_modify];simp[hh]}
 · rw[<-hxs,Array.toList_setIfInBounds,Nat.mul_one,List.take_set]}
theorem cY{w:World}{base:Nat}{e:TypeId}{size:Nat}{v:Value}{n:Nat}{xs:List Value}(h:w.ownsRow base e size v n xs)(a:Addr)(u:Value)(hn:v.ownBlock≠some a.block):
    (w.setCell a u).ownsRow base e size v n xs:=
  aU h fun _k hk=>Below.heap_setCell _ _ _ _ (fun e=>hn (e▸hk))
theorem aDO{k:IntKind}{a b:Int}(h:a=b):Ending.returned (.int k a)=.returned (.int k b):=by rw[h]
theorem aD(W:World)(n:Nat)(u:Value)(t:TypeId)(h:W.heap.size=n):(W.alloc (.cells #[u] t)).cell? ⟨n,0,none⟩=some u:=by
 subst h;simp
theorem wL{P:Program}(w:World)(t ty e:TypeId)(i:TypeInfo)(z:Value)(size bytes:Nat)(ht:P.underlying t=some (.slice e))(hi:P.info? e=some i)(hz:i.zero=some z)
    (hsize:i.size=size) (hby:i.bytes=bytes) (hzs:z.cells.size=size) (hsz:0<size)
    (v:Value) (n:Nat) (xs:List Value) (hown:w.ownsRow 0 e size v n xs)
    (a:Addr) (m c:Nat) (news:List Value) (hl:news.length=m*size) (hnews:∀j u,news[j]? =some u->w.cell? (a.add j)=some u) (h1:∀u∈news,u.oneCell' =true)
    (hm:0<m) (h63:n+m<=maxLen) (hbytes:(n+m)*bytes<=140737488355328):
    ∃g cap w', (Builtin.append_ #[t,t] ty #[v,.slice (some a) m c]).run P w=.ok (.slice (some ⟨g,0,none⟩) (n+m) cap) w' /\ w'.ownsRow 0 e size (.slice (some ⟨g,0,none⟩) (n+m) cap) (n+m) (xs++news) /\
      w.grownBy w' v.ownBlock/\(v.ownBlock=some g∨w.heap.size<=g):=by
 obtain⟨v', w', hr,h2,h3,_⟩:=run_append_own (P:=P) w 0 t ty e i z size bytes ht hi hz hsize hby hzs hsz v n xs hown a m c news hl hnews h1 h63 hbytes (qS _);rcases hown.2 with⟨rfl,rfl⟩|⟨g,cap,cur,rfl,_,hg,hnc,hcm,hcs,htake⟩
 {
 obtain⟨v2,w2,hr2,h22,_,_⟩:=run_append_own (P:=P) w w.heap.size t ty e i z size bytes ht hi hz hsize hby hzs hsz (.slice none 0 0) 0 xs ⟨hown.1,.inl ⟨rfl,rfl⟩⟩ a m c news hl hnews h1 h63 hbytes (qK _);rw[hr]at hr2;simp only[Result.ok.injEq]at hr2;obtain⟨rfl,rfl⟩:=hr2;rcases h22.2 with⟨_,h0⟩|⟨g,cap,cur,rfl,hgb,_⟩
 · omega
 · exact⟨g,cap,_,hr,h2,h3,.inr hgb⟩}
 {
 by_cases hroom:n+m<=cap
 {
 have hfit:n*i.size+news.length<=cur.size:=by rw[hl,hcs,hsize,<-Nat.add_mul];exact Nat.mul_le_mul_right _ hroom
 have hr2:=run_append_room (P:=P) w t ty e i ht hi g n cap cur hg a m c news (by rw[hsize];exact hl) hnews h1 hroom hfit;rw[hr]at hr2;simp only[Result.ok.injEq]at hr2;obtain⟨rfl,rfl⟩:=hr2;exact⟨g,cap,_,hr,h2,h3,.inl rfl⟩}
 {
 have holds:∀j u,xs[j]? =some u->w.cell? ((⟨g,0,none⟩:Addr).add j)=some u:=hown.cells (g:=g) rfl;obtain⟨v2,w2,hr2,h22,_⟩:=run_append_arg_grows (P:=P) w t ty e i z size bytes ht hi hz hsize hby hzs hsz ⟨g,0,none⟩ n cap xs hown.1 holds a m c news hl hnews (by omega) h63 hbytes;rw[hr]at hr2;simp only[Result.ok.injEq]at hr2;obtain⟨rfl,rfl⟩:=hr2;rcases h22.2 with⟨_,h0⟩|⟨g', cap', cur', rfl,hgb,_⟩
 · omega
 · exact⟨g', cap', _,hr,h2,h3,.inr hgb⟩}}
theorem aBD{P:Program}{w:World}{ops:Array Oper}{rest:List Oper}{o:Oper}{a:Act}{Q:Exit->Act->World->Prop}(hgd:o.guard=none)(s x:Operand)(t:TypeId)
    (ho:o.op=.call { callee:=.builtin .append,args:=#[s,x],argTypes:=#[t,t] })
    (e:TypeId) (i:TypeInfo) (z:Value) (size bytes:Nat) (ht:P.underlying t=some (.slice e)) (hi:P.info? e=some i) (hz:i.zero=some z)
    (hsize:i.size=size) (hby:i.bytes=bytes) (hzs:z.cells.size=size) (hsz:0<size)
    (v:Value) (n:Nat) (xs:List Value) (hs:a.eval s=v) (hown:w.ownsRow 0 e size v n xs)
    (ad:Addr) (m c:Nat) (news:List Value) (hx:a.eval x=.slice (some ad) m c) (hl:news.length=m*size) (hnews:∀j u,news[j]? =some u->w.cell? (ad.add j)=some u) (h1:∀u∈news,u.oneCell' =true)
    (hm:0<m) (h63:n+m<=maxLen) (hbytes:(n+m)*bytes<=140737488355328)
    (h:∀g cap w', w'.ownsRow 0 e size (.slice (some ⟨g,0,none⟩) (n+m) cap) (n+m) (xs++news)->w.grownBy w' v.ownBlock->(v.ownBlock=some g∨w.heap.size<=g) ->
      wpList P ops Q rest (a.put o.dst (.slice (some ⟨g,0,none⟩) (n+m) cap)) w'):wpList P ops Q (o::rest) a w:=by
 refine wpList_plain hgd fun K hK=>?_;obtain⟨g,cap,w', hr,h2,h3,h4⟩:=wL (P:=P) w t o.type e i z size bytes ht hi hz hsize hby hzs hsz v n xs hown ad m c news hl hnews h1 hm h63 hbytes;unfold Oper.wp execOp;simp only[ho,resolve,invoke,builtin,Sem.run_bind,Sem.run_pure,Result.andThen_ok,List.map_toArray,List.map_cons,List.map_nil,hs,hx,hr];exact hK _ _ (h g cap w' h2 h3 h4)
theorem aB{P:Program}{w:World}{ops:Array Oper}{rest:List Oper}{o:Oper}{a:Act}{Q:Exit->Act->World->Prop}(hgd:o.guard=none)(s x:Operand)(t:TypeId)
    (ho:o.op=.call { callee:=.builtin .append,args:=#[s,x],argTypes:=#[t,t] })
    (e:TypeId) (z:Value) (bytes:Nat) (ht:P.underlying t=some (.slice e)) (hinfo:(P.info? e).map (fun i=>(i.zero,i.size,i.bytes))=some (some z,1,bytes)) (hzs:z.cells.size=1)
    (v:Value) (n:Nat) (xs:List Value) (hs:a.eval s=v) (hown:w.ownsRow 0 e 1 v n xs)
    (b:Nat) (u:Value) (hx:a.eval x=.slice (some ⟨b,0,none⟩) 1 1) (hu:w.cell? ⟨b,0,none⟩=some u) (hu1:u.oneCell' =true)
    (hn:n+1<=4294967296) (hby:bytes<=1024)
    (h:∀g cap w', w'.ownsRow 0 e 1 (.slice (some ⟨g,0,none⟩) (n+1) cap) (n+1) (xs++[u])->w.grownBy w' v.ownBlock->(v.ownBlock=some g∨w.heap.size<=g) ->
      wpList P ops Q rest (a.put o.dst (.slice (some ⟨g,0,none⟩) (n+1) cap)) w'):wpList P ops Q (o::rest) a w:=by
 obtain⟨i0,hi,hz0,hz1,hz2⟩:=info_parts hinfo;refine aBD hgd s x t ho e i0 z 1 bytes ht hi hz0 hz1 hz2 hzs (by decide) v n xs hs hown ⟨b,0,none⟩ 1 1 [u] hx rfl ?_ ?_ (by decide) (by unfold maxLen;omega) ?_ h
 {
 intro j x hj;cases j with
 | zero=>simp at hj;subst hj;exact hu
 | succ j=>simp at hj}
 · simp[hu1]
 {
 have:(n+1)*bytes<=4294967296*1024:=Nat.mul_le_mul hn hby;omega}
def rT(r:Nat):Nat:=if r%2=1 then r/2 ^^^ 3988292384 else r/2
def wM:Nat->Nat->Nat
  | 0,r=>r
  | n+1,r=>wM n (rT r)
def aQA(r b:Nat):Nat:=wM 8 (r ^^^ b)
def mS(r:Nat)(l:List Nat):Nat:=l.foldl aQA r
def crc(l:List Nat):Nat:=mS 4294967295 l ^^^ 4294967295
def Byt(l:List Nat):Prop:=∀b∈l,b<256
theorem uP{a b:Nat}(ha:a<4294967296)(hb:b<4294967296):a ^^^ b<4294967296:=Nat.xor_lt_two_pow (n:=32) ha hb
theorem wN{r:Nat}(h:r<4294967296):rT r<4294967296:=by
 unfold rT;split
 · exact uP (by omega) (by decide)
 · omega
theorem aDP:∀(n:Nat) {r:Nat},r<4294967296->wM n r<4294967296
  | 0,_,h=>h
  | n+1,_,h=>aDP n (wN h)
theorem aMP{r b:Nat}(h:r<4294967296)(hb:b<256):aQA r b<4294967296:=aDP 8 (uP h (by omega))
theorem aDQ:∀{l:List Nat} {r:Nat},r<4294967296->Byt l->mS r l<4294967296
  | [],_,h,_=>h
  | b::l,r,h,hb=>aDQ (l:=l) (aMP h (hb b List.mem_cons_self)) (fun x hx=>hb x (List.mem_cons_of_mem _ hx))
theorem rU{l:List Nat}(h:Byt l):crc l<4294967296:=uP (aDQ (by decide) h) (by decide)
theorem uQ(r:Nat)(l:List Nat)(b:Nat):mS r (l++[b])=aQA (mS r l) b:=by unfold mS;rw[List.foldl_append];rfl
def beN:Nat->Nat->List Nat
  | 0,_=>[]
  | n+1,x=>x/256 ^ n%256::beN n x
def aC(l:List Nat):Nat:=l.foldl (fun x y=>x*256+y) 0
theorem aN:∀(n x:Nat),(beN n x).length=n
  | 0,_=>rfl
  | n+1,x=>by show(beN n x).length+1=n+1;rw[aN]
theorem dV:∀(n x:Nat),Byt (beN n x)
  | 0,_,b,h=>by cases h
  | n+1,x,b,h=>by
    rcases qB.1 h with rfl|h
    · exact Nat.mod_lt _ (by decide)
    · exact dV n x b h
theorem jH:∀(n x:Nat) {i:Nat} (hi:i<(beN n x).length),(beN n x)[i]=x/256 ^ (n-1-i)%256
  | 0,_,i,hi=>absurd hi (Nat.not_lt_zero _)
  | n+1,x,0,_=>rfl
  | n+1,x,i+1,hi=>by
    have hi' :i<(beN n x).length:=Nat.lt_of_succ_lt_succ hi;show(beN n x)[i]=_
    rw[jH n x hi', show n+1-1-(i+1)=n-1-i by omega]
theorem kJ(l:List Nat)(b:Nat):aC (l++[b])=aC l*256+b:=by unfold aC;rw[List.foldl_append];rfl
theorem rV:∀(l:List Nat) (x:Nat),l.foldl (fun x y=>x*256+y) x=x*256 ^ l.length+aC l
  | [],x=>by show x=x*1+0;omega
  | b::l,x=>by
    show l.foldl (fun x y=>x*256+y) (x*256+b)=x*256 ^ (l.length+1)+l.foldl (fun x y=>x*256+y) (0*256+b)
    rw[rV l,rV l (0*256+b),Nat.pow_succ,Nat.add_mul,Nat.zero_mul,Nat.zero_add,Nat.mul_assoc,Nat.mul_comm 256,Nat.add_assoc]
theorem rW(b:Nat)(l:List Nat):aC (b::l)=b*256 ^ l.length+aC l:=by
 show l.foldl (fun x y=>x*256+y) (0*256+b)=_
 rw[rV,Nat.zero_mul,Nat.zero_add]
theorem fK:∀{l:List Nat},Byt l->aC l<256 ^ l.length
  | [],_=>by decide
  | b::l,h=>by
    rw[rW,qZ,Nat.pow_succ];have h1:=h b List.mem_cons_self;have h2:=fK (l:=l) fun x hx=>h x (List.mem_cons_of_mem _ hx);have h3:b*256 ^ l.length<=255*256 ^ l.length:=Nat.mul_le_mul_right _ (by omega);omega
theorem aBE:∀(n x:Nat),aC (beN n x)=x%256 ^ n
  | 0,x=>by show 0=x%1;omega
  | n+1,x=>by
    show aC (x/256 ^ n%256::beN n x)=_
    rw[rW,aN,aBE n x,Nat.pow_succ,Nat.mod_mul,Nat.mul_comm,Nat.add_comm]
theorem aDR:∀(n x y:Nat),x%256 ^ n=y%256 ^ n->beN n x=beN n y
  | 0,_,_,_=>rfl
  | n+1,x,y,h=>by
    have h1:x%256 ^ n=y%256 ^ n:=by
      have:=congrArg (· % 256 ^ n) h;simpa only[Nat.pow_succ,Nat.mod_mul_right_mod] using this
    have h2:x/256 ^ n%256=y/256 ^ n%256:=by
      have k:=congrArg (· / 256 ^ n) h;simp only[Nat.pow_succ,Nat.mod_mul_right_div_self]at k;exact k
    show _::_=_::_
    rw[h2,aDR n x y h1]
theorem aBF:∀{l:List Nat},Byt l->beN l.length (aC l)=l
  | [],_=>rfl
  | b::l,h=>by
    have h1:=h b List.mem_cons_self;have hl:Byt l:=fun x hx=>h x (List.mem_cons_of_mem _ hx);have h2:=fK hl;have h3:0<256 ^ l.length:=by omega
    show aC (b::l)/256 ^ l.length%256::beN l.length (aC (b::l))=b::l
    rw[rW];have e1:(b*256 ^ l.length+aC l)/256 ^ l.length=b:=by
      rw[Nat.mul_comm,Nat.mul_add_div h3,Nat.div_eq_of_lt h2,Nat.add_zero]
    have e2:beN l.length (b*256 ^ l.length+aC l)=beN l.length (aC l):=aDR _ _ _ (by rw[Nat.mul_comm,Nat.mul_add_mod]);rw[e1,Nat.mod_eq_of_lt h1,e2,aBF hl]
theorem Byt.app{l m:List Nat}(h:Byt l)(k:Byt m):Byt (l++m):=fun b hb=>(qE.1 hb).elim (h b) (k b)
theorem Byt.take{l:List Nat}(h:Byt l)(n:Nat):Byt (l.take n):=fun b hb=>h b (List.mem_of_mem_take hb)
theorem Byt.drop{l:List Nat}(h:Byt l)(n:Nat):Byt (l.drop n):=fun b hb=>h b (List.mem_of_mem_drop hb)
end Go.Proofs.YtjdgpcjbgjnahaaGreatDoor
namespace Go.Proofs.YtjdgpcjbgjnahaaGreatDoor
open Go.ChangeShapes Go.WideShapes Go.ChangeAt Go.RowKit
def yE(k:IntKind)(w:World)(a:Option Addr)(len cap:Nat)(zs:List Int):Prop:=
  (a=none/\len=0/\cap=0/\zs=[]) ∨
  ∃x,a=some x/\len<=cap/\cap<=maxLen/\zs.length=cap/\(∀i,i<zs.length->w.cell? (x.add i)=some (.int k (zs.getD i 0)))/\∀n∈zs,(Lit.int k n).wf=true
theorem aSX{H:Type}{enc:TypeId×Value->H}{W:World}{t e:TypeId}{k:IntKind}{a:Option Addr}{len cap:Nat}{d:DataW H}{p:List MemPlace}
    (ht:Tryz.prog.underlying t=some (.slice e)) (he:Tryz.prog.underlying e=some (.int k)) (hc:Tryz.prog.cellsOf e=1)
    (h:DataW.Trod enc Tryz.prog W 0 (fun _=>true) true t (.slice a len cap) d p):∃zs,yE k W a len cap zs:=by
 obtain⟨fuel,hf⟩:=h;rcases open_ints ht he hc hf with⟨hcs,_⟩|⟨x,l,c,zs,hcs,_,hl,hm,hz,_,hcell,hwz⟩
 {
 simp[Value.cells]at hcs;obtain⟨rfl,rfl,rfl⟩:=hcs;exact⟨[],.inl ⟨rfl,rfl,rfl,rfl⟩⟩}
 {
 simp[Value.cells]at hcs;obtain⟨rfl,rfl,rfl⟩:=hcs;exact⟨zs,.inr ⟨_,rfl,hl,hm,by simpa using hz,hcell,hwz⟩⟩}
end Go.Proofs.YtjdgpcjbgjnahaaGreatDoor
namespace Go.Proofs.YtjdgpcjbgjnahaaGreatDoor
open Go.ChangeShapes Go.WideShapes Go.ChangeAt Go.RowKit Go.Deep
inductive FK where
  | i (k:IntKind)
  | b
end Go.Proofs.YtjdgpcjbgjnahaaGreatDoor
namespace Go.Proofs.YtjdgpcjbgjnahaaGreatDoor
open Go.RowKit
@[go_sem] theorem aSY(a:Addr)(w:World):(binOp .eql 141 (.pointer (some a)) (.pointer (some a))).run Tryz.prog w=.ok (.bool true) w:=by
 obtain⟨j,hj⟩:=qV.1 (show(Tryz.prog.info? 214).isSome=true by kernel_rfl);exact run_eql_ptr_same w a Tryz.underlying141 hj
theorem cS(pa:Nat)(w:World)(hc:w.cell? ⟨pa,0,none⟩=some (.pointer (some ⟨pa,0,none⟩))):
    Calls Tryz.prog 144 #[.pointer (some ⟨pa,0,none⟩)] w fun e w' =>e=.returned (.bool true)/\w=w' :=by
 go_enter Tryz.func144,Tryz.ntmps144
 go_wp2
 go_ret;exact⟨rfl,rfl⟩
theorem jI(pa g n cap b i:Nat)(w:World)(h1:w.cell? ⟨pa,1,none⟩=some (.slice (some ⟨g,0,none⟩) n cap))(hn:i/64<n)(hi:i<65536)
    (h2:w.cell? ⟨g,i/64,none⟩=some (.pointer (some ⟨b,0,none⟩))):
    Calls Tryz.prog 184 #[.pointer (some ⟨pa,0,none⟩),.int .i64 i] w fun e w' =>e=.returned (.pointer (some ⟨b,i%64*3,none⟩))/\w=w' :=by
 go_enter Tryz.func184,Tryz.ntmps184
 go_wp2
 go_ret;exact⟨rfl,rfl⟩
theorem aBG(pa g n cap b i r:Nat)(w:World)(h1:w.cell? ⟨pa,1,none⟩=some (.slice (some ⟨g,0,none⟩) n cap))(hn:i/64<n)(hi:i<65536)
    (h2:w.cell? ⟨g,i/64,none⟩=some (.pointer (some ⟨b,0,none⟩))) (hr:i%64*3=r):
    Calls Tryz.prog 184 #[.pointer (some ⟨pa,0,none⟩),.int .i64 i] w fun e w' =>e=.returned (.pointer (some ⟨b,r,none⟩))/\w=w' :=by
 subst hr;exact jI pa g n cap b i w h1 hn hi h2
theorem tV(pa g n cap b i begun:Nat)(st:Int)(w:World)(h1:w.cell? ⟨pa,1,none⟩=some (.slice (some ⟨g,0,none⟩) n cap))(hn:i/64<n)(hi:i<65536)
    (h3:w.cell? ⟨pa,3,none⟩=some (.int .i64 begun)) (hb:i<begun)
    (h2:w.cell? ⟨g,i/64,none⟩=some (.pointer (some ⟨b,0,none⟩))) (hs:w.cell? ⟨b,i%64*3,none⟩=some (.int .i64 st)):
    Calls Tryz.prog 145 #[.pointer (some ⟨pa,0,none⟩),.int .i64 i] w fun e w' =>e=.returned (.int .i64 st)/\w=w' :=by
 go_enter Tryz.func145,Tryz.ntmps145
 go_wp2_with (go_at_call 184;refine(jI pa g n cap b i _ h1 hn hi h2).mono ?_;rintro e w' ⟨rfl,rfl⟩)
 go_ret;exact⟨rfl,rfl⟩
theorem rD(pa k:Nat)(w:World)(h0:w.cell? ⟨pa,0,none⟩=some (.pointer (some ⟨pa,0,none⟩)))(h5:w.cell? ⟨pa,5,none⟩=some (.int .i64 k)):
    Calls Tryz.prog 207 #[.pointer (some ⟨pa,0,none⟩)] w fun e w' =>e=.returned (.tuple #[.int .i64 k,.bool true])/\w=w' :=by
 have hk:((k:Int) != -1)=true:=by rw[bne_iff_ne];omega
 go_enter Tryz.func207,Tryz.ntmps207
 go_wp2_with (go_at_call 144;refine(cS pa _ h0).mono ?_;rintro e w' ⟨rfl,rfl⟩)
 go_ret2;exact⟨rfl,rfl⟩
theorem iQ(pa begun slots:Nat)(w:World)(h0:w.cell? ⟨pa,0,none⟩=some (.pointer (some ⟨pa,0,none⟩)))(h5:w.cell? ⟨pa,5,none⟩=some (.int .i64 (-1)))
    (h3:w.cell? ⟨pa,3,none⟩=some (.int .i64 begun)) (h2:w.cell? ⟨pa,2,none⟩=some (.int .i64 slots)) (hlt:begun<slots):
    Calls Tryz.prog 207 #[.pointer (some ⟨pa,0,none⟩)] w fun e w' =>e=.returned (.tuple #[.int .i64 begun,.bool true])/\∃n,w' =w.drewN n:=by
 go_enter Tryz.func207,Tryz.ntmps207
 go_wp2_with (go_at_call 144;refine(cS pa _ h0).mono ?_;rintro e w' ⟨rfl,rfl⟩)
 go_quiet (fail)
 go_wp2
 go_ret2;exact⟨rfl,_,rfl⟩
theorem rE(pa begun slots:Nat)(w:World)(h0:w.cell? ⟨pa,0,none⟩=some (.pointer (some ⟨pa,0,none⟩)))(h5:w.cell? ⟨pa,5,none⟩=some (.int .i64 (-1)))
    (h3:w.cell? ⟨pa,3,none⟩=some (.int .i64 begun)) (h2:w.cell? ⟨pa,2,none⟩=some (.int .i64 slots)) (hlt:slots<=begun):
    Calls Tryz.prog 207 #[.pointer (some ⟨pa,0,none⟩)] w fun e w' =>e=.returned (.tuple #[.int .i64 0,.bool false])/\∃n,w' =w.drewN n:=by
 go_enter Tryz.func207,Tryz.ntmps207
 go_wp2_with (go_at_call 144;refine(cS pa _ h0).mono ?_;rintro e w' ⟨rfl,rfl⟩)
 go_quiet (fail)
 go_wp2
 go_ret2;exact⟨rfl,_,rfl⟩
theorem oP(pa begun slots:Nat)(w:World)(h0:w.cell? ⟨pa,0,none⟩=some (.pointer (some ⟨pa,0,none⟩)))(h5:w.cell? ⟨pa,5,none⟩=some (.int .i64 (-1)))
    (h3:w.cell? ⟨pa,3,none⟩=some (.int .i64 begun)) (h2:w.cell? ⟨pa,2,none⟩=some (.int .i64 slots)) (hlt:slots<=begun):
    Calls Tryz.prog 172 #[.pointer (some ⟨pa,0,none⟩)] w fun e w' =>e=.returned (.tuple #[.int .i64 0,.int .i64 4])/\∃n,w' =w.drewN n:=by
 go_enter Tryz.func172,Tryz.ntmps172
 go_wp2_with (first|(go_at_call 144;refine(cS pa _ h0).mono ?_;rintro e w' ⟨rfl,rfl⟩)|(go_at_call 207;refine(rE pa begun slots _ h0 h5 h3 h2 hlt).mono ?_;rintro e w' ⟨rfl,nq,rfl⟩))
 go_ret2;exact⟨rfl,_,rfl⟩
theorem oQ(pa g n cap b k used:Nat)(aft tm st:Int)(w:World)(hne:b≠pa)(h0:w.cell? ⟨pa,0,none⟩=some (.pointer (some ⟨pa,0,none⟩)))(h5:w.cell? ⟨pa,5,none⟩=some (.int .i64 k))
    (h1:w.cell? ⟨pa,1,none⟩=some (.slice (some ⟨g,0,none⟩) n cap)) (hn:k/64<n) (hi:k<65536)
    (hga:g≠pa) (hgb:g≠b) (hf:∀j,w.frozen? ⟨pa,j,none⟩=false) (hfb:∀j,w.frozen? ⟨b,j,none⟩=false)
    (h2:w.cell? ⟨g,k/64,none⟩=some (.pointer (some ⟨b,0,none⟩))) (h4:w.cell? ⟨pa,4,none⟩=some (.int .i64 used)) (hu:used<65536)
    (hs0:w.cell? ⟨b,k%64*3,none⟩=some (.int .i64 st)) (hs1:w.cell? ⟨b,k%64*3+1,none⟩=some (.int .i64 aft)) (hs2:w.cell? ⟨b,k%64*3+2,none⟩=some (.int .u64 tm)):
    Calls Tryz.prog 172 #[.pointer (some ⟨pa,0,none⟩)] w fun e w' =>e=.returned (.tuple #[.int .i64 k,.int .i64 0])/\∃tm', Eqv w' (((((w.setCell ⟨pa,5,none⟩ (.int .i64 aft)).setCell ⟨b,k%64*3,none⟩ (.int .i64 1)).setCell ⟨b,k%64*3+1,none⟩ (.int .i64 (-1))).setCell ⟨b,k%64*3+2,none⟩ (.int .u64 tm')).setCell ⟨pa,4,none⟩ (.int .i64 (used+1))):=by
 go_enter Tryz.func172,Tryz.ntmps172
 go_wp2_with (first|(go_at_call 144;refine(cS pa _ h0).mono ?_;rintro e w' ⟨rfl,rfl⟩)|(go_at_call 207;refine(rD pa k _ h0 h5).mono ?_;rintro e w' ⟨rfl,rfl⟩)|(go_at_call 184;refine(jI pa g n cap b k _ ?_ hn hi ?_).mono ?_;go_simp;go_simp;rintro e w' ⟨rfl,rfl⟩))
 go_ret2;exact⟨rfl,_,rfl,rfl,rfl,rfl⟩
theorem nN(pa g n cap b k slots used:Nat)(aft tm st:Int)(w:World)(hne:b≠pa)(h0:w.cell? ⟨pa,0,none⟩=some (.pointer (some ⟨pa,0,none⟩)))(h5:w.cell? ⟨pa,5,none⟩=some (.int .i64 (-1)))
    (h1:w.cell? ⟨pa,1,none⟩=some (.slice (some ⟨g,0,none⟩) n cap)) (hn:k/64<n) (hi:k<65536) (hk:0<k%64)
    (h3:w.cell? ⟨pa,3,none⟩=some (.int .i64 k)) (h2s:w.cell? ⟨pa,2,none⟩=some (.int .i64 slots)) (hlt:k<slots)
    (hga:g≠pa) (hgb:g≠b) (hf:∀j,w.frozen? ⟨pa,j,none⟩=false) (hfb:∀j,w.frozen? ⟨b,j,none⟩=false)
    (h2:w.cell? ⟨g,k/64,none⟩=some (.pointer (some ⟨b,0,none⟩))) (h4:w.cell? ⟨pa,4,none⟩=some (.int .i64 used)) (hu:used<65536)
    (hs0:w.cell? ⟨b,k%64*3,none⟩=some (.int .i64 st)) (hs1:w.cell? ⟨b,k%64*3+1,none⟩=some (.int .i64 aft)) (hs2:w.cell? ⟨b,k%64*3+2,none⟩=some (.int .u64 tm)):
    Calls Tryz.prog 172 #[.pointer (some ⟨pa,0,none⟩)] w fun e w' =>e=.returned (.tuple #[.int .i64 k,.int .i64 0])/\∃tm', Eqv w' (((((w.setCell ⟨pa,3,none⟩ (.int .i64 (k+1))).setCell ⟨b,k%64*3,none⟩ (.int .i64 1)).setCell ⟨b,k%64*3+1,none⟩ (.int .i64 (-1))).setCell ⟨b,k%64*3+2,none⟩ (.int .u64 tm')).setCell ⟨pa,4,none⟩ (.int .i64 (used+1))):=by
 have hm:((k:Int) == -1)=false:=qR.2 (by omega);have hm2:((k:Int)%64 == 0)=false:=qR.2 (by omega);go_enter Tryz.func172,Tryz.ntmps172
 go_wp2_with (first|(go_at_call 144;refine(cS pa _ h0).mono ?_;rintro e w' ⟨rfl,rfl⟩)|(go_at_call 207;refine(iQ pa k slots _ h0 h5 h3 h2s hlt).mono ?_;rintro e w' ⟨rfl,nq,rfl⟩)|(go_at_call 184;refine(jI pa g n cap b k _ ?_ hn hi ?_).mono ?_;go_simp;go_simp;rintro e w' ⟨rfl,rfl⟩))
 go_ret2;exact⟨rfl,_,rfl,rfl,rfl,rfl⟩
theorem Tryz.info232:(Tryz.prog.info? 232).map (fun i=>(i.zero,i.size,i.bytes))=some (some (.pointer none),1,8):=by kernel_rfl
theorem aFE:(Tryz.zeroCells236[0]? =some (.int .i64 0))/\(Tryz.zeroCells236[1]? =some (.int .i64 0))/\(Tryz.zeroCells236[2]? =some (.int .u64 0)):=⟨by kernel_rfl,by kernel_rfl,by kernel_rfl⟩
theorem rX:Tryz.zeroCells236.toList.length=192:=by kernel_rfl
theorem rY:(List.range 64).all (fun r=>match Tryz.zeroCells236.toList[r*3]?,Tryz.zeroCells236.toList[r*3+1]?,Tryz.zeroCells236.toList[r*3+2]? with
    | some (.int .i64 0),some (.int .i64 0),some (.int .u64 0)=>true
    | _,_,_=>false)=true:=by kernel_rfl
theorem aBH(r:Nat)(hr:r<64):Tryz.zeroCells236.toList[r*3]? =some (.int .i64 0)/\Tryz.zeroCells236.toList[r*3+1]? =some (.int .i64 0)/\Tryz.zeroCells236.toList[r*3+2]? =some (.int .u64 0):=by
 have h:=List.all_eq_true.1 rY r (by simpa using hr);split at h
 · rename_i a b c;exact⟨a,b,c⟩
 · cases h
theorem aBI(pa bl:Nat)(v:Value)(xs:List Value)(w w0 w1:World)(g' cap' :Nat)(he:Eqv w0 w)(hga:v.ownBlock≠some pa)(hpa:pa<w.heap.size)(hxs:xs.length=bl)(hf:∀j,w.frozen? ⟨pa,j,none⟩=false)(hv:∀g,v.ownBlock=some g->g<w.heap.size)
    (hown1:w1.ownsRow 0 232 1 (.slice (some ⟨g', 0,none⟩) (bl+1) cap') (bl+1) (xs++[.pointer (some ⟨w.heap.size,0,none⟩)]))
    (hgrow1:((w0.alloc (.cells Tryz.zeroCells236 236)).alloc (.cells #[.pointer (some ⟨w.heap.size,0,none⟩)] 232)).grownBy w1 v.ownBlock)
    (hg1:v.ownBlock=some g' ∨ ((w0.alloc (.cells Tryz.zeroCells236 236)).alloc (.cells #[.pointer (some ⟨w.heap.size,0,none⟩)] 232)).heap.size<=g'):
    (∀j,w1.cell? ⟨pa,j,none⟩=w.cell? ⟨pa,j,none⟩)/\(∀j,w1.frozen? ⟨pa,j,none⟩=false)/\Blk w1 w.heap.size 236 Tryz.zeroCells236.toList/\g' ≠ pa/\g' ≠ w.heap.size /\
      w1.cell? ⟨g', bl,none⟩=some (.pointer (some ⟨w.heap.size,0,none⟩))/\Fr v.ownBlock.toList w w1/\(v.ownBlock=some g' ∨ w.heap.size<g')/\w.heap.size<w1.heap.size:=by
 have hsz:w0.heap.size=w.heap.size:=by rw[he.heap]
 have hb0:∀k,k<w.heap.size->((w0.alloc (.cells Tryz.zeroCells236 236)).alloc (.cells #[.pointer (some ⟨w.heap.size,0,none⟩)] 232)).heap[k]? =w.heap[k]? :=by {
 intro k hk;rw[Below.heap_alloc _ _ _ (by simp[hsz];omega),Below.heap_alloc _ _ _ (by omega),he.heap]};have hp:w1.heap[pa]? =w.heap[pa]? :=by rw[hgrow1.block pa (by simp[hsz];omega) (fun e=>hga e.symm)];exact hb0 pa hpa
 have hg2:v.ownBlock=some g' ∨ w.heap.size+1<g' :=by {
 rcases hg1 with h|h
 · exact .inl h
 · refine .inr ?_;simp[hsz]at h;omega};have hnew:w1.heap[w.heap.size]? =some (.cells Tryz.zeroCells236 236 (0,0)):=by {
 rw[hgrow1.block _ (by simp[hsz];omega) (fun e=>by have:=hv _ e.symm;omega),Below.heap_alloc _ _ _ (by simp[hsz])];show(w0.heap.push _)[w.heap.size]? =_
 rw[<-hsz];simp};refine⟨fun j=>World.cell?_of_block (w:=w) hp,fun j=>(World.frozen?_of_block (w:=w) hp).trans (hf j),?_,?_,?_,?_,?_,?_,?_⟩
 · unfold Blk;rw[hnew]
 {
 rcases hg2 with h|h
 · intro e;subst e;exact hga h
 · omega}
 {
 rcases hg2 with h|h
 · have:=hv _ h;omega
 · omega}
 {
 obtain⟨g,cap,e,_,_,hc,_⟩:=dK hown1 (Nat.lt_succ_self bl);simp only[qP,qI,Addr.mk.injEq,and_true,true_and]at e;obtain⟨rfl,_⟩:=e;rw[hc];simp[<-hxs]}
 {
 refine⟨hgrow1.os.trans he.os,hgrow1.tape.trans he.tape,hgrow1.output.trans he.output,by have:=hgrow1.size;simp[hsz]at this;omega,fun k hk hn=>?_⟩;rw[hgrow1.block k (by simp[hsz];omega) (fun e=>hn (by simp[<-e]))];exact hb0 k hk}
 {
 rcases hg2 with h|h
 · exact .inl h
 · exact .inr (by omega)}
 · have:=hgrow1.size;simp[hsz]at this;omega
theorem oR(pa bl k slots used:Nat)(v:Value)(xs:List Value)(w:World)(h0:w.cell? ⟨pa,0,none⟩=some (.pointer (some ⟨pa,0,none⟩)))(h5:w.cell? ⟨pa,5,none⟩=some (.int .i64 (-1)))
    (h1:w.cell? ⟨pa,1,none⟩=some v) (hi:k<65536) (hk:k%64=0) (hbl:k/64=bl) (hown:w.ownsRow 0 232 1 v bl xs)
    (h3:w.cell? ⟨pa,3,none⟩=some (.int .i64 k)) (h2s:w.cell? ⟨pa,2,none⟩=some (.int .i64 slots)) (hlt:k<slots)
    (hga:v.ownBlock≠some pa) (hpa:pa<w.heap.size) (hf:∀j,w.frozen? ⟨pa,j,none⟩=false)
    (h4:w.cell? ⟨pa,4,none⟩=some (.int .i64 used)) (hu:used<65536):
    Calls Tryz.prog 172 #[.pointer (some ⟨pa,0,none⟩)] w fun e w' =>e=.returned (.tuple #[.int .i64 k,.int .i64 0]) /\
      ∃g' cap' w1 tm,w1.ownsRow 0 232 1 (.slice (some ⟨g', 0,none⟩) (bl+1) cap') (bl+1) (xs++[.pointer (some ⟨w.heap.size,0,none⟩)])/\Fr v.ownBlock.toList w w1/\Blk w1 w.heap.size 236 Tryz.zeroCells236.toList/\(v.ownBlock=some g' ∨ w.heap.size<g') /\
        Eqv w' ((((((w1.setCell ⟨pa,1,none⟩ (.slice (some ⟨g', 0,none⟩) (bl+1) cap')).setCell ⟨pa,3,none⟩ (.int .i64 (k+1))).setCell ⟨w.heap.size,0,none⟩ (.int .i64 1)).setCell ⟨w.heap.size,1,none⟩ (.int .i64 (-1))).setCell ⟨w.heap.size,2,none⟩ (.int .u64 tm)).setCell ⟨pa,4,none⟩ (.int .i64 (used+1))):=by
 have hm:((k:Int) == -1)=false:=qR.2 (by omega);have hm2:((k:Int)%64 == 0)=true:=beq_iff_eq.2 (by omega);have H1:=qA hbl;clear hbl;have H2:=qA hk;clear hk;have Hg:=qA hga;clear hga;have Hx:=qA (show xs.length=bl by have:=hown.1;omega);have hv:∀g,v.ownBlock=some g->g<w.heap.size:=fun g e=>(hown.lt g e).2;obtain⟨z0,z1,z2⟩:=aFE;simp only[<-Array.getElem?_toList]at z0 z1 z2;have hne1:¬pa=w.heap.size:=by omega
 have hne2:¬w.heap.size=pa:=by omega
 have hblm:bl<=1024:=by have:=H1.out;omega
 go_enter Tryz.func172,Tryz.ntmps172
 go_wp2_with (first|(go_at_call 144;refine(cS pa _ h0).mono ?_;rintro e w' ⟨rfl,rfl⟩)|(go_at_call 207;refine(iQ pa k slots _ h0 h5 h3 h2s hlt).mono ?_;rintro e w' ⟨rfl,nq,rfl⟩)|(at_builtin;(refine aB rfl _ _ 212 rfl 232 (.pointer none) 8 Tryz.underlying212 Tryz.info232 rfl v bl xs rfl (((Eqv.drewN w nq).owns hown).alloc _ |>.alloc _) (w.heap.size+1) (.pointer (some ⟨w.heap.size,0,none⟩)) rfl (aD _ _ _ _ (by simp)) rfl (by omega) (by decide) ?_);intro g' cap' w1 hown1 hgrow1 hg1;(obtain⟨f1,f2,f3,f4,f5,f6,f7,f8,f9⟩:=aBI pa bl v xs w _ w1 g' cap' (Eqv.drewN w nq) Hg.out hpa Hx.out hf hv hown1 hgrow1 hg1);clear hg1 hgrow1;have c0:=(f3.cell 0).trans z0;have c1:=(f3.cell 1).trans z1;have c2:=(f3.cell 2).trans z2;have c3:=f3.frozen;have F8:=qA f8;clear f8)|(go_at_call 184;refine(aBG pa g' (bl+1) cap' w.heap.size k 0 _ ?_ (by have:=H1.out;omega) hi ?_ (by have:=H2.out;omega)).mono ?_;go_simp;rw[H1.out];go_simp;rintro e w' ⟨rfl,rfl⟩))
 go_ret2;exact⟨rfl,g', cap', w1,_,hown1,f7,f3,F8.out,Eqv.refl _⟩
theorem yF(pa:Nat)(used:Int)(w:World)(h0:w.cell? ⟨pa,0,none⟩=some (.pointer (some ⟨pa,0,none⟩)))(h4:w.cell? ⟨pa,4,none⟩=some (.int .i64 used)):
    Calls Tryz.prog 98 #[.pointer (some ⟨pa,0,none⟩)] w fun e w' =>e=.returned (.int .i64 used)/\w=w' :=by
 go_enter Tryz.func98,Tryz.ntmps98
 go_wp2_with (go_at_call 144;refine(cS pa _ h0).mono ?_;rintro e w' ⟨rfl,rfl⟩)
 go_ret;exact⟨rfl,rfl⟩
theorem wO(slots:Int)(w:World)(h:slots<0∨65536<slots):
    Calls Tryz.prog 127 #[.int .i64 slots] w fun e w' =>e=.returned (.tuple #[.pointer none,.int .i64 2])/\w=w' :=by
 rcases h with h|h
 {
 have hd:decide (slots<0)=true:=qG (by omega);go_enter Tryz.func127,Tryz.ntmps127
 go_wp2
 go_ret2;exact⟨rfl,rfl⟩}
 {
 have hd:decide (slots<0)=false:=qF (by omega);have hd2:decide (65536<slots)=true:=qG (by omega);go_enter Tryz.func127,Tryz.ntmps127
 go_wp2
 go_ret2;exact⟨rfl,rfl⟩}
theorem yG(slots:Nat)(w:World)(h:slots<=65536):
    Calls Tryz.prog 127 #[.int .i64 slots] w fun e w' =>e=.returned (.tuple #[.pointer (some ⟨w.heap.size,0,none⟩),.int .i64 0]) /\
      Eqv w' (w.alloc (.cells #[.pointer (some ⟨w.heap.size,0,none⟩),.slice none 0 0,.int .i64 slots,.int .i64 0,.int .i64 0,.int .i64 (-1)] 214)):=by
 have hd:decide ((slots:Int)<0)=false:=qF (by omega);have hd2:decide (65536<(slots:Int))=false:=qF (by omega);go_enter Tryz.func127,Tryz.ntmps127
 go_wp2
 go_ret2;exact⟨rfl,rfl,rfl,rfl,rfl⟩
structure Ar where
  slots:Nat
  begun:Nat
  free:List Nat
def aBJ:List Nat->Int
  | []=>-1
  | k::_=>k
def yH(af:Nat->Int):List Nat->Prop
  | []=>True
  | k::r=>af k=aBJ r/\yH af r
structure Ar.ok (A:Ar):Prop where
  hs:A.slots<=65536
  hb:A.begun<=A.slots
  nd:A.free.Nodup
  lt:∀k∈A.free,k<A.begun
def Ar.used(A:Ar):Nat:=A.begun-A.free.length
def Ar.isUsed(A:Ar)(i:Nat):Prop:=i<A.begun/\i∉A.free
def Ar.next(A:Ar):Option Nat:=match A.free with
  | k::_=>some k
  | []=>if A.begun<A.slots then some A.begun else none
def Ar.alloc(A:Ar):Ar:=match A.free with
  | _::r=>{ A with free:=r }
  | []=>{ A with begun:=A.begun+1 }
def Ar.new(slots:Nat):Ar:={ slots:=slots,begun:=0,free:=[] }
def upd(f:Nat->Int)(i:Nat)(x:Int):Nat->Int:=fun j=>if j=i then x else f j
theorem nO{l:List Nat}{n:Nat}(nd:l.Nodup)(h:∀k∈l,k<n):l.length<=n:=by
 induction n generalizing l with
 | zero=>cases l with
   | nil=>simp
   | cons a r=>exact absurd (h a (by simp)) (by omega)
 | succ n ih=>{
 have h1:(l.filter (·≠ n)).length<=n:=by {
 refine ih (nd.filter _) ?_;intro k hk;simp only[zA,decide_eq_true_eq,ne_eq]at hk;have:=h k hk.1;omega};have h2:l.length<=(l.filter (·≠ n)).length+1:=by {
 clear h h1 ih;induction l with
 | nil=>simp
 | cons a r ihr=>{
 simp only[qO]at nd;by_cases e:a=n
 {
 subst e;have:r.filter (·≠ a)=r:=List.filter_eq_self.2 (fun x hx=>by simp;intro e;subst e;exact nd.1 hx);simp only[List.filter_cons];simp only[ne_eq,not_true_eq_false,decide_false,Bool.false_eq_true,if_false]at *;rw[this];simp}
 {
 have:=ihr nd.2;simp only[List.filter_cons,ne_eq,e,not_false_eq_true,decide_true,if_true,qZ]at *;omega}}};omega}
theorem Ar.ok.len{A:Ar}(h:A.ok):A.free.length<=A.begun:=nO h.nd h.lt
def cD(w:World)(bs:List Nat)(st af:Nat->Int):Prop:=
  ∀(j:Nat) (b:Nat),bs[j]? =some b->∃cs:List Value,Blk w b 236 cs/\∀r,r<64->cs[r*3]? =some (.int .i64 (st (64*j+r)))/\cs[r*3+1]? =some (.int .i64 (af (64*j+r)))/\(∃t:Int,cs[r*3+2]? =some (.int .u64 t))/\cs.length=192
theorem cD.same{w w' :World}{bs:List Nat}{st af:Nat->Int}(h:cD w bs st af)(hs:∀b∈bs,w'.heap[b]? =w.heap[b]?):cD w' bs st af:=by
 intro j b hj;obtain⟨cs,h1,h2⟩:=h j b hj;exact⟨cs,h1.of_same (hs b (List.mem_of_getElem? hj)),h2⟩
theorem cD.other{w:World}{bs:List Nat}{st af:Nat->Int}(h:cD w bs st af)(a:Addr)(u:Value)(hn:a.block∉bs):cD (w.setCell a u) bs st af:=
  h.same fun _b hb=>Below.heap_setCell _ _ _ _ (fun e=>hn (e▸hb))
theorem oS{l:List Nat}(nd:l.Nodup){i j:Nat}{b:Nat}(hi:l[i]? =some b)(hj:l[j]? =some b):i=j:=by
 obtain⟨h1,e1⟩:=qT.1 hi;obtain⟨h2,e2⟩:=qT.1 hj;rcases Nat.lt_trichotomy i j with h|h|h
 · exact absurd (e1.trans e2.symm) (List.pairwise_iff_getElem.1 nd i j h1 h2 h)
 · exact h
 · exact absurd (e2.trans e1.symm) (List.pairwise_iff_getElem.1 nd j i h2 h1 h)
section
variable {w:World} {bs:List Nat} {st af:Nat->Int} {b i:Nat}
theorem cD.set0(h:cD w bs st af)(nd:bs.Nodup)(hb:bs[i/64]? =some b)(x:Int):
    cD (w.setCell ⟨b,i%64*3,none⟩ (.int .i64 x)) bs (upd st i x) af:=by
 intro j b' hj;obtain⟨cs,h1,h2⟩:=h j b' hj;by_cases e:b' =b
 {
 subst e;obtain rfl:j=i/64:=oS nd hj hb;refine⟨_,h1.set _ _,fun r hr=>?_⟩;obtain⟨a1,a2,a3,a4⟩:=h2 r hr;have hi:=h2 (i%64) (by omega);have hlen:i%64*3<cs.length:=(qT.1 hi.1).1;refine⟨?_,?_,?_,by simpa using a4⟩
 {
 simp only[List.getElem?_set,upd];by_cases er:r=i%64
 · subst er;rw[qD rfl,qD hlen,qD (by omega)]
 · rw[qC (by omega),qC (by omega)];exact a1}
 · simp only[List.getElem?_set];rw[qC (by omega)];exact a2
 · simp only[List.getElem?_set];rw[qC (by omega)];exact a3}
 {
 refine⟨cs,h1.other _ _ e,fun r hr=>?_⟩;obtain⟨a1,a2,a3,a4⟩:=h2 r hr;refine⟨?_,a2,a3,a4⟩;rw[a1];simp only[upd];rw[qC];intro e2;apply e;have:j=i/64:=by omega
 rw[this,hb]at hj;simpa using hj.symm}
theorem cD.set1(h:cD w bs st af)(nd:bs.Nodup)(hb:bs[i/64]? =some b)(x:Int):
    cD (w.setCell ⟨b,i%64*3+1,none⟩ (.int .i64 x)) bs st (upd af i x):=by
 intro j b' hj;obtain⟨cs,h1,h2⟩:=h j b' hj;by_cases e:b' =b
 {
 subst e;obtain rfl:j=i/64:=oS nd hj hb;refine⟨_,h1.set _ _,fun r hr=>?_⟩;obtain⟨a1,a2,a3,a4⟩:=h2 r hr;have hi:=h2 (i%64) (by omega);have hlen:i%64*3+1<cs.length:=(qT.1 hi.2.1).1;refine⟨?_,?_,?_,by simpa using a4⟩
 · simp only[List.getElem?_set];rw[qC (by omega)];exact a1
 {
 simp only[List.getElem?_set,upd];by_cases er:r=i%64
 · subst er;rw[qD rfl,qD hlen,qD (by omega)]
 · rw[qC (by omega),qC (by omega)];exact a2}
 · simp only[List.getElem?_set];rw[qC (by omega)];exact a3}
 {
 refine⟨cs,h1.other _ _ e,fun r hr=>?_⟩;obtain⟨a1,a2,a3,a4⟩:=h2 r hr;refine⟨a1,?_,a3,a4⟩;rw[a2];simp only[upd];rw[qC];intro e2;apply e;have:j=i/64:=by omega
 rw[this,hb]at hj;simpa using hj.symm}
theorem cD.set2(h:cD w bs st af)(nd:bs.Nodup)(hb:bs[i/64]? =some b)(x:Int):
    cD (w.setCell ⟨b,i%64*3+2,none⟩ (.int .u64 x)) bs st af:=by
 intro j b' hj;obtain⟨cs,h1,h2⟩:=h j b' hj;by_cases e:b' =b
 {
 subst e;obtain rfl:j=i/64:=oS nd hj hb;refine⟨_,h1.set _ _,fun r hr=>?_⟩;obtain⟨a1,a2,a3,a4⟩:=h2 r hr;obtain⟨t,a3⟩:=a3;refine⟨?_,?_,?_,by simpa using a4⟩
 · simp only[List.getElem?_set];rw[qC (by omega)];exact a1
 · simp only[List.getElem?_set];rw[qC (by omega)];exact a2
 {
 simp only[List.getElem?_set];by_cases er:i%64*3+2=r*3+2
 · rw[qD er,qD (by have:=(qT.1 a3).1;omega)];exact⟨x,rfl⟩
 · rw[qC er];exact⟨t,a3⟩}}
 · exact⟨cs,h1.other _ _ e,h2⟩
end
abbrev ptr(b:Nat):Value:=.pointer (some ⟨b,0,none⟩)
def bB(w:World)(pa:Nat)(A:Ar)(l:List Nat):Prop:=
  ∃(v:Value) (bs:List Nat) (st af:Nat->Int),
    Blk w pa 214 [ptr pa,v,.int .i64 A.slots,.int .i64 A.begun,.int .i64 A.used,.int .i64 (aBJ A.free)] /\
    w.ownsRow 0 232 1 v bs.length (bs.map ptr)/\cD w bs st af/\l=pa::(v.ownBlock.toList++bs)/\l.Nodup /\
    bs.length=(A.begun+63)/64/\A.ok/\((∀i,i<A.begun->i∈A.free->st i=2)/\(∀i,i<A.begun->i∉A.free->st i=1))/\yH af A.free
theorem bB.ok{w:World}{pa:Nat}{A:Ar}{l:List Nat}(h:bB w pa A l):A.ok:=by
 obtain⟨_,_,_,_,_,_,_,_,_,_,h,_⟩:=h;exact h
theorem bB.same{w w' :World}{pa:Nat}{A:Ar}{l:List Nat}(h:bB w pa A l)(hs:∀b∈l,w'.heap[b]? =w.heap[b]?):bB w' pa A l:=by
 obtain⟨v,bs,st,af,h1,h2,h3,rfl,r⟩:=h;refine⟨v,bs,st,af,h1.of_same (hs pa (by simp)),aU h2 (fun k hk=>hs k (by simp[hk])),h3.same (fun b hb=>hs b (by simp[hb])),rfl,r⟩
theorem bB.lt{w:World}{pa:Nat}{A:Ar}{l:List Nat}(h:bB w pa A l):∀b∈l,b<w.heap.size:=by
 obtain⟨v,bs,st,af,h1,h2,h3,rfl,r⟩:=h;intro b hb;simp only[qB,qE,Option.mem_toList]at hb;rcases hb with rfl|hb|hb
 · exact h1.lt
 · exact(h2.lt b hb).2
 {
 obtain⟨j,hj⟩:=List.getElem?_of_mem hb;obtain⟨cs,hc,_⟩:=h3 j b hj;exact hc.lt}
theorem bB.slot{w:World}{pa:Nat}{v:Value}{bs:List Nat}{st af:Nat->Int}{n k:Nat}(h2:w.ownsRow 0 232 1 v bs.length (bs.map ptr))(h3:cD w bs st af)
    (hnd:(pa::(v.ownBlock.toList++bs)).Nodup) (_hl:bs.length=(n+63)/64) (hk:k/64<bs.length):
    ∃g cap b tm,v=.slice (some ⟨g,0,none⟩) bs.length cap/\bs[k/64]? =some b/\g≠pa/\g≠b/\b≠pa/\w.cell? ⟨g,k/64,none⟩=some (.pointer (some ⟨b,0,none⟩)) /\
      w.cell? ⟨b,k%64*3,none⟩=some (.int .i64 (st k))/\w.cell? ⟨b,k%64*3+1,none⟩=some (.int .i64 (af k))/\w.cell? ⟨b,k%64*3+2,none⟩=some (.int .u64 tm)/\(∀j,w.frozen? ⟨b,j,none⟩=false):=by
 obtain⟨g,cap,rfl,_,_,hc,_⟩:=dK h2 hk;obtain⟨b,hb⟩:∃b,bs[k/64]? =some b:=⟨_,qL hk⟩;obtain⟨cs,hB,hr⟩:=h3 _ _ hb;obtain⟨r1,r2,⟨tm,r3⟩,_⟩:=hr (k%64) (by omega);have ek:64*(k/64)+k%64=k:=by omega
 rw[ek]at r1 r2;have hbm:=List.mem_of_getElem? hb;simp only[Value.ownBlock,Option.toList_some,zC,List.nil_append,qO,qB,not_or]at hnd;refine⟨g,cap,b,tm,rfl,hb,fun e=>hnd.1.1 e.symm,fun e=>hnd.2.1 (e▸hbm),fun e=>hnd.1.2 (e▸hbm),?_,?_,?_,?_,fun j=>hB.frozen j⟩
 · rw[hc];simp[hb,ptr]
 · rw[hB.cell];exact r1
 · rw[hB.cell];exact r2
 · rw[hB.cell];exact r3
theorem yH.other{af:Nat->Int}{l:List Nat}{k:Nat}{x:Int}(h:yH af l)(hk:k∉l):yH (upd af k x) l:=by
 induction l with
 | nil=>trivial
 | cons a r ih=>{
 simp only[qB,not_or]at hk;refine⟨?_,ih h.2 hk.2⟩;simp only[upd];rw[qC (fun e=>hk.1 e.symm)];exact h.1}
theorem oT{w:World}{pa:Nat}{A:Ar}{l:List Nat}(h:bB w pa A l)(hn:A.next=none):
    Calls Tryz.prog 172 #[ptr pa] w fun e w' =>e=.returned (.tuple #[.int .i64 0,.int .i64 4])/\Eqv w' w:=by
 obtain⟨v,bs,st,af,h1,h2,h3,rfl,hnd,hl,hok,hst,hch⟩:=h;obtain⟨slots,begun,free⟩:=A;cases free with
 | cons k r=>simp[Ar.next]at hn
 | nil=>{
 simp only[Ar.next]at hn;have hlt:slots<=begun:=by {
 by_cases hh:begun<slots
 · rw[qD hh]at hn;cases hn
 · omega};refine(oP pa begun slots w (h1.cell 0) (h1.cell 5) (h1.cell 3) (h1.cell 2) hlt).mono ?_;rintro e w' ⟨rfl,n,rfl⟩;exact⟨rfl,Eqv.drewN w n⟩}
theorem iR{w:World}{pa:Nat}{A:Ar}{l:List Nat}{i:Nat}(h:bB w pa A l)(hn:A.next=some i):
    Calls Tryz.prog 172 #[ptr pa] w fun e w' =>e=.returned (.tuple #[.int .i64 i,.int .i64 0]) /\
      ∃l', bB w' pa A.alloc l' /\ Fr l w w' /\ ∀b∈l', b∈l∨w.heap.size<=b:=by
 have hlt:=h.lt;obtain⟨v,bs,st,af,h1,h2,h3,rfl,hnd,hl,hok,hst,hch⟩:=h;have hlen:=hok.len;obtain⟨slots,begun,free⟩:=A;have hs:=hok.hs;have hb:=hok.hb;dsimp only at *
 have hndb:bs.Nodup:=by simp only[qO,qN]at hnd;exact hnd.2.2.1
 have hpab:pa∉bs:=by intro hm;simp only[qO]at hnd;exact hnd.1 (by simp[hm])
 have hpav:v.ownBlock≠some pa:=by intro hm;simp only[qO]at hnd;exact hnd.1 (by simp[hm])
 cases free with
 | cons k r=>{
 obtain rfl:k=i:=by simpa[Ar.next] using hn
 have hkb:k<begun:=hok.lt k (by simp);obtain⟨g,cap,b,tm,rfl,hbk,hg1,hg2,hbp,c1,c2,c3,c4,hfz⟩:=bB.slot h2 h3 hnd hl (show k/64<bs.length by omega);have hbm:=List.mem_of_getElem? hbk;refine(oQ pa g bs.length cap b k (Ar.used ⟨slots,begun,k::r⟩) (af k) tm (st k) w hbp (h1.cell 0) (h1.cell 5) (h1.cell 1) (by omega) (by omega) hg1 hg2 h1.frozen hfz c1 (h1.cell 4) (by simp only[Ar.used];simp at hlen;simp;omega) c2 c3 c4).mono ?_;rintro e w' ⟨rfl,tm', he⟩;refine⟨rfl,_,⟨_,bs,upd st k 1,upd af k (-1),?_,?_,?_,rfl,hnd,?_,?_,?_,?_⟩,?_,fun b hb=>.inl hb⟩
 {
 have hh:=he.blk (((((h1.set 5 (.int .i64 (af k))).other ⟨b,k%64*3,none⟩ (.int .i64 1) (fun e=>hbp e.symm)).other ⟨b,k%64*3+1,none⟩ (.int .i64 (-1)) (fun e=>hbp e.symm)).other ⟨b,k%64*3+2,none⟩ (.int .u64 tm') (fun e=>hbp e.symm)).set 4 (.int .i64 ((Ar.used ⟨slots,begun,k::r⟩:Nat)+1)));have e1:af k=aBJ r:=hch.1;have e2:(((Ar.used ⟨slots,begun,k::r⟩:Nat):Int)+1)=((Ar.used (Ar.alloc ⟨slots,begun,k::r⟩):Nat):Int):=by simp only[Ar.used,Ar.alloc,qZ]at *;omega
 rw[e2,e1]at hh;exact hh}
 {
 refine he.owns (aU h2 fun q hq=>?_);simp only[Value.ownBlock,qI]at hq;subst hq;rw[Below.heap_setCell _ _ _ _ hg1,Below.heap_setCell _ _ _ _ hg2,Below.heap_setCell _ _ _ _ hg2,Below.heap_setCell _ _ _ _ hg2,Below.heap_setCell _ _ _ _ hg1]}
 · exact cD.same (((((h3.other ⟨pa,5,none⟩ (.int .i64 (af k)) hpab).set0 hndb hbk 1).set1 hndb hbk (-1)).set2 hndb hbk tm').other ⟨pa,4,none⟩ _ hpab) (fun b _=>by rw[he.heap])
 · exact hl
 · exact⟨hs,hb,by have:=hok.nd;simp at this;exact this.2,fun x hx=>hok.lt x (by simp[Ar.alloc]at hx;simp[hx])⟩
 {
 have hnr:k∉r:=by have:=hok.nd;simp at this;exact this.1
 refine⟨fun j hj hm=>?_,fun j hj hm=>?_⟩<;>simp only[upd,Ar.alloc]at hj hm ⊢
 · rw[qC (show ¬j=k by rintro rfl;exact hnr hm)];exact hst.1 j hj (by simp[hm])
 {
 by_cases e:j=k
 · rw[qD e]
 · rw[qC e];exact hst.2 j hj (by simp[e,hm])}}
 {
 have hnr:k∉r:=by have:=hok.nd;simp at this;exact this.1
 exact hch.2.other hnr}
 · refine he.fr (((((Fr.refl _ _).setCell _ _ ?_).setCell _ _ ?_).setCell _ _ ?_).setCell _ _ ?_ |>.setCell _ _ ?_)<;>simp[hbm]}
 | nil=>{
 have hlt2:begun<slots:=by {
 simp only[Ar.next]at hn;by_cases hh:begun<slots
 · exact hh
 · rw[qC hh]at hn;cases hn};obtain rfl:begun=i:=by simpa[Ar.next,hlt2] using hn
 by_cases hk:begun%64=0
 {
 have hu:Ar.used ⟨slots,begun,[]⟩=begun:=by simp[Ar.used]
 have h4:=h1.cell 4;refine(oR pa bs.length begun slots (Ar.used ⟨slots,begun,[]⟩) v (bs.map ptr) w (h1.cell 0) (h1.cell 5) (h1.cell 1) (by omega) hk (by omega) h2 (h1.cell 3) (h1.cell 2) hlt2 hpav h1.lt h1.frozen h4 (by omega)).mono ?_;rintro e w' ⟨rfl,g', cap', w1,tm,hown1,hfr,hnb,hg', he⟩;have hpa:=h1.lt;have hvl:∀q,v.ownBlock=some q->q<w.heap.size:=fun q hq=>(h2.lt q hq).2;have hbl:∀q∈bs,q<w.heap.size:=fun q hq=>hlt q (by simp[hq]);have hne:g' ≠ pa:=by rcases hg' with hg' | hg'; exact fun e=>hpav (e▸hg');omega
 have hne2:g' ≠ w.heap.size:=by rcases hg' with hg' | hg'; have:=hvl _ hg'; omega;omega
 have hb1:Blk w1 pa 214 _:=hfr.blk h1 (by simpa using hpav);have hndr:∀q∈bs,v.ownBlock≠some q:=by {
 intro q hq e;simp only[qO,qN,e]at hnd;exact hnd.2.2.2 q (by simp) q hq rfl};refine⟨rfl,pa::([g']++(bs++[w.heap.size])),⟨.slice (some ⟨g', 0,none⟩) (bs.length+1) cap', bs++[w.heap.size],upd (fun j=>if j<begun then st j else 0) begun 1,upd (fun j=>if j<begun then af j else 0) begun (-1),?_,?_,?_,rfl,?_,?_,?_,?_,?_⟩,?_,?_⟩
 {
 have hh:=he.blk ((((((hb1.set 1 (.slice (some ⟨g', 0,none⟩) (bs.length+1) cap')).set 3 (.int .i64 (begun+1))).other ⟨w.heap.size,0,none⟩ (.int .i64 1) (by simp;omega)).other ⟨w.heap.size,1,none⟩ (.int .i64 (-1)) (by simp;omega)).other ⟨w.heap.size,2,none⟩ (.int .u64 tm) (by simp;omega)).set 4 (.int .i64 ((Ar.used ⟨slots,begun,[]⟩:Nat)+1)));have e2:(((Ar.used ⟨slots,begun,[]⟩:Nat):Int)+1)=((Ar.used (Ar.alloc ⟨slots,begun,[]⟩):Nat):Int):=by simp[Ar.used,Ar.alloc]
 rw[e2]at hh;exact hh}
 {
 refine he.owns (aU (w:=w1) ?_ fun q hq=>?_)
 · simpa[ptr] using hown1
 {
 simp only[Value.ownBlock,qI]at hq;subst hq;rw[Below.heap_setCell _ _ _ _ hne,Below.heap_setCell _ _ _ _ hne2,Below.heap_setCell _ _ _ _ hne2,Below.heap_setCell _ _ _ _ hne2,Below.heap_setCell _ _ _ _ hne,Below.heap_setCell _ _ _ _ hne]}}
 {
 intro j b hj;have hjl:j<bs.length+1:=by have:=(qT.1 hj).1;simpa using this
 by_cases ej:j<bs.length
 {
 rw[List.getElem?_append_left ej]at hj;obtain⟨cs,a1,a2⟩:=h3 j b hj;have hbm:=List.mem_of_getElem? hj;have n1:b≠pa:=fun e=>hpab (e▸hbm);have n2:b≠w.heap.size:=by have:=hbl b hbm;omega
 have a1' :Blk w1 b 236 cs:=hfr.blk a1 (by simpa using hndr b hbm);refine⟨cs,he.blk ((((((a1'.other _ _ n1).other _ _ n1).other _ _ n2).other _ _ n2).other _ _ n2).other _ _ n1),fun r hr=>?_⟩;have hlt3:64*j+r<begun:=by omega
 obtain⟨b1,b2,b3⟩:=a2 r hr;have hne3:¬64*j+r=begun:=by omega
 simp only[upd,qC hne3,qD hlt3];exact⟨b1,b2,b3⟩}
 {
 obtain rfl:j=bs.length:=by omega
 simp at hj;subst hj;refine⟨_,he.blk ((((((hnb.other ⟨pa,1,none⟩ _ (by simp;omega)).other ⟨pa,3,none⟩ _ (by simp;omega)).set 0 (.int .i64 1)).set 1 (.int .i64 (-1))).set 2 (.int .u64 tm)).other ⟨pa,4,none⟩ _ (by simp;omega)),fun r hr=>?_⟩;obtain⟨z1,z2,z3⟩:=aBH r hr;have hl0:=rX;simp only[upd,List.getElem?_set,List.length_set];by_cases er:r=0
 {
 subst er;have e0:64*bs.length+0=begun:=by omega
 simp[e0,hl0]}
 {
 rw[qC (show ¬2=r*3 by omega),qC (show ¬1=r*3 by omega),qC (show ¬0=r*3 by omega),qC (show ¬2=r*3+1 by omega),qC (show ¬1=r*3+1 by omega),qC (show ¬0=r*3+1 by omega),
   qC (show ¬2=r*3+2 by omega),qC (show ¬1=r*3+2 by omega),qC (show ¬0=r*3+2 by omega)]
 have hne3:¬64*bs.length+r=begun:=by omega
 have hge3:¬64*bs.length+r<begun:=by omega
 simp only[qC hne3,qC hge3];exact⟨z1,z2,⟨_,z3⟩,hl0⟩}}}
 {
 simp only[qO,qN,qE,qB,List.not_mem_nil,or_false,not_or]at hnd ⊢;refine⟨⟨fun e=>hne e.symm,hpab,by omega⟩,by simp,⟨hndb,by simp,?_⟩,?_⟩
 · rintro a ha b rfl;have:=hbl a ha;omega
 {
 rintro a rfl b (hb|rfl)
 {
 rcases hg' with hg' | hg'
 · intro e;exact hndr b hb (e▸hg')
 · have:=hbl b hb;omega}
 · exact hne2}}
 · simp[Ar.alloc];omega
 · exact⟨hs,by simp[Ar.alloc];omega,by simp[Ar.alloc],by simp[Ar.alloc]⟩
 {
 refine⟨fun j hj hm=>by simp[Ar.alloc]at hm,fun j hj _=>?_⟩;simp only[Ar.alloc,upd]at hj ⊢;by_cases e:j=begun
 · rw[qD e]
 · rw[qC e,qD (by omega)];exact hst.2 j (by omega) (by simp)}
 · trivial
 {
 have f1:Fr (pa::(v.ownBlock.toList++bs)) w w1:=hfr.mono (fun b hb=>.inl (by simp at hb;simp[hb]));refine he.fr ((((((f1.setCell _ _ ?_).setCell _ _ ?_).setCell _ _ ?_).setCell _ _ ?_).setCell _ _ ?_).setCell _ _ ?_)<;>simp}
 {
 intro b hb;simp only[qB,qE,List.not_mem_nil,or_false]at hb ⊢;rcases hb with rfl|rfl|hb|rfl
 · exact .inl (.inl rfl)
 {
 rcases hg' with hg' | hg'
 · exact .inl (.inr (.inl (by simp[hg'])))
 · exact .inr (by omega)}
 · exact .inl (.inr (.inr hb))
 · exact .inr (qK _)}}
 {
 obtain⟨g,cap,b,tm,rfl,hbk,hg1,hg2,hbp,c1,c2,c3,c4,hfz⟩:=bB.slot h2 h3 hnd hl (show begun/64<bs.length by omega);have hbm:=List.mem_of_getElem? hbk;refine(nN pa g bs.length cap b begun slots (Ar.used ⟨slots,begun,[]⟩) (af begun) tm (st begun) w hbp (h1.cell 0) (h1.cell 5) (h1.cell 1) (by omega) (by omega) (by omega) (h1.cell 3) (h1.cell 2) hlt2 hg1 hg2 h1.frozen hfz c1 (h1.cell 4) (by simp only[Ar.used];simp;omega) c2 c3 c4).mono ?_;rintro e w' ⟨rfl,tm', he⟩;refine⟨rfl,_,⟨_,bs,upd st begun 1,upd af begun (-1),?_,?_,?_,rfl,hnd,?_,?_,?_,?_⟩,?_,fun b hb=>.inl hb⟩
 {
 have hh:=he.blk (((((h1.set 3 (.int .i64 (begun+1))).other ⟨b,begun%64*3,none⟩ (.int .i64 1) (fun e=>hbp e.symm)).other ⟨b,begun%64*3+1,none⟩ (.int .i64 (-1)) (fun e=>hbp e.symm)).other ⟨b,begun%64*3+2,none⟩ (.int .u64 tm') (fun e=>hbp e.symm)).set 4 (.int .i64 ((Ar.used ⟨slots,begun,[]⟩:Nat)+1)));have e2:(((Ar.used ⟨slots,begun,[]⟩:Nat):Int)+1)=((Ar.used (Ar.alloc ⟨slots,begun,[]⟩):Nat):Int):=by simp[Ar.used,Ar.alloc]
 rw[e2]at hh;exact hh}
 {
 refine he.owns (aU h2 fun q hq=>?_);simp only[Value.ownBlock,qI]at hq;subst hq;rw[Below.heap_setCell _ _ _ _ hg1,Below.heap_setCell _ _ _ _ hg2,Below.heap_setCell _ _ _ _ hg2,Below.heap_setCell _ _ _ _ hg2,Below.heap_setCell _ _ _ _ hg1]}
 · exact cD.same (((((h3.other ⟨pa,3,none⟩ _ hpab).set0 hndb hbk 1).set1 hndb hbk (-1)).set2 hndb hbk tm').other ⟨pa,4,none⟩ _ hpab) (fun b _=>by rw[he.heap])
 · simp[Ar.alloc];omega
 · exact⟨hs,by simp[Ar.alloc];omega,by simp[Ar.alloc],by simp[Ar.alloc]⟩
 {
 refine⟨fun j hj hm=>by simp[Ar.alloc]at hm,fun j hj _=>?_⟩;simp only[Ar.alloc,upd]at hj ⊢;by_cases e:j=begun
 · rw[qD e]
 · rw[qC e];exact hst.2 j (by omega) (by simp)}
 · trivial
 · refine he.fr (((((Fr.refl _ _).setCell _ _ ?_).setCell _ _ ?_).setCell _ _ ?_).setCell _ _ ?_ |>.setCell _ _ ?_)<;>simp[hbm]}}
theorem oU{w:World}{pa:Nat}{A:Ar}{l:List Nat}(h:bB w pa A l):
    Calls Tryz.prog 98 #[ptr pa] w fun e w' =>e=.returned (.int .i64 A.used)/\w=w' :=by
 obtain⟨v,bs,st,af,h1,_⟩:=h;exact yF pa _ w (h1.cell 0) (h1.cell 4)
theorem uR(slots:Nat)(w:World)(h:slots<=65536):
    Calls Tryz.prog 127 #[.int .i64 slots] w fun e w' =>e=.returned (.tuple #[ptr w.heap.size,.int .i64 0])/\bB w' w.heap.size (Ar.new slots) [w.heap.size]/\Fr [] w w' :=by
 refine(yG slots w h).mono ?_;rintro e w' ⟨rfl,he⟩;refine⟨rfl,⟨_,[],fun _=>0,fun _=>0,he.blk (Blk.new w [ptr w.heap.size,.slice none 0 0,.int .i64 slots,.int .i64 0,.int .i64 0,.int .i64 (-1)] _),World.ownsRow_nil _ _ _ _,?_,rfl,by simp,by simp[Ar.new],⟨h,by simp[Ar.new],by simp[Ar.new],by simp[Ar.new]⟩,by simp[Ar.new],trivial⟩,he.fr ((Fr.refl _ _).alloc _)⟩;intro j b hj;simp at hj
theorem yI(j:Nat)(hj:j<63)(x:Int):((BitVec.ofInt 64 x &&& BitVec.ofInt 64 ((2:Int) ^ j-1)).toNat:Int)=x%(2:Int) ^ j:=by
 have hp:2 ^ j<2 ^ 63:=Nat.pow_lt_pow_right (by decide) hj;have hp0:0<2 ^ j:=Nat.two_pow_pos j;have hc:((2:Int) ^ j-1)=((2 ^ j-1:Nat):Int):=by rw[Int.natCast_sub hp0];simp
 have hd:((2:Int) ^ j)∣((2 ^ 64:Nat):Int):=⟨(2:Int) ^ (64-j),by rw[<-Int.pow_add];rw[show j+(64-j)=64 by omega];simp⟩;rw[hc,BitVec.toNat_and,BitVec.ofInt_natCast,BitVec.toNat_ofNat,Nat.mod_eq_of_lt (show 2 ^ j-1<2 ^ 64 by omega),Nat.and_two_pow_sub_one_eq_mod,BitVec.toNat_ofInt];rw[Int.natCast_emod,Int.toNat_of_nonneg (Int.emod_nonneg _ (by decide))];simp only[Int.natCast_pow,Int.cast_ofNat_Int]at *;exact Int.emod_emod_of_dvd x hd
theorem aHN(j:Nat)(hj:j<63)(x:Int):bits .and .i64 x ((2:Int) ^ j-1)=x%(2:Int) ^ j:=by
 have hp:(2:Int) ^ j<2 ^ 63:=by exact_mod_cast Nat.pow_lt_pow_right (by decide) hj
 have hp0:(0:Int)<2 ^ j:=by exact_mod_cast Nat.two_pow_pos j
 have h1:=Int.emod_nonneg x (show(2:Int) ^ j≠0 by omega);have h2:=Int.emod_lt_of_pos x hp0;show IntKind.i64.wrap ((BitVec.ofInt 64 x &&& BitVec.ofInt 64 ((2:Int) ^ j-1)).toNat:Int)=_
 rw[yI j hj,IntKind.wrap_i64];generalize (2:Int) ^ j=m at *;generalize x%m=y at *;omega
theorem aBK(j:Nat)(hj:j<63)(x:Int):bits .and .u64 x ((2:Int) ^ j-1)=x%(2:Int) ^ j:=by
 have hp:(2:Int) ^ j<2 ^ 63:=by exact_mod_cast Nat.pow_lt_pow_right (by decide) hj
 have hp0:(0:Int)<2 ^ j:=by exact_mod_cast Nat.two_pow_pos j
 have h1:=Int.emod_nonneg x (show(2:Int) ^ j≠0 by omega);have h2:=Int.emod_lt_of_pos x hp0;show IntKind.u64.wrap ((BitVec.ofInt 64 x &&& BitVec.ofInt 64 ((2:Int) ^ j-1)).toNat:Int)=_
 rw[yI j hj,IntKind.wrap_u64];generalize (2:Int) ^ j=m at *;generalize x%m=y at *;omega
structure wP (n:Nat):Prop where
  pos:1<n
  le:n<=131072
  i64:∀x:Int,bits .and .i64 x ((n:Int)-1)=x%n
  u64:∀x:Int,bits .and .u64 x ((n:Int)-1)=x%n
theorem wP.mk' (j:Nat)(h0:1<=j)(h1:j<=17):wP (2 ^ j):=by
 have hp:2 ^ j<=2 ^ 17:=Nat.pow_le_pow_right (by decide) h1;have hp0:2 ^ 1<=2 ^ j:=Nat.pow_le_pow_right (by decide) h0;refine⟨by omega,by omega,fun x=>?_,fun x=>?_⟩
 · have:=aHN j (by omega) x;simpa using this
 · have:=aBK j (by omega) x;simpa using this
def mix1(id:Int):Int:=IntKind.u64.wrap (bits BinOp.xor IntKind.u64 id (id/8589934592)*18397679294719823053)
def mix2(x:Int):Int:=IntKind.u64.wrap (bits BinOp.xor IntKind.u64 x (x/8589934592)*14181476777654086739)
def mix3(y:Int):Int:=bits BinOp.xor IntKind.u64 y (y/8589934592)
def hsh(id:Int):Int:=mix3 (mix2 (mix1 id))
def hm(n:Nat)(id:Nat):Nat:=(hsh id%n).toNat
theorem aHO{n:Nat}(h:0<n)(id:Nat):hm n id<n:=by
 unfold hm;have:=Int.emod_lt_of_pos (hsh id) (show(0:Int)<n by omega);have:=Int.emod_nonneg (hsh id) (show(n:Int)≠0 by omega);omega
theorem aMQ{n:Nat}(h:0<n)(id:Nat):(hsh id%n)=(hm n id:Int):=by
 unfold hm;have:=Int.emod_nonneg (hsh id) (show(n:Int)≠0 by omega);omega
theorem aQB(pt g n cap:Nat)(id:Nat)(w:World)(h3:w.cell? ⟨pt,3,none⟩=some (.slice (some ⟨g,0,none⟩) n cap))(_h1:id<18446744073709551616)(hM:wP n):
    Calls Tryz.prog 222 #[.pointer (some ⟨pt,0,none⟩),.int .u64 id] w fun e w' =>e=.returned (.int .i64 (hm n id))/\w=w' :=by
 have hn:=hM.pos;have hn2:=hM.le;have hu:=hM.u64;have hw:∀x:Int,wrap64 (x%n)=x%n:=fun x=>by
   have h1:=Int.emod_lt_of_pos x (show(0:Int)<n by omega);have h2:=Int.emod_nonneg x (show(n:Int)≠0 by omega);exact IntWalk.wrap64_in _ ⟨by omega,by omega⟩
 go_enter Tryz.func222,Tryz.ntmps222
 go_wp2
 go_ret;refine⟨aDO (k:=.i64) ?_,rfl⟩;rw[<-aMQ (by omega)];unfold hsh mix3 mix2 mix1;first|exact hw _|exact rfl
section
variable {F:Fence} {n:Nat} {P:Program} {ops:Array Oper} {md:Region.Mode} {C:World->Prop}
theorem yJ(ro:Option Nat)(ρ:Operand->Value)(o:Oper)(h:∀c,o.op≠.defer c):Oper.semAt ro ρ o=execOp ρ o:=by
 cases ro with
 | none=>exact Oper.semAt_none ρ o
 | some l=>exact Oper.semAt_some l ρ o h
theorem aHP{o:Oper}{a:Act}{K:Act->Prop}{K' :Act->World->Prop}{Q' :Exit->Act->World->Prop}{w:World}(hd:∀c,o.op≠.defer c)(hw:C w)(h:∀a w', C w' -> K a->K' a w')
    (ha:o.askedIn F P a C) (hh:o.quietIn F n P a C K):o.wpIn F n P a w K' Q' :=by
 obtain⟨v,h1,h2⟩:=hh;have h3:=h1 w hw;unfold Oper.quietAtIn at h3;refine⟨ha w hw,?_⟩;rw[yJ _ _ _ hd];generalize (execOp a.eval o).run P w=r at *;cases r with
 | halt x w' =>exact h3.elim
 | ok x w' =>{
 cases x with
 | value u=>obtain⟨rfl,rfl⟩:=h3;exact h _ _ hw h2
 | skip=>obtain⟨rfl,rfl⟩:=h3;exact h _ _ hw h2
 | enter f args=>obtain⟨rfl,hd,hc⟩:=h3;exact⟨hd,hc.mono fun e w'' ⟨he,hw''⟩=>by subst he;exact h _ _ hw'' h2⟩
 | _=>exact h3.elim}
theorem aBL{i:Nat}{a:Act}{K:Act->Prop}{K' :Act->World->Prop}{Q' :Exit->Act->World->Prop}{w:World}(hd:∀o∈ops.toList,∀c,o.op≠.defer c)(hC:C w)(h:∀a w', C w' -> K a->K' a w')
    (hh:qOpIn F n P ops C i K a):wpOpIn F n P ops Q' i K' a w:=by
 unfold qOpIn at hh;unfold wpOpIn;split
 · rename_i ho;simp only[ho]at hh;exact h _ _ hC hh
 {
 rename_i o ho;simp only[ho]at hh;obtain⟨ha,hh⟩:=hh;have hm:o∈ops.toList:=by rw[Array.mem_toList_iff];exact Array.mem_of_getElem? ho
 split
 · rename_i hw;simp only[hw,if_true]at hh;exact aHP (hd o hm) hC h ha hh
 · rename_i hw;simp only[hw]at hh;exact⟨ha w hC,h _ _ hC hh⟩}
theorem uS{Q:Act->Prop}{Q' :Exit->Act->World->Prop}(hd:∀o∈ops.toList,∀c,o.op≠.defer c)(hQ:∀a w,C w->Q a->Q' .normal a w):∀(fuel:Nat) (listed:Array Bool) (a:Act) (w:World),C w ->
    wpAnyQIn F n P md ops C Q fuel listed a->wpAnyIn F n P md ops Q' fuel listed a w
  | 0,_,_,_,hw,h=>⟨h.1,hQ _ _ hw h.2⟩
  | fuel+1,_,_,_,hw,h=>⟨fun h0=>hQ _ _ hw (h.1 h0),fun i hi=>aBL hd hw (fun a' w' hw' =>uS hd hQ fuel _ a' w' hw') (h.2 i hi)⟩
def aDS(o:Oper):Bool:=match o.op with
  | .defer _=>false
  | _=>true
theorem wQ{id:Nat}{Q:Exit->Act->World->Prop}{a:Act}{w:World}{l:List Oper}(hm:P.follows .mixedOrders=true)(hB:Region.lexB .any l.toArray=true)(hd:l.all aDS=true)
    (h:wpQuietIn F n P l.toArray (fun w' =>∃n,w' =w.drewN n) (fun a' =>∀w', (∃n,w' =w.drewN n)->Q .normal a' w') l a):(Code.region id l.toArray true).wpIn F n P Q a w:=by
 simp only[Region.lexB,qX]at hB;have hd' :∀o∈l.toArray.toList,∀c,o.op≠.defer c:=by {
 intro o ho c e;have:=List.all_eq_true.1 hd o (by simpa using ho);simp[aDS,e]at this};refine wpIn_region_any hm (uS (Q:=fun a' =>∀w', (∃n,w' =w.drewN n)->Q .normal a' w') (C:=fun w' =>∃n,w' =w.drewN n) hd' (fun _ w' hw' h=>h w' hw') _ _ _ _ ⟨1,rfl⟩ ?_);have:=wpAnyQIn_lex (F:=F) (n:=n) (C:=fun w' =>∃n,w' =w.drewN n) (md:=.any) hB.1 l 0 (Array.replicate l.toArray.size false) a (by simp) (by simpa using hB.2) h;simpa using this
end
end Go.Proofs.YtjdgpcjbgjnahaaGreatDoor
namespace Go.Proofs.YtjdgpcjbgjnahaaGreatDoor
open Go.RowKit Go.Shelf
attribute [local go_sem] Oper.semAt_some
theorem pR(W:World)(n:Nat):KeepsOthers W (W.drewN n):=⟨qK _,fun _ _ h _=>h⟩
structure nP (B:Nat) (w:World) (pt gc n cap:Nat) (C:Nat->Nat) (v:Value):Prop where
  hpt:pt<B
  hgc:gc<B
  h3:w.cell? ⟨pt,3,none⟩=some (.slice (some ⟨gc,0,none⟩) n cap)
  h2:w.cell? ⟨pt,2,none⟩=some v
  hC:∀c,c<n->w.cell? ⟨gc,c,none⟩=some (.int .i64 (C c))
theorem nP.below{B:Nat}{w w' :World}{pt gc n cap:Nat}{C:Nat->Nat}{v:Value}(h:nP B w pt gc n cap C v)(hb:Below B w w'):nP B w' pt gc n cap C v:=
  ⟨h.hpt,h.hgc,(hb.cell (p:=⟨pt,3,none⟩) h.hpt).trans h.h3,(hb.cell (p:=⟨pt,2,none⟩) h.hpt).trans h.h2,fun c hc=>(hb.cell (p:=⟨gc,c,none⟩) h.hgc).trans (h.hC c hc)⟩
theorem nP.mono{B B' :Nat}{w:World}{pt gc n cap:Nat}{C:Nat->Nat}{v:Value}(h:nP B w pt gc n cap C v)(hb:B<=B'):nP B' w pt gc n cap C v:=
  ⟨Nat.lt_of_lt_of_le h.hpt hb,Nat.lt_of_lt_of_le h.hgc hb,h.h3,h.h2,h.hC⟩
abbrev Prb(n m:Nat):={ x:Nat×Nat // x.1<n/\x.2<=m }
def prb(n m:Nat)(C:Nat->Nat)(hC:∀c,c<n->C c<=m)(hn:0<n)(h0 k:Nat):Prb n m:=⟨((h0+k)%n,C ((h0+k)%n)),Nat.mod_lt _ hn,hC _ (Nat.mod_lt _ hn)⟩
def mC(n m:Nat)(C:Nat->Nat)(hC:∀c,c<n->C c<=m)(hn:0<n)(h0 k:Nat):List (Prb n m):=(List.range k).map (prb n m C hC hn h0)
theorem uT(n m:Nat)(C:Nat->Nat)(hC:∀c,c<n->C c<=m)(hn:0<n)(h0 k:Nat):mC n m C hC hn h0 (k+1)=mC n m C hC hn h0 k++[prb n m C hC hn h0 k]:=by
 simp[mC,List.range_succ]
theorem yK(n m:Nat)(C:Nat->Nat)(hC:∀c,c<n->C c<=m)(hn:0<n)(h0 k:Nat)(hk:k<=n):mC n m C hC hn h0 k <+: mC n m C hC hn h0 n:=by
 refine⟨((List.range n).drop k).map (prb n m C hC hn h0),?_⟩;unfold mC;rw[<-List.map_append];congr 1
 have:List.range k=(List.range n).take k:=by rw[List.take_range,Nat.min_eq_left hk]
 rw[this,List.take_append_drop]
theorem aHQ(pt id:Nat)(w:World):
    CallsIn Fence.wide 9 Tryz.prog 206 #[ptr pt,.int .u64 id] w fun e w' =>e=.returned (.func (.func 229) #[] #[.pointer (some ⟨w.heap.size,0,none⟩),.pointer (some ⟨w.heap.size+1,0,none⟩)])/\w' =(w.alloc (.cells #[ptr pt] 142)).alloc (.cells #[.int .u64 id] 36):=by
 refine callsIn_of_wp Tryz.func206 rfl trivial ?_ rfl;simp only[Tryz.ntmps206,List.size_toArray,qZ,List.length_nil,Nat.reduceAdd,Nat.reduceSub,Array.replicate_succ,Array.replicate_zero,List.push_toArray,List.append_toArray,List.nil_append,zC];gi_wp2
 go_ret;exact⟨rfl,rfl⟩
theorem aFF(nf l Bt Bi B pt gc n cap m id:Nat)(C:Nat->Nat)(v:Value)(hC:∀c,c<n->C c<=m)(hM:wP n)(_hmm:m<=65536)(hid:id<18446744073709551616)(hnf:2<=nf)(hBt:Bt<B)(_hBi:Bi<B)
    (J Jx:List (Prb n m)->World->Prop)
    (hY:∀pre x W,J pre W->pre.length<n->YieldAt Fence.wide (nf-1) Tryz.prog l #[.int .i64 x.1.1,.int .i64 x.1.2] W fun e W' =>
      (e=.returned (.bool true)/\J (pre++[x]) W' /\ Below B W W')∨(e=.returned (.bool false)/\Jx (pre++[x]) W'))
    (W:World) (hR:nP B W pt gc n cap C v) (hct:W.cell? ⟨Bt,0,none⟩=some (ptr pt)) (hci:W.cell? ⟨Bi,0,none⟩=some (.int .u64 id)) (h0:J [] W):
    CallsIn Fence.wide nf Tryz.prog 229 #[.func (.yield l) #[] #[],.pointer (some ⟨Bt,0,none⟩),.pointer (some ⟨Bi,0,none⟩)] W fun e W' =>(∃v,e=.returned v) /\
      ((∃ys,ys=mC n m C hC (by have:=hM.pos;omega) (hm n id) n/\J ys W')∨(∃pre,pre <+: mC n m C hC (by have:=hM.pos;omega) (hm n id) n/\Jx pre W')):=by
 have hn:=hM.pos;have hn2:=hM.le;have hi:=hM.i64;have HR:=qA hR;clear hR;have c3:=HR.out.h3;have hh:=aHO (show 0<n by omega) id;refine callsIn_of_wp Tryz.func229 rfl trivial ?_ rfl;simp only[Tryz.ntmps229,List.size_toArray,qZ,List.length_nil,Nat.reduceAdd,Nat.reduceSub,Array.replicate_succ,Array.replicate_zero,List.push_toArray,List.append_toArray,List.nil_append,zC];gi_wp2_with (refine⟨trivial,fun _=>by omega,?_⟩;gi_at_call 222;refine(callsIn_wide.2 (aQB pt gc n cap id _ c3 hid hM)).mono ?_;rintro e w' ⟨rfl,rfl⟩)
 gi_loopw [4,13] (fun c i wr=>∃k c0:Nat,k<=n/\c0<n/\Hid (c0=(hm n id+k)%n)/\c=.int .i64 c0/\i=.int .i64 k/\Below B W wr/\J (mC n m C hC (by omega) (hm n id) k) wr) (fun _ i _=>n-(intOf i).toNat)
 case atStart=>exact⟨0,hm n id,qS _,hh,qA (by rw[Nat.add_zero,Nat.mod_eq_of_lt hh]),rfl,rfl,Below.refl _ _,h0⟩
 case round=>
  obtain⟨k,c0,hk,hc0,Hc,rfl,rfl,hB,hJ⟩:=hrel;by_cases hlt:k<n
  {
  have hRw:=HR.out.below hB;have r3:=hRw.h3;have rC:=hRw.hC c0 hc0;have rt:=(hB.cell (p:=⟨Bt,0,none⟩) hBt).trans hct;have HR2:=qA hRw;clear hRw;obtain⟨fn,tmps,assign,body,hy,hRd⟩:=hY (mC n m C hC (by omega) (hm n id) k) (prb n m C hC (by omega) (hm n id) k) wr hJ (by simp[mC];exact hlt);have e0:(prb n m C hC (by omega) (hm n id) k).1.1=c0:=Hc.out.symm;have e1:(prb n m C hC (by omega) (hm n id) k).1.2=C c0:=by simp only[prb];rw[<-Hc.out]
  rw[e0,e1]at hy;clear e0 e1;gi_wp2
  refine⟨fun _=>by omega,?_⟩;refine hRd.mono ?_;rintro e W3 (⟨rfl,hJ3,hk3⟩|⟨rfl,hJx3⟩)
  {
  have hR3:=HR2.out.below hk3;have r33:=hR3.h3;have rt3:=(hk3.cell (p:=⟨Bt,0,none⟩) hBt).trans rt;clear hR3 rC r3 rt;gi_wp2
  go_roundw
  case rel=>exact⟨k+1,(c0+1)%n,by omega,Nat.mod_lt _ (by omega),qA (by rw[Hc.out,Nat.mod_add_mod,Nat.add_assoc]),by go_num,by go_num,hB.trans hk3,by rw[uT];exact hJ3⟩
  case measure=>simp[intOf];omega}
  {
  gi_wp2
  refine bodyPost_ret (results_none rfl _ _ _) rfl ?_;exact⟨⟨_,rfl⟩,.inr ⟨_,by rw[<-uT];exact yK n m C hC (by omega) (hm n id) (k+1) (by omega),hJx3⟩⟩}}
  {
  gi_wp2
  go_end0
  have:k=n:=by omega
  subst this;exact⟨⟨_,rfl⟩,.inl ⟨_,rfl,hJ⟩⟩}
def yL(n:Nat)(C ids:Nat->Nat)(id c:Nat)(b:Bool):Prop:=
  ∃k,k<n/\c=(hm n id+k)%n/\(∀j,j<k->C ((hm n id+j)%n)≠0/\ids (C ((hm n id+j)%n)-1)≠id) /\
    ((b=false/\C c=0)∨(b=true/\C c≠0/\ids (C c-1)=id))
def W6(w:World)(pt id:Nat):World:=(((((w.alloc (.cells #[ptr pt] 142)).alloc (.cells #[.int .u64 id] 36)).alloc (.cells #[.int .i64 0] 3)).alloc (.cells #[.bool false] 4)).alloc (.cells #[ptr pt] 142)).alloc (.cells #[.int .u64 id] 36)
theorem aMR(w:World)(pt id:Nat):(W6 w pt id).heap.size=w.heap.size+6:=by simp[W6]
theorem aHR(w:World)(pt id:Nat):Below w.heap.size w (W6 w pt id):=
  ((((((Below.refl _ w).alloc (qK _) _).alloc (by simp) _).alloc (by simp;omega) _).alloc (by simp;omega) _).alloc (by simp;omega) _).alloc (by simp;omega) _
theorem aQC(w:World)(pt id:Nat):Blk (W6 w pt id) w.heap.size 142 [ptr pt]/\Blk (W6 w pt id) (w.heap.size+1) 36 [.int .u64 id]/\Blk (W6 w pt id) (w.heap.size+2) 3 [.int .i64 0]/\Blk (W6 w pt id) (w.heap.size+3) 4 [.bool false] /\
    Blk (W6 w pt id) (w.heap.size+4) 142 [ptr pt]/\Blk (W6 w pt id) (w.heap.size+5) 36 [.int .u64 id]:=by
 have a0:=Blk.new w [ptr pt] 142;have a1:=Blk.new (w.alloc (.cells #[ptr pt] 142)) [.int .u64 id] 36;have a2:=Blk.new ((w.alloc (.cells #[ptr pt] 142)).alloc (.cells #[.int .u64 id] 36)) [.int .i64 0] 3;have a3:=Blk.new (((w.alloc (.cells #[ptr pt] 142)).alloc (.cells #[.int .u64 id] 36)).alloc (.cells #[.int .i64 0] 3)) [.bool false] 4;have a4:=Blk.new ((((w.alloc (.cells #[ptr pt] 142)).alloc (.cells #[.int .u64 id] 36)).alloc (.cells #[.int .i64 0] 3)).alloc (.cells #[.bool false] 4)) [ptr pt] 142;have a5:=Blk.new (((((w.alloc (.cells #[ptr pt] 142)).alloc (.cells #[.int .u64 id] 36)).alloc (.cells #[.int .i64 0] 3)).alloc (.cells #[.bool false] 4)).alloc (.cells #[ptr pt] 142)) [.int .u64 id] 36;simp only[World.size_alloc]at a1 a2 a3 a4 a5;exact⟨((((a0.alloc _).alloc _).alloc _).alloc _).alloc _,(((a1.alloc _).alloc _).alloc _).alloc _,((a2.alloc _).alloc _).alloc _,(a3.alloc _).alloc _,a4.alloc _,a5⟩
theorem aQD(pt gc n cap m id:Nat)(C ids:Nat->Nat)(v:Value)(w:World)(hC:∀c,c<n->C c<=m)(hM:wP n)(hmm:m<=65536)(hid:id<18446744073709551616)
    (hR:nP w.heap.size w pt gc n cap C v) (hz:∃c,c<n/\C c=0)
    (hv:∀i,i<m->∃gi cap,v=.slice (some ⟨gi,0,none⟩) m cap/\gi<w.heap.size/\w.cell? ⟨gi,i,none⟩=some (.int .u64 (ids i))):
    Calls Tryz.prog 171 #[ptr pt,.int .u64 id] w fun e w' =>∃(c:Nat) (b:Bool),e=.returned (.tuple #[.int .i64 c,.bool b])/\yL n C ids id c b/\Below w.heap.size w w' :=by
 have hn:=hM.pos;have hn2:=hM.le;refine(callsIn_wide (n:=9)).1 ?_;refine callsIn_of_wp_marks Tryz.func171 rfl trivial ?_ rfl;simp only[Tryz.ntmps171,List.size_toArray,qZ,List.length_nil,Nat.reduceAdd,Nat.reduceSub,Array.replicate_succ,Array.replicate_zero,List.push_toArray,List.append_toArray,List.nil_append,zC];have HR:=qA hR;clear hR;have HV:=qA hv;clear hv;have HZ:=qA hz;clear hz;have HC:=qA hC;gi_wp2_with (refine⟨trivial,?_⟩;gi_at_call 206;refine(callsIn_wide.2 (callsIn_wide.1 (aHQ pt id _))).mono ?_;rintro e w' ⟨rfl,rfl⟩)
 change Code.wpIn _ _ _ _ _ _ (W6 w pt id);have hsz:=aMR w pt id;have hB0:=aHR w pt id;obtain⟨b0,b1,b2,b3,b4,b5⟩:=aQC w pt id;have hR6:nP (W6 w pt id).heap.size (W6 w pt id) pt gc n cap C v:=(HR.out.below hB0).mono hB0.size;generalize W6 w pt id=W0 at *;have hs0:∀k,k<6->w.heap.size+k<W0.heap.size:=by omega
 refine wpIn_rangeFunc_ownF rfl (by decide) (α := Prb n m) (gf := 229) (lb := #[.pointer (some ⟨w.heap.size + 4, 0, none⟩), .pointer (some ⟨w.heap.size + 5, 0, none⟩)]) rfl trivial (enters_of Tryz.func229 (by kernel_rfl) rfl)
   (encs:=fun x=>#[.int .i64 x.1.1,.int .i64 x.1.2]) (Kp:=Below W0.heap.size) (S:=fun ys=>ys=mC n m C hC (by omega) (hm n id) n) (Sp:=fun pre=>pre <+: mC n m C hC (by omega) (hm n id) n) (N:=n) (w0:=W0)
   (fun l J Jx W hW _ _ hY h0=>aFF 8 l (w.heap.size+4) (w.heap.size+5) W0.heap.size pt gc n cap m id C v hC hM hmm hid (by decide) (hs0 4 (by decide)) (hs0 5 (by decide)) J Jx hY W (hR6.below hW) ((hW.cell (p:=⟨w.heap.size+4,0,none⟩) (hs0 4 (by decide))).trans (b4.cell 0)) ((hW.cell (p:=⟨w.heap.size+5,0,none⟩) (hs0 5 (by decide))).trans (b5.cell 0)) h0)
   belowK_t (belowK_b (qK _)) (Below.refl _ _) (fun _=>rfl)
   (fun pre W=>((∀y∈pre,y.1.2≠0/\ids (y.1.2-1)≠id)/\W.cell? ⟨w.heap.size,0,none⟩=some (ptr pt)/\W.cell? ⟨w.heap.size+1,0,none⟩=some (.int .u64 id)/\(W.cell? ⟨w.heap.size+2,0,none⟩=some (.int .i64 0)/\W.frozen? ⟨w.heap.size+2,0,none⟩=false)/\W.cell? ⟨w.heap.size+3,0,none⟩=some (.bool false)/\W.frozen? ⟨w.heap.size+3,0,none⟩=false)/\Below w.heap.size w W)
   (fun c pre W=>(c=.ret/\∃pre' x b,pre=pre' ++ [x]/\(∀y∈pre', y.1.2≠0/\ids (y.1.2-1)≠id)/\((b=false/\x.1.2=0)∨(b=true/\x.1.2≠0/\ids (x.1.2-1)=id))/\W.cell? ⟨w.heap.size+2,0,none⟩=some (.int .i64 x.1.1)/\W.cell? ⟨w.heap.size+3,0,none⟩=some (.bool b))/\Below w.heap.size w W)
   (OwnFrom.and (Own.from (fun s A B row hs hg hr=>⟨hs.1,cell_kept hs.2.1 hg hr,cell_kept hs.2.2.1 hg hr,⟨cell_kept hs.2.2.2.1.1 hg hr,(frozen_kept hs.2.2.2.1.1 hg hr).trans hs.2.2.2.1.2⟩,cell_kept hs.2.2.2.2.1 hg hr,(frozen_kept hs.2.2.2.2.1 hg hr).trans hs.2.2.2.2.2⟩) _) (ownFrom_below (qK _) (by omega)))
   (fun c=>OwnFrom.and (Own.from (fun s A B row hs hg hr=>by
     obtain⟨h1,pre', x,b,h2,h3,h4,h5,h6⟩:=hs;exact⟨h1,pre', x,b,h2,h3,h4,cell_kept h5 hg hr,cell_kept h6 hg hr⟩) _) (ownFrom_below (qK _) (by omega)))
   ⟨⟨by simp,b0.cell 0,b1.cell 0,⟨b2.cell 0,b2.frozen 0⟩,b3.cell 0,b3.frozen 0⟩,hB0⟩
   (fun x=>{ tmps:=#[ptr pt,.int .u64 id,ptr w.heap.size,ptr (w.heap.size+1),ptr (w.heap.size+2),ptr (w.heap.size+3),.int .i64 x.1.1,.int .i64 x.1.2,ptr pt,.int .u64 id,.func (.func 229) #[] #[ptr (w.heap.size+4),ptr (w.heap.size+5)],.int .i64 x.1.1,.int .i64 x.1.2,undef,undef,undef,undef,undef,undef,undef,undef,undef,undef,undef,undef,undef,undef],defers:=[] }) ?assign ?body ?done ?stop
 case assign=>
  intro l x W K hK;gi_wp2
  exact hK
 case body=>
  rintro l pre x W ⟨⟨hp,hct,hci,⟨hcr,hfr⟩,hcb,hfb⟩,hB⟩ _;have HP:=qA hp;clear hp;obtain⟨⟨c0,i0⟩,hx1,hx2⟩:=x;dsimp only at hx1 hx2 ⊢
  by_cases hi0:i0=0
  {
  subst hi0;gi_wp2
  refine⟨(KeepsOthers.setCell _ _ _).trans (KeepsOthers.setCell _ _ _),⟨rfl,pre,⟨(c0,0),hx1,hx2⟩,false,rfl,HP.out,.inl ⟨rfl,rfl⟩,?_,?_⟩,(hB.setCell (p:=⟨w.heap.size+2,0,none⟩) (by simp) _).setCell (p:=⟨w.heap.size+3,0,none⟩) (by simp) _⟩
  · rw[World.cell?_setCell_other _ _ _ _ (by simp)];exact World.cell?_setCell_same' _ _ _ (by rw[hcr];rfl)
  · exact World.cell?_setCell_same' _ _ _ (by rw[World.cell?_setCell_other _ _ _ _ (by simp),hcb];rfl)}
  {
  obtain⟨i1,rfl⟩:∃i1,i0=i1+1:=⟨i0-1,by omega⟩;clear hi0;have hb0:(((i1:Int)+1) == 0)=false:=qR.2 (by omega);obtain⟨gi,cap,rfl,hgi,hci'⟩:=HV.out i1 (by omega);have r2:=(hB.cell (p:=⟨pt,2,none⟩) HR.out.hpt).trans HR.out.h2;have ri:=(hB.cell (p:=⟨gi,i1,none⟩) hgi).trans hci';have hw1:IntKind.i64.wrap (i1:Int)=i1:=zG _ (by omega);have hi1:i1<m:=by omega
  have hi2:(i1:Int)<m:=by omega
  clear hci';gi_wp2
  refine wQ (by kernel_rfl) (by kernel_rfl) (by kernel_rfl) ?_;repeat (quiet_step_in (fail))
  refine wpQuietIn_nil ?_;rintro _ ⟨nq,rfl⟩;gi_wp2
  {
  have hx : ids i1 = id := by have h : ((ids i1 : Int) == (id : Int)) = true := by assumption
                              have:=eq_of_beq h;omega
  refine⟨((pR _ _).trans (KeepsOthers.setCell _ _ _)).trans (KeepsOthers.setCell _ _ _),⟨rfl,pre,⟨(c0,i1+1),hx1,hx2⟩,true,rfl,HP.out,.inr ⟨rfl,by simp,hx⟩,?_,?_⟩,((below_drewN hB _).setCell (p:=⟨w.heap.size+2,0,none⟩) (by simp) _).setCell (p:=⟨w.heap.size+3,0,none⟩) (by simp) _⟩
  · rw[World.cell?_setCell_other _ _ _ _ (by simp)];exact World.cell?_setCell_same' _ _ _ (by rw[(Eqv.drewN W nq).cell,hcr];rfl)
  · exact World.cell?_setCell_same' _ _ _ (by rw[World.cell?_setCell_other _ _ _ _ (by simp),(Eqv.drewN W nq).cell,hcb];rfl)}
  {
  have hx : ids i1 ≠ id := by have h : ((ids i1 : Int) == (id : Int)) = false := by assumption
                              have:=qR.1 h;omega
  refine⟨pR _ _,below_drewN (Below.refl _ _) _,⟨fun y hy=>(qE.1 hy).elim (HP.out y) (fun e=>by cases qH.1 e;exact⟨Nat.succ_ne_zero _,hx⟩),hct,hci,⟨hcr,hfr⟩,hcb,hfb⟩,below_drewN hB _⟩}}
 case done=>
  rintro D ys W hD rfl ⟨⟨hne,_⟩,hB⟩ hK;exfalso
  obtain⟨c,hc,hc0⟩:=HZ.out;have hh:=aHO (show 0<n by omega) id;have hq:(hm n id+(c+n-hm n id)%n)%n=c:=by rw[Nat.add_mod_mod,show hm n id+(c+n-hm n id)=c+n by omega,Nat.add_mod_right,Nat.mod_eq_of_lt hc]
  refine(hne (prb n m C hC (by omega) (hm n id) ((c+n-hm n id)%n)) (qW.2 ⟨_,List.mem_range.2 (Nat.mod_lt _ (by omega)),rfl⟩)).1 ?_;simp only[prb];rw[hq];exact hc0
 case stop=>
  rintro D c pre W hD hpre ⟨⟨rfl,pre', x,b,rfl,hskip,hend,hr1,hr2⟩,hB⟩ hK;gi_wp2
  refine⟨by simp,.inl ⟨_,_,rfl,run_takeDeferred hK,?_⟩⟩;have d1:=cell_kept hr1 (grownBy_putObj' _ D (.deferred none)) (fun r e=>by cases e;exact⟨_,hK,rfl⟩);have d2:=cell_kept hr2 (grownBy_putObj' _ D (.deferred none)) (fun r e=>by cases e;exact⟨_,hK,rfl⟩);refine⟨.tuple #[.int .i64 x.1.1,.bool b],by simp[results,Tryz.f171,go_sem,d1,d2],x.1.1,b,rfl,?_,hB.trans (belowK_b (w:=w) (qK _) W D _ _ (by omega) hK rfl rfl)⟩;obtain⟨rest,hrest⟩:=hpre;have hlen:pre'.length<n:=by {
  have:=congrArg List.length hrest;simp[mC]at this;omega};have hget:∀j (h:j<(pre' ++ [x]).length),(pre' ++ [x])[j]'h=prb n m C hC (by omega) (hm n id) j:=by {
  intro j h;have h2:(mC n m C hC (by omega) (hm n id) n)[j]? =some ((pre' ++ [x])[j]'h):=by rw[<-hrest,List.getElem?_append_left h,qL h]
  simp only[zF,qZ,List.length_nil]at h;simp only[mC,List.getElem?_map,List.getElem?_range (show j<n by omega),Option.map_some,qI]at h2;exact h2.symm};have hx:x=prb n m C hC (by omega) (hm n id) pre'.length:=by {
  have:=hget pre'.length (by simp);simpa using this};refine⟨pre'.length,hlen,by rw[hx];rfl,fun j hj=>?_,?_⟩
  {
  have h1:=hget j (by simp;omega);rw[List.getElem_append_left hj]at h1;have h2:=hskip _ (List.getElem_mem hj);rw[h1]at h2;exact h2}
  {
  have e1:C x.1.1=x.1.2:=by rw[hx];rfl
  rw[e1];exact hend}
end Go.Proofs.YtjdgpcjbgjnahaaGreatDoor
namespace Go.Proofs.YtjdgpcjbgjnahaaGreatDoor
def dst(n a b:Nat):Nat:=if a<=b then b-a else b+n-a
def iK(f:Nat->Nat)(i x:Nat):Nat->Nat:=fun j=>if j=i then x else f j
theorem bV(f:Nat->Nat)(i x:Nat):iK f i x i=x:=by simp[iK]
theorem aV{f:Nat->Nat}{i x j:Nat}(h:j≠i):iK f i x j=f j:=by simp[iK,h]
theorem aQE{n h j:Nat}(hh:h<n)(hj:j<n):(h+j)%n<n/\dst n h ((h+j)%n)=j:=by
 refine⟨Nat.mod_lt _ (by omega),?_⟩;unfold dst;by_cases e:h+j<n
 · rw[Nat.mod_eq_of_lt e,qD (by omega)];omega
 {
 rw[Nat.mod_eq_sub_mod (by omega),Nat.mod_eq_of_lt (by omega)];split<;>omega}
theorem aBM{n h q:Nat}(hh:h<n)(hq:q<n):dst n h q<n/\(h+dst n h q)%n=q:=by
 unfold dst;split
 {
 refine⟨by omega,?_⟩;rw[show h+(q-h)=q by omega,Nat.mod_eq_of_lt hq]}
 {
 refine⟨by omega,?_⟩;rw[show h+(q+n-h)=q+n by omega,Nat.add_mod_right,Nat.mod_eq_of_lt hq]}
structure iS (n:Nat) (hf:Nat->Nat) (C ids:Nat->Nat) (U:Nat->Prop):Prop where
  live:∀c,c<n->C c≠0->U (C c-1)
  inj:∀c d,c<n->d<n->C c≠0->C c=C d->c=d
  at_:∀i,U i->∃p,p<n/\C p=i+1/\∀q,q<n->dst n (hf (ids i)) q<dst n (hf (ids i)) p->C q≠0
structure Hole (n:Nat) (hf:Nat->Nat) (C ids:Nat->Nat) (U:Nat->Prop) (h c:Nat):Prop where
  hn:h<n
  cn:c<n
  live:∀p,p<n->p≠h->C p≠0->U (C p-1)
  inj:∀p q,p<n->q<n->p≠h->q≠h->C p≠0->C p=C q->p=q
  at_:∀i,U i->∃p,p<n/\p≠h/\C p=i+1/\∀q,q<n->dst n (hf (ids i)) q<dst n (hf (ids i)) p->C q≠0
  nz:C h≠0
  run:∀p,p<n->0<dst n h p->dst n h p<=dst n h c->C p≠0/\dst n (hf (ids (C p-1))) p<dst n h p
section
variable {n:Nat} {hf C ids:Nat->Nat} {U:Nat->Prop} {h c:Nat}
end
theorem iS.put{n:Nat}{hf C ids:Nat->Nat}{U:Nat->Prop}{c i id:Nat}(t:iS n hf C ids U)(hc:c<n)(h0:C c=0)(hi:¬U i)
    (hpath:∀q,q<n->dst n (hf id) q<dst n (hf id) c->C q≠0):iS n hf (iK C c (i+1)) (iK ids i id) (fun j=>U j∨j=i):=by
 refine⟨?_,?_,?_⟩
 {
 intro p hp hp0;by_cases e:p=c
 · subst e;rw[bV];exact .inr (by omega)
 · rw[aV e]at hp0 ⊢;exact .inl (t.live p hp hp0)}
 {
 intro p q hp hq hp0 e;by_cases ep:p=c
 {
 by_cases eq:q=c
 · omega
 {
 rw[ep,bV,aV eq]at e;exact absurd (by have:=t.live q hq (by omega);rwa[<-e]at this) hi}}
 {
 by_cases eq:q=c
 {
 rw[eq,bV,aV ep]at e;rw[aV ep]at hp0;exact absurd (by have:=t.live p hp hp0;rwa[e]at this) hi}
 · rw[aV ep]at hp0 e;rw[aV eq]at e;exact t.inj p q hp hq hp0 e}}
 {
 have nz:∀q,C q≠0->iK C c (i+1) q≠0:=by {
 intro q hq0;by_cases e:q=c
 · subst e;rw[bV];omega
 · rw[aV e];exact hq0};intro j hj;by_cases e:j=i
 {
 subst e;rw[bV];exact⟨c,hc,bV _ _ _,fun q hq hl=>nz q (hpath q hq hl)⟩}
 {
 obtain⟨p,hp,hpc,hpp⟩:=t.at_ j (hj.resolve_right e);have epc:p≠c:=by rintro rfl;omega
 rw[aV e];exact⟨p,hp,by rw[aV epc];exact hpc,fun q hq hl=>nz q (hpp q hq hl)⟩}}
theorem iS.congr{n:Nat}{hf C ids ids' :Nat->Nat}{U U' :Nat->Prop}(t:iS n hf C ids U)(hu:∀i,U i↔U' i)(hi:∀i,U i->ids' i=ids i):iS n hf C ids' U' :=by
 refine⟨fun c hc h0=>(hu _).1 (t.live c hc h0),t.inj,fun i hui=>?_⟩;rw[hi i ((hu i).2 hui)];exact t.at_ i ((hu i).2 hui)
end Go.Proofs.YtjdgpcjbgjnahaaGreatDoor
namespace Go.Proofs.YtjdgpcjbgjnahaaGreatDoor
open Go.RowKit
def cP(n:Nat)(f:Nat->Value):List Value:=(List.range n).map f
theorem gY{n:Nat}{f:Nat->Value}{i:Nat}(h:i<n):(cP n f)[i]? =some (f i):=by simp[cP,h]
theorem eG(n:Nat)(f:Nat->Value):(cP n f).length=n:=by simp[cP]
def fA(C:Nat->Nat):Nat->Value:=fun c=>.int .i64 (C c)
def idF(ids:Nat->Nat):Nat->Value:=fun c=>.int .u64 (ids c)
theorem aFG(n:Nat)(C:Nat->Nat)(h x:Nat):(cP n (fA C)).set h (.int .i64 x)=cP n (fA (iK C h x)):=by
 apply List.ext_getElem?;intro i;simp only[List.getElem?_set,eG];by_cases hi:i<n
 {
 rw[gY hi,gY hi];by_cases e:h=i
 · subst e;rw[qD rfl,qD hi];simp[fA,bV]
 · rw[qC e];simp only[fA];rw[aV (fun h=>e h.symm)]}
 {
 have h1:∀f,(cP n f)[i]? =none:=fun f=>zB (by rw[eG];omega);rw[h1,h1];by_cases e:h=i
 · rw[qD e,qC (by omega)]
 · rw[qC e]}
theorem pS(n:Nat)(C:Nat->Nat)(h x:Nat):(cP n (idF C)).set h (.int .u64 x)=cP n (idF (iK C h x)):=by
 apply List.ext_getElem?;intro i;simp only[List.getElem?_set,eG];by_cases hi:i<n
 {
 rw[gY hi,gY hi];by_cases e:h=i
 · subst e;rw[qD rfl,qD hi];simp[idF,bV]
 · rw[qC e];simp only[idF];rw[aV (fun h=>e h.symm)]}
 {
 have h1:∀f,(cP n f)[i]? =none:=fun f=>zB (by rw[eG];omega);rw[h1,h1];by_cases e:h=i
 · rw[qD e,qC (by omega)]
 · rw[qC e]}
def mK(n:Nat)(C:Nat->Nat)(rst:List Value):List Value:=cP n (fA C)++rst
theorem kK{n:Nat}{C:Nat->Nat}{rst:List Value}{i:Nat}(h:i<n):(mK n C rst)[i]? =some (fA C i):=by
 unfold mK;rw[List.getElem?_append_left (by rw[eG];exact h),gY h]
theorem uU{n:Nat}{C:Nat->Nat}{rst:List Value}{h:Nat}(x:Nat)(hh:h<n):(mK n C rst).set h (.int .i64 x)=mK n (iK C h x) rst:=by
 unfold mK;rw[List.set_append_left _ _ (by rw[eG];exact hh),aFG]
end Go.Proofs.YtjdgpcjbgjnahaaGreatDoor
