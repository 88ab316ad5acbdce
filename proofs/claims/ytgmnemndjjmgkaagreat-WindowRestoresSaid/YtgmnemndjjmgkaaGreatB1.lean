/- The search in an intern table: probe (a range-function) and find. -/
import Derived.Test.YtgmnemndjjmgkaaGreatRows
import Derived.WalkKit
import Derived.WalkSpells
import Derived.WalkLawsBesides
import Derived.LaidEqlPtr
import Derived.Deep.QuietTactic
import Derived.BigQuiet
import Derived.Lib.Hide
import Derived.RangeFuncBox
import Derived.Maps.AppendAt
import Derived.Deep.Quiet
import Derived.ProofKit
import Derived.OpenShut
import Derived.ShutString
import Derived.Deep.Slices
import Derived.ChangeSame
import Derived.Sort.QuietTacIn
import Derived.RangeFuncNested
import Derived.RangeFuncBound
import Derived.RangeFuncCalls
import Derived.RangeFuncLeaves
import Derived.Shelf.Abstract
import Derived.Shelf.RegionOpen
import Derived.OwnWalkIn
import Derived.TacticsInMore
import Derived.LoopNIn
import Derived.LoopIn
set_option maxRecDepth 4000
set_option maxHeartbeats 400000
set_option linter.unusedSimpArgs false
set_option linter.unusedVariables false
/- Small facts on blocks of memory and on what a call leaves alone; used by all walks of this seat. -/
namespace Go.Proofs.YtgmnemndjjmgkaaGreat
theorem qB:type_of% @Lib.hid:=@Lib.hid
theorem qF:type_of% @List.mem_cons:=@List.mem_cons
theorem qH:type_of% @if_neg:=@if_neg
theorem qI:type_of% @if_pos:=@if_pos
theorem qJ:type_of% @List.mem_append:=@List.mem_append
theorem qK:type_of% @decide_eq_false:=@decide_eq_false
theorem qO:type_of% @decide_eq_true:=@decide_eq_true
theorem qP:type_of% @List.mem_singleton:=@List.mem_singleton
theorem qQ:type_of% @Option.some.injEq:=@Option.some.injEq
theorem qR:type_of% @Calls.quiet_of_same:=@Calls.quiet_of_same
theorem qS:type_of% @Nat.le_refl:=@Nat.le_refl
theorem qT:type_of% @List.getElem?_eq_getElem:=@List.getElem?_eq_getElem
theorem qU:type_of% @Array.getElem?_eq_some_iff:=@Array.getElem?_eq_some_iff
theorem qW:type_of% @List.nodup_append:=@List.nodup_append
theorem qX:type_of% @List.nodup_cons:=@List.nodup_cons
theorem qY:type_of% @Value.slice.injEq:=@Value.slice.injEq
theorem qZ:type_of% @Classical.byContradiction:=@Classical.byContradiction
theorem zA:type_of% @beq_eq_false_iff_ne:=@beq_eq_false_iff_ne
theorem zB:type_of% @Nat.zero_le:=@Nat.zero_le
theorem zC:type_of% @List.getElem?_eq_some_iff:=@List.getElem?_eq_some_iff
theorem zD:type_of% @List.set_cons_succ:=@List.set_cons_succ
theorem zE:type_of% @Option.isSome_iff_exists:=@Option.isSome_iff_exists
theorem zF:type_of% @List.mem_map:=@List.mem_map
theorem zG:type_of% @Bool.and_eq_true:=@Bool.and_eq_true
theorem zH:type_of% @List.set_cons_zero:=@List.set_cons_zero
theorem zI:type_of% @List.length_cons:=@List.length_cons
theorem zJ:type_of% @List.mem_filter:=@List.mem_filter
theorem zK:type_of% @List.getElem?_eq_none:=@List.getElem?_eq_none
theorem zL:type_of% @List.cons_append:=@List.cons_append
theorem zM:type_of% @Int.toNat_natCast:=@Int.toNat_natCast
theorem zN:type_of% @Prod.mk.injEq:=@Prod.mk.injEq
theorem zO:type_of% @List.length_append:=@List.length_append
theorem zP:type_of% @IntWalk.i64_in:=@IntWalk.i64_in
theorem zQ:type_of% @Nat.le_trans:=@Nat.le_trans
theorem zR:type_of% @And.intro:=@And.intro
theorem zS:type_of% @List.getElem?_cons_zero:=@List.getElem?_cons_zero
theorem zT:type_of% @List.getElem?_cons_succ:=@List.getElem?_cons_succ
open Go.RowKit
def Blk(w:World)(b:Nat)(t:TypeId)(l:List Value):Prop:=w.heap[b]? =some (.cells l.toArray t (0,0))
section
variable {w:World} {b:Nat} {t:TypeId} {l:List Value}
theorem Blk.cell(h:Blk w b t l)(i:Nat):w.cell? ⟨b,i,none⟩=l[i]? :=by
 unfold Blk at h;simp[World.cell?,h]
theorem Blk.frozen(h:Blk w b t l)(i:Nat):w.frozen? ⟨b,i,none⟩=false:=by
 unfold Blk at h;simp[World.frozen?,h]
theorem Blk.lt(h:Blk w b t l):b<w.heap.size:=(qU.1 h).1
theorem Blk.of_same{w' :World}(h:Blk w b t l)(e:w'.heap[b]? =w.heap[b]?):Blk w' b t l:=e.trans h
theorem Blk.alloc(h:Blk w b t l)(o:Obj):Blk (w.alloc o) b t l:=h.of_same (Below.heap_alloc w o b h.lt)
theorem Blk.drew(h:Blk w b t l):Blk w.drew b t l:=h
theorem Blk.drewN(h:Blk w b t l)(n:Nat):Blk (w.drewN n) b t l:=h
theorem Blk.other(h:Blk w b t l)(a:Addr)(u:Value)(hne:b≠a.block):Blk (w.setCell a u) b t l:=
  h.of_same (Below.heap_setCell w a u b hne)
theorem Blk.set(h:Blk w b t l)(i:Nat)(u:Value):Blk (w.setCell ⟨b,i,none⟩ u) b t (l.set i u):=by
 have hb:=h.lt;unfold Blk at *;simp only[World.setCell,Array.getElem?_modify];simp[h]
theorem Blk.new(w:World)(l:List Value)(t:TypeId):Blk (w.alloc (.cells l.toArray t)) w.heap.size t l:=by
 show(w.heap.push _)[w.heap.size]? =_
 simp
theorem Blk.eq{l' :List Value}{t' :TypeId}(h:Blk w b t l)(h' :Blk w b t' l'):l=l' :=by
 unfold Blk at *;rw[h]at h'; simp at h'; exact h'.1
end
structure Fr (S:List Nat) (w w' :World):Prop where
  os:w'.os=w.os
  tape:w'.tape=w.tape
  output:w'.output=w.output
  size:w.heap.size<=w'.heap.size
  keep:∀k,k<w.heap.size->k∉S->w'.heap[k]? =w.heap[k]?
section
variable {S:List Nat} {w w' w'' :World}
theorem Fr.refl(S:List Nat)(w:World):Fr S w w:=⟨rfl,rfl,rfl,qS _,fun _ _ _=>rfl⟩
theorem Fr.trans{S' :List Nat}(h:Fr S w w')(k:Fr S' w' w'')(hs:∀b∈S', b∈S∨w.heap.size<=b):Fr S w w'' :=
  ⟨k.os.trans h.os,k.tape.trans h.tape,k.output.trans h.output,zQ h.size k.size,fun i hi hn=>
    (k.keep i (Nat.lt_of_lt_of_le hi h.size) (fun hm=>(hs i hm).elim hn (fun h=>by omega))).trans (h.keep i hi hn)⟩
theorem Fr.trans' (h:Fr S w w')(k:Fr S w' w''):Fr S w w'' :=h.trans k (fun _ hb=>.inl hb)
theorem Fr.mono{S' :List Nat}(h:Fr S w w')(hs:∀b∈S,b∈S' ∨ w.heap.size<=b):Fr S' w w' :=
  ⟨h.os,h.tape,h.output,h.size,fun k hk hn=>h.keep k hk (fun hm=>(hs k hm).elim hn (fun h=>by omega))⟩
theorem Fr.drew(h:Fr S w w'):Fr S w w'.drew:=⟨h.os,h.tape,h.output,h.size,h.keep⟩
theorem Fr.drewN(h:Fr S w w')(n:Nat):Fr S w (w'.drewN n):=⟨h.os,h.tape,h.output,h.size,h.keep⟩
theorem Fr.alloc(h:Fr S w w')(o:Obj):Fr S w (w'.alloc o):=
  h.trans' ⟨rfl,rfl,rfl,by simp,fun k hk _=>Below.heap_alloc _ _ _ hk⟩
theorem Fr.setCell(h:Fr S w w')(a:Addr)(u:Value)(ha:a.block∈S∨w.heap.size<=a.block):Fr S w (w'.setCell a u):=
  h.trans (S' := [a.block]) ⟨rfl, rfl, rfl, by simp [World.setCell], fun k _ hn => Below.heap_setCell _ _ _ _ (by simpa using hn)⟩
    (fun b hb=>by simp at hb;subst hb;exact ha)
theorem Fr.grown{row:Option Nat}(h:Fr S w w')(hg:w'.grownBy w'' row)(hr:∀k,row=some k->k∈S∨w.heap.size<=k):Fr S w w'' :=
  h.trans (S' := row.toList) ⟨hg.os, hg.tape, hg.output, hg.size, fun k hk hn => hg.block k hk (fun e => hn (by simp [<- e]))⟩
    (fun b hb=>hr b (by simpa using hb))
theorem Fr.below(h:Fr S w w')(hs:∀b∈S,w.heap.size<=b):Below w.heap.size w w' :=
  ⟨h.os,h.tape,h.output,h.size,fun k hk=>h.keep k hk (fun hm=>by have:=hs k hm;omega)⟩
theorem Fr.of_below(h:Below w.heap.size w w'):Fr [] w w' :=⟨h.os,h.tape,h.output,h.size,fun k hk _=>h.block k hk⟩
theorem Fr.blk{b:Nat}{t:TypeId}{l:List Value}(h:Fr S w w')(hb:Blk w b t l)(hn:b∉S):Blk w' b t l:=
  hb.of_same (h.keep b hb.lt hn)
end
theorem jP{w:World}{a:Addr}{v:Value}(h:w.cell? a=some v):a.block<w.heap.size:=by
 by_cases hb:a.block<w.heap.size
 · exact hb
 {
 have:w.heap[a.block]? =none:=Array.getElem?_eq_none (by omega);simp[World.cell?,this]at h}
theorem Fr.cell{S:List Nat}{w w' :World}{a:Addr}{v:Value}(h:Fr S w w')(hc:w.cell? a=some v)(hn:a.block∉S):w'.cell? a=some v:=
  (World.cell?_of_block (w:=w) (h.keep _ (jP hc) hn)).trans hc
structure Eqv (w' w:World):Prop where
  heap:w'.heap=w.heap
  os:w'.os=w.os
  tape:w'.tape=w.tape
  output:w'.output=w.output
theorem Eqv.refl(w:World):Eqv w w:=⟨rfl,rfl,rfl,rfl⟩
theorem Eqv.drewN(w:World)(n:Nat):Eqv (w.drewN n) w:=⟨rfl,rfl,rfl,rfl⟩
theorem Eqv.drew(w:World):Eqv w.drew w:=⟨rfl,rfl,rfl,rfl⟩
theorem Eqv.blk{w' w:World}(h:Eqv w' w){b:Nat}{t:TypeId}{l:List Value}(hb:Blk w b t l):Blk w' b t l:=by
 unfold Blk at *;rw[h.heap];exact hb
theorem Eqv.fr{w' w w0:World}(h:Eqv w' w){S:List Nat}(hf:Fr S w0 w):Fr S w0 w' :=
  ⟨h.os.trans hf.os,h.tape.trans hf.tape,h.output.trans hf.output,by rw[h.heap];exact hf.size,by rw[h.heap];exact hf.keep⟩
theorem Eqv.cell{w' w:World}(h:Eqv w' w)(a:Addr):w'.cell? a=w.cell? a:=by simp[World.cell?,h.heap]
theorem Eqv.owns{w' w:World}(h:Eqv w' w){base:Nat}{e:TypeId}{size:Nat}{v:Value}{n:Nat}{xs:List Value}
    (k:w.ownsRow base e size v n xs):w'.ownsRow base e size v n xs:=by unfold World.ownsRow at *;rw[h.heap];exact k
theorem aI{w w' :World}{base:Nat}{e:TypeId}{size:Nat}{v:Value}{n:Nat}{xs:List Value}
    (h:w.ownsRow base e size v n xs) (hs:∀k,v.ownBlock=some k->w'.heap[k]? =w.heap[k]?):w'.ownsRow base e size v n xs:=by
 obtain⟨h1,h2⟩:=h;refine⟨h1,?_⟩;rcases h2 with h2|⟨g,cap,cur,rfl,hg,hh,r⟩
 · exact Or.inl h2
 · exact Or.inr ⟨g,cap,cur,rfl,hg,by rw[hs g rfl];exact hh,r⟩
theorem cD{w:World}{base:Nat}{e:TypeId}{v:Value}{n:Nat}{xs:List Value}(h:w.ownsRow base e 1 v n xs){i:Nat}(hi:i<n):
    ∃g cap,v=.slice (some ⟨g,0,none⟩) n cap/\n<=cap/\g<w.heap.size/\w.cell? ⟨g,i,none⟩=xs[i]? /\ (∀j,w.frozen? ⟨g,j,none⟩=false):=by
 obtain⟨h1,h2⟩:=h;rcases h2 with⟨_,h2⟩|⟨g,cap,cur,rfl,_,hh,hn,hm,hsz,hxs⟩
 · omega
 {
 refine⟨g,cap,rfl,hn,(qU.1 hh).1,?_,fun j=>by simp[World.frozen?,hh]⟩;subst hxs;simp only[World.cell?,hh];simp[hi]}
theorem aJ{w:World}{base:Nat}{e:TypeId}{size:Nat}{v:Value}{n:Nat}{xs:List Value}(h:w.ownsRow base e size v n xs):∃a cap,v=.slice a n cap:=by
 rcases h.2 with⟨rfl,rfl⟩|⟨g,cap,cur,rfl,_⟩
 · exact⟨_,_,rfl⟩
 · exact⟨_,_,rfl⟩
theorem lZ{w:World}{e:TypeId}{g n cap i:Nat}{xs:List Value}(h:w.ownsRow 0 e 1 (.slice (some ⟨g,0,none⟩) n cap) n xs)(_hi:i<n)(u:Value):
    (w.setCell ⟨g,i,none⟩ u).ownsRow 0 e 1 (.slice (some ⟨g,0,none⟩) n cap) n (xs.set i u):=by
 obtain⟨h1,h2⟩:=h;refine⟨by simpa using h1,?_⟩;rcases h2 with⟨h2,_⟩|⟨g', cap', cur,e1,_,hh,hn,hm,hsz,hxs⟩
 · cases h2
 {
 simp only[qY,qQ,Addr.mk.injEq,and_true,true_and]at e1;obtain⟨rfl,rfl⟩:=e1;refine .inr ⟨g,cap,cur.setIfInBounds i u,rfl,zB _,?_,hn,hm,by simpa using hsz,?_⟩
 {
 simp only[World.setCell,Array.getElem?_modify];simp[hh]}
 · rw[<-hxs,Array.toList_setIfInBounds,Nat.mul_one,List.take_set]}
theorem bQ{w:World}{base:Nat}{e:TypeId}{size:Nat}{v:Value}{n:Nat}{xs:List Value}(h:w.ownsRow base e size v n xs)(a:Addr)(u:Value)(hn:v.ownBlock≠some a.block):
    (w.setCell a u).ownsRow base e size v n xs:=
  aI h fun _k hk=>Below.heap_setCell _ _ _ _ (fun e=>hn (e▸hk))
theorem aIB{k:IntKind}{a b:Int}(h:a=b):Ending.returned (.int k a)=.returned (.int k b):=by rw[h]
theorem fS(W:World)(n:Nat)(u:Value)(t:TypeId)(h:W.heap.size=n):(W.alloc (.cells #[u] t)).cell? ⟨n,0,none⟩=some u:=by
 subst h;simp
theorem aAM{P:Program}(w:World)(t ty e:TypeId)(i:TypeInfo)(z:Value)(size bytes:Nat)(ht:P.underlying t=some (.slice e))(hi:P.info? e=some i)(hz:i.zero=some z)
    (hsize:i.size=size) (hby:i.bytes=bytes) (hzs:z.cells.size=size) (hsz:0<size)
    (v:Value) (n:Nat) (xs:List Value) (hown:w.ownsRow 0 e size v n xs)
    (a:Addr) (m c:Nat) (news:List Value) (hl:news.length=m*size) (hnews:∀j u,news[j]? =some u->w.cell? (a.add j)=some u) (h1:∀u∈news,u.oneCell' =true)
    (hm:0<m) (h63:n+m<=maxLen) (hbytes:(n+m)*bytes<=140737488355328):
    ∃g cap w', (Builtin.append_ #[t,t] ty #[v,.slice (some a) m c]).run P w=.ok (.slice (some ⟨g,0,none⟩) (n+m) cap) w' /\ w'.ownsRow 0 e size (.slice (some ⟨g,0,none⟩) (n+m) cap) (n+m) (xs++news) /\
      w.grownBy w' v.ownBlock/\(v.ownBlock=some g∨w.heap.size<=g):=by
 obtain⟨v', w', hr,h2,h3,_⟩:=run_append_own (P:=P) w 0 t ty e i z size bytes ht hi hz hsize hby hzs hsz v n xs hown a m c news hl hnews h1 h63 hbytes (zB _);rcases hown.2 with⟨rfl,rfl⟩|⟨g,cap,cur,rfl,_,hg,hnc,hcm,hcs,htake⟩
 {
 obtain⟨v2,w2,hr2,h22,_,_⟩:=run_append_own (P:=P) w w.heap.size t ty e i z size bytes ht hi hz hsize hby hzs hsz (.slice none 0 0) 0 xs ⟨hown.1,.inl ⟨rfl,rfl⟩⟩ a m c news hl hnews h1 h63 hbytes (qS _);rw[hr]at hr2;simp only[Result.ok.injEq]at hr2;obtain⟨rfl,rfl⟩:=hr2;rcases h22.2 with⟨_,h0⟩|⟨g,cap,cur,rfl,hgb,_⟩
 · omega
 · exact⟨g,cap,_,hr,h2,h3,.inr hgb⟩}
 {
 by_cases hroom:n+m<=cap
 {
 have hfit:n*i.size+news.length<=cur.size:=by rw[hl,hcs,hsize,<-Nat.add_mul];exact Nat.mul_le_mul_right _ hroom
 have hr2:=run_append_room (P:=P) w t ty e i ht hi g n cap cur hg a m c news (by rw[hsize];exact hl) hnews h1 hroom hfit;rw[hr]at hr2;simp only[Result.ok.injEq]at hr2;obtain⟨rfl,rfl⟩:=hr2;exact⟨g,cap,_,hr,h2,h3,.inl rfl⟩}
 {
 have holds:∀j u,xs[j]? =some u->w.cell? ((⟨g,0,none⟩:Addr).add j)=some u:=hown.cells (g:=g) rfl;obtain⟨v2,w2,hr2,h22,_⟩:=run_append_arg_grows (P:=P) w t ty e i z size bytes ht hi hz hsize hby hzs hsz ⟨g,0,none⟩ n cap xs hown.1 holds a m c news hl hnews (by omega) h63 hbytes;rw[hr]at hr2;simp only[Result.ok.injEq]at hr2;obtain⟨rfl,rfl⟩:=hr2;rcases h22.2 with⟨_,h0⟩|⟨g', cap', cur', rfl,hgb,_⟩
 · omega
 · exact⟨g', cap', _,hr,h2,h3,.inr hgb⟩}}
theorem aFO{P:Program}{w:World}{ops:Array Oper}{rest:List Oper}{o:Oper}{a:Act}{Q:Exit->Act->World->Prop}(hgd:o.guard=none)(s x:Operand)(t:TypeId)
    (ho:o.op=.call { callee:=.builtin .append,args:=#[s,x],argTypes:=#[t,t] })
    (e:TypeId) (i:TypeInfo) (z:Value) (size bytes:Nat) (ht:P.underlying t=some (.slice e)) (hi:P.info? e=some i) (hz:i.zero=some z)
    (hsize:i.size=size) (hby:i.bytes=bytes) (hzs:z.cells.size=size) (hsz:0<size)
    (v:Value) (n:Nat) (xs:List Value) (hs:a.eval s=v) (hown:w.ownsRow 0 e size v n xs)
    (ad:Addr) (m c:Nat) (news:List Value) (hx:a.eval x=.slice (some ad) m c) (hl:news.length=m*size) (hnews:∀j u,news[j]? =some u->w.cell? (ad.add j)=some u) (h1:∀u∈news,u.oneCell' =true)
    (hm:0<m) (h63:n+m<=maxLen) (hbytes:(n+m)*bytes<=140737488355328)
    (h:∀g cap w', w'.ownsRow 0 e size (.slice (some ⟨g,0,none⟩) (n+m) cap) (n+m) (xs++news)->w.grownBy w' v.ownBlock->(v.ownBlock=some g∨w.heap.size<=g) ->
      wpList P ops Q rest (a.put o.dst (.slice (some ⟨g,0,none⟩) (n+m) cap)) w'):wpList P ops Q (o::rest) a w:=by
 refine wpList_plain hgd fun K hK=>?_;obtain⟨g,cap,w', hr,h2,h3,h4⟩:=aAM (P:=P) w t o.type e i z size bytes ht hi hz hsize hby hzs hsz v n xs hown ad m c news hl hnews h1 hm h63 hbytes;unfold Oper.wp execOp;simp only[ho,resolve,invoke,builtin,Sem.run_bind,Sem.run_pure,Result.andThen_ok,List.map_toArray,List.map_cons,List.map_nil,hs,hx,hr];exact hK _ _ (h g cap w' h2 h3 h4)
theorem fT{P:Program}{w:World}{ops:Array Oper}{rest:List Oper}{o:Oper}{a:Act}{Q:Exit->Act->World->Prop}(hgd:o.guard=none)(s x:Operand)(t:TypeId)
    (ho:o.op=.call { callee:=.builtin .append,args:=#[s,x],argTypes:=#[t,t] })
    (e:TypeId) (z:Value) (bytes:Nat) (ht:P.underlying t=some (.slice e)) (hinfo:(P.info? e).map (fun i=>(i.zero,i.size,i.bytes))=some (some z,1,bytes)) (hzs:z.cells.size=1)
    (v:Value) (n:Nat) (xs:List Value) (hs:a.eval s=v) (hown:w.ownsRow 0 e 1 v n xs)
    (b:Nat) (u:Value) (hx:a.eval x=.slice (some ⟨b,0,none⟩) 1 1) (hu:w.cell? ⟨b,0,none⟩=some u) (hu1:u.oneCell' =true)
    (hn:n+1<=4294967296) (hby:bytes<=1024)
    (h:∀g cap w', w'.ownsRow 0 e 1 (.slice (some ⟨g,0,none⟩) (n+1) cap) (n+1) (xs++[u])->w.grownBy w' v.ownBlock->(v.ownBlock=some g∨w.heap.size<=g) ->
      wpList P ops Q rest (a.put o.dst (.slice (some ⟨g,0,none⟩) (n+1) cap)) w'):wpList P ops Q (o::rest) a w:=by
 obtain⟨i0,hi,hz0,hz1,hz2⟩:=info_parts hinfo;refine aFO hgd s x t ho e i0 z 1 bytes ht hi hz0 hz1 hz2 hzs (by decide) v n xs hs hown ⟨b,0,none⟩ 1 1 [u] hx rfl ?_ ?_ (by decide) (by unfold maxLen;omega) ?_ h
 {
 intro j x hj;cases j with
 | zero=>simp at hj;subst hj;exact hu
 | succ j=>simp at hj}
 · simp[hu1]
 {
 have:(n+1)*bytes<=4294967296*1024:=Nat.mul_le_mul hn hby;omega}
section
variable {P:Program} {ops:Array Oper} {md:Region.Mode} (G:Nat->Sem Go.Next->Value->Prop)
def gOp(ops:Array Oper)(i:Nat)(K:Act->Prop)(a:Act):Prop:=
  match ops[i]? with
  | none=>K a
  | some o=>if Region.wanted o (yielded ops a.tmps) then ∃v,G i (execOp a.eval o) v/\K (a.put o.dst v) else K (a.put o.dst undef)
def dZ(ops:Array Oper)(Q:Act->Prop):Nat->List Oper->Act->Prop
  | _,[],a=>Q a
  | k,o::rest,a=>if Region.wanted o (yielded ops a.tmps) then ∃v,G k (execOp a.eval o) v/\dZ ops Q (k+1) rest (a.put o.dst v) else dZ ops Q (k+1) rest (a.put o.dst undef)
def aCN(md:Region.Mode)(ops:Array Oper)(Q:Act->Prop):Nat->Array Bool->Act->Prop
  | 0,listed,a=>Region.ready md ops listed=[]/\Q a
  | fuel+1,listed,a=>
    (Region.ready md ops listed=[]->Q a)/\∀i∈Region.ready md ops listed,gOp G ops i (aCN md ops Q fuel (listed.setIfInBounds i true)) a
variable {G}
def fL(G:Nat->Sem Go.Next->Value->Prop)(ops:Array Oper)(i:Nat)(o:Oper)(v:Value)(a:Act):Prop:=
  (Region.wanted o (yielded ops a.tmps)=true/\G i (execOp a.eval o) v)∨(Region.wanted o (yielded ops a.tmps)=false/\v=undef)
theorem fL.op{i:Nat}{o:Oper}{v:Value}{a:Act}(hi:ops[i]? =some o)(hy:fL G ops i o v a){K:Act->Prop}(h:K (a.put o.dst v)):gOp G ops i K a:=by
 unfold gOp;simp only[hi];rcases hy with⟨hw,hv⟩|⟨hw,rfl⟩
 · rw[qI hw];exact⟨v,hv,h⟩
 · rw[qH (by simp[hw])];exact h
theorem fL.same{i:Nat}{o:Oper}{v:Value}{a a' :Act}(hy:fL G ops i o v a)(he:execOp a'.eval o=execOp a.eval o)
    (hw:Region.wanted o (yielded ops a'.tmps)=Region.wanted o (yielded ops a.tmps)):fL G ops i o v a' :=by
 unfold fL at *;rw[he,hw];exact hy
theorem aMY{i:Nat}{a:Act}{K K' :Act->Prop}(h:∀a,K a->K' a)(hh:gOp G ops i K a):gOp G ops i K' a:=by
 unfold gOp at *;cases ho:ops[i]? with
 | none=>simp only[ho]at hh ⊢;exact h _ hh
 | some o=>{
 simp only[ho]at hh ⊢;by_cases hw:Region.wanted o (yielded ops a.tmps)=true
 · rw[qI hw]at *;obtain⟨v,h1,h2⟩:=hh;exact⟨v,h1,h _ h2⟩
 · rw[qH hw]at *;exact h _ hh}
theorem xB{i:Nat}{o:Oper}{a:Act}{K:Act->Prop}(hi:ops[i]? =some o)(h:gOp G ops i K a):∃v,fL G ops i o v a/\K (a.put o.dst v):=by
 unfold gOp at h;simp only[hi]at h;by_cases hw:Region.wanted o (yielded ops a.tmps)=true
 {
 rw[qI hw]at h;obtain⟨v,h1,h2⟩:=h;exact⟨v,.inl ⟨hw,h1⟩,h2⟩}
 {
 rw[qH hw]at h;exact⟨undef,.inr ⟨by simpa using hw,rfl⟩,h⟩}
theorem aSR{i j:Nat}{oi oj:Oper}{v:Value}(hj:ops[j]? =some oj)(hap:oi.apart ops oj=true)
    (hsi:∀cs b,oi.op≠.select cs b) (hsj:∀cs b,oj.op≠.select cs b) {K:Act->Prop} {a:Act}
    (hy:fL G ops i oi v a) (h:gOp G ops j K (a.put oi.dst v)):
    gOp G ops j (fun a' =>fL G ops i oi v a' /\ K (a'.put oi.dst v)) a:=by
 obtain⟨h1,h2,h3⟩:=Oper.apart_spec hap;have keep:∀(a:Act),fL G ops i oi v a->∀u,fL G ops i oi v (a.put oj.dst u):=fun a hy u=>
   hy.same (execOp_put oi hsi a oj.dst u h3) (wanted_put oi a oj.dst u h3)
 unfold gOp at *;simp only[hj]at *;rw[wanted_put oj a oi.dst v h1]at h;by_cases hw:Region.wanted oj (yielded ops a.tmps)=true
 {
 rw[qI hw]at *;obtain⟨u,hu,hn⟩:=h;rw[execOp_put oj hsj a oi.dst v h1]at hu;exact⟨u,hu,keep a hy u,by rw[<-Act.put_comm a v u h2];exact hn⟩}
 {
 rw[qH hw]at *;exact⟨keep a hy _,by rw[<-Act.put_comm a v undef h2];exact h⟩}
theorem aFP{Q:Act->Prop}{i:Nat}{oi:Oper}{v:Value}(hi:ops[i]? =some oi)(hsel:∀(j:Nat) (o:Oper) cs b,ops[j]? =some o->o.op≠.select cs b):
    ∀(fuel:Nat) (listed:Array Bool) (a:Act),
      (∀j oj,ops[j]? =some oj->j≠i->listed.getD j true=false->(∀e∈oj.after,Region.binds md e=true->e.on≠i)->oi.apart ops oj=true) ->
      i∈Region.ready md ops listed->fL G ops i oi v a ->
      aCN G md ops Q fuel (listed.setIfInBounds i true) (a.put oi.dst v)->aCN G md ops Q (fuel+1) listed a:=by
  intro fuel;induction fuel with
  | zero=>
    intro listed a _ hr hy H;refine⟨fun h=>(by rw[h]at hr;cases hr),fun j hj=>?_⟩;by_cases hji:j=i
    · subst hji;exact hy.op hi H
    · have := ready_mono hj hji
      rw[H.1]at this;cases this
  | succ fuel ih=>
    intro listed a hfree hr hy H;refine⟨fun h=>(by rw[h]at hr;cases hr),fun j hj=>?_⟩;by_cases hji:j=i
    · subst hji;exact hy.op hi H
    · have h1 := H.2 j (ready_mono hj hji)
      obtain⟨hjun,oj,hoj,hall⟩:=mem_ready.1 hj;have hnot:∀e∈oj.after,Region.binds md e=true->e.on≠i:=fun e he hb heq=>by
        have h1:=hall e he hb;have h0:=(mem_ready.1 hr).1;rw[heq]at h1;rcases Nat.lt_or_ge i listed.size with h' | h'
        · simp[h']at h0 h1;rw[h0]at h1;cases h1
        · simp[Array.getElem?_eq_none h']at h1
      have h2:=aSR hoj (hfree j oj hoj hji hjun hnot) (fun cs b=>hsel i oi cs b hi) (fun cs b=>hsel j oj cs b hoj) hy h1
      have hfree' :∀k ok,ops[k]? =some ok->k≠i->(listed.setIfInBounds j true).getD k true=false ->
          (∀e∈ok.after,Region.binds md e=true->e.on≠i)->oi.apart ops ok=true:=fun k ok hk hki hun hno=>by
        refine hfree k ok hk hki ?_ hno;by_cases hjk:j=k
        · subst hjk;exact hjun
        · rw[getD_set_ne true hjk]at hun;exact hun
      refine aMY (fun a' h3=>ih (listed.setIfInBounds j true) a' hfree' (ready_mono hr (Ne.symm hji)) h3.1 ?_) h2;rw[Array.setIfInBounds_comm _ _ hji];exact h3.2
theorem uA{Q:Act->Prop}(hs:Region.noSelect ops=true):∀(l:List Oper) (k:Nat) (listed:Array Bool) (a:Act),(∀j,l[j]? =ops[k+j]?) ->
    Region.lexFrom md ops l.length k listed=true->dZ G ops Q k l a->aCN G md ops Q l.length listed a
  | [],_,_,_,_,hB,h=>⟨by simpa[Region.lexFrom] using hB,h⟩
  | o::l,k,listed,a,hl,hB,h=>by
    have h0:ops[k]? =some o:=by simpa using (hl 0).symm
    simp only[zI,Region.lexFrom,zG]at hB;obtain⟨⟨hr,hf⟩,hB'⟩:=hB;have hst:gOp G ops k (dZ G ops Q (k+1) l) a:=by unfold gOp;simp only[h0];exact h
    obtain⟨v,hy,hK⟩:=xB h0 hst
    exact aFP h0 (Region.noSelect_spec hs) l.length listed a (Region.free_spec h0 hf) (by simpa using hr) hy
      (uA hs l (k+1) _ _ (fun j=>by have:=hl (j+1);simpa[Nat.add_assoc,Nat.add_comm 1 j] using this) hB' hK)
end
def fB(P:Program)(C1:World->Prop)(v:Value):Result Go.Next->Prop
  | .ok (.value u) w' =>u=v/\C1 w'
  | .ok .skip w' =>v=undef/\C1 w'
  | .ok (.enter f args) w' =>Calls P f args w' (fun e w'' =>e=.returned v/\C1 w'')
  | _=>False
def mA(w:World)(v:Value):Result Go.Next->Prop
  | .ok (.value u) w' =>w' =w/\u=v
  | .ok .skip w' =>w' =w/\v=undef
  | _=>False
def nV(P:Program)(c:Nat)(C0 C1:World->Prop)(i:Nat)(s:Sem Go.Next)(v:Value):Prop:=
  if i<c then ∀w,C0 w->Oper.quietUpon P C0 w v (s.run P w) else if i=c then ∀w,C0 w->fB P C1 v (s.run P w) else ∀w,mA w v (s.run P w)
theorem oN{P:Program}{o:Oper}{a:Act}{v:Value}{C:World->Prop}{w:World}{K' :Act->World->Prop}{Q' :Exit->Act->World->Prop}(hw:C w)(h:∀w', C w' -> K' (a.put o.dst v) w')
    {r:Result Go.Next} (h3:Oper.quietUpon P C w v r):o.upon P a K' Q' r:=by
 cases r with
 | halt x w' =>exact h3.elim
 | ok x w' =>{
 cases x with
 | value u=>obtain⟨rfl,rfl⟩:=h3;exact h _ hw
 | skip=>obtain⟨rfl,rfl⟩:=h3;exact h _ hw
 | enter f args=>{
 obtain⟨rfl,hc⟩:=h3;exact hc.mono fun e w'' ⟨he,hw''⟩=>by subst he;exact h _ hw''}
 | _=>exact h3.elim}
theorem oO{P:Program}{o:Oper}{a:Act}{v:Value}{C:World->Prop}{K' :Act->World->Prop}{Q' :Exit->Act->World->Prop}(h:∀w', C w' -> K' (a.put o.dst v) w')
    {r:Result Go.Next} (h3:fB P C v r):o.upon P a K' Q' r:=by
 cases r with
 | halt x w' =>exact h3.elim
 | ok x w' =>{
 cases x with
 | value u=>obtain⟨rfl,hc⟩:=h3;exact h _ hc
 | skip=>obtain⟨rfl,hc⟩:=h3;exact h _ hc
 | enter f args=>exact Calls.mono h3 fun e w'' ⟨he,hw''⟩=>by subst he;exact h _ hw''
 | _=>exact h3.elim}
theorem xU{P:Program}{o:Oper}{a:Act}{v:Value}{w:World}{K' :Act->World->Prop}{Q' :Exit->Act->World->Prop}(h:K' (a.put o.dst v) w)
    {r:Result Go.Next} (h3:mA w v r):o.upon P a K' Q' r:=by
 cases r with
 | halt x w' =>exact h3.elim
 | ok x w' =>{
 cases x with
 | value u=>obtain⟨rfl,rfl⟩:=h3;exact h
 | skip=>obtain⟨rfl,rfl⟩:=h3;exact h
 | _=>exact h3.elim}
section
variable {P:Program} {ops:Array Oper} {md:Region.Mode} {C0 C1:World->Prop} {c:Nat}
theorem eE(m j:Nat):(Array.replicate m false).getD j false=false:=by
 by_cases h:j<m<;>simp[h]
def uB(md:Region.Mode)(ops:Array Oper):Nat->Array Bool->Array Bool
  | 0,S=>S
  | j+1,S=>uB md ops j (if S.getD j false then(match ops[j]? with|some o=>o.after.toList.foldl (fun S e=>if Region.binds md e then S.setIfInBounds e.on true else S) S|none=>S) else S)
def rO(md:Region.Mode)(ops:Array Oper)(c:Nat):Bool:=(List.range c).all fun i=>(uB md ops (c+1) ((Array.replicate ops.size false).setIfInBounds c true)).getD i false
def tF(md:Region.Mode)(ops:Array Oper)(L:Array Bool):Prop:=∀j oj,ops[j]? =some oj->L.getD j false=true->∀e∈oj.after,Region.binds md e=true->L.getD e.on false=true
theorem nJ{L:Array Bool}(hL:tF md ops L):∀(j:Nat) (S:Array Bool),(∀i,S.getD i false=true->L.getD i false=true)->∀i,(uB md ops j S).getD i false=true->L.getD i false=true
  | 0,S,h=>h
  | j+1,S,h=>by
    unfold uB;refine nJ hL j _ ?_;by_cases hj:S.getD j false=true
    · rw [qI hj]
      cases ho:ops[j]? with
      | none=>exact h
      | some o=>
        have hcl:=hL j o ho (h j hj)
        have key:∀(es:List Edge) (T:Array Bool),(∀e∈es,e∈o.after.toList)->(∀i,T.getD i false=true->L.getD i false=true) ->
            ∀i,(es.foldl (fun S e=>if Region.binds md e then S.setIfInBounds e.on true else S) T).getD i false=true->L.getD i false=true:=by
          intro es;induction es with
          | nil=>intro T _ hT;exact hT
          | cons e es ih=>
            intro T hes hT;rw[List.foldl_cons];refine ih _ (fun e' he' =>hes e' (List.mem_cons_of_mem _ he')) ?_;by_cases hb:Region.binds md e=true
            · rw [qI hb]
              intro i hi;by_cases hei:e.on=i
              · rw[<-hei];exact hcl e (by simpa using hes e (by simp)) hb
              · rw[getD_set_ne false hei]at hi;exact hT i hi
            · rw[qH hb];exact hT
        exact key _ S (fun e he=>he) h
    · rw[qH hj];exact h
theorem xC{L:Array Bool}(hL:tF md ops L)(hB:rO md ops c=true)(hc:L.getD c false=true):∀i,i<c->L.getD i false=true:=by
 intro i hi;have h1:=List.all_eq_true.1 hB i (by simpa using hi);refine nJ hL (c+1) _ ?_ i h1;intro j hj;by_cases e:c=j
 · rw[<-e];exact hc
 {
 rw[getD_set_ne false e,eE]at hj;cases hj}
theorem tF.set{L:Array Bool}{i:Nat}(h:tF md ops L)(hi:i∈Region.ready md ops L):tF md ops (L.setIfInBounds i true):=by
 obtain⟨_,oi,hoi,hall⟩:=mem_ready.1 hi;intro j oj hj hl e he hb;by_cases hij:i=j
 {
 subst hij;have:oj=oi:=Option.some.inj (hj.symm.trans hoi);subst this;exact getD_set_true (hall e he hb)}
 {
 rw[getD_set_ne false hij]at hl;exact getD_set_true (h j oj hj hl e he hb)}
def mC(c:Nat)(C0 C1:World->Prop)(listed:Array Bool)(w:World):Prop:=if listed.getD c false=true then C1 w else C0 w
def fU(md:Region.Mode)(ops:Array Oper):Bool:=(List.range ops.size).all fun j=>match ops[j]? with
  | some o=>o.after.all fun e=> !Region.binds md e||decide (e.on<j)
  | none=>true
theorem kA{listed:Array Bool}(hs:listed.size=ops.size)(hb:fU md ops=true)(h:Region.ready md ops listed=[]):∀j,j<ops.size->listed.getD j false=true:=by
 intro j;induction j using Nat.strongRecOn with
 | _ j ih=>{
 intro hj;apply qZ;intro hno;have hun:listed.getD j true=false:=by simp[hs,hj]at hno ⊢;exact hno
 obtain⟨o,ho⟩:∃o,ops[j]? =some o:=⟨_,Array.getElem?_eq_getElem hj⟩;have hin:j∈Region.ready md ops listed:=by {
 refine mem_ready.2 ⟨hun,o,ho,fun e he hbe=>?_⟩;have h1:=List.all_eq_true.1 hb j (by simpa using hj);simp only[ho]at h1;have h2:=Array.all_eq_true'.1 h1 e he;simp[hbe]at h2;exact ih e.on h2 (by omega)};rw[h]at hin;cases hin}
theorem sS(hc:c<ops.size)(hb:fU md ops=true)(hbf:rO md ops c=true)(hu:∀o,ops[c]? =some o->o.guard=none){Q:Act->Prop}{Q' :Exit->Act->World->Prop}(hQ:∀a w,C1 w->Q a->Q' .normal a w):∀(fuel:Nat) (listed:Array Bool) (a:Act) (w:World),listed.size=ops.size ->
    tF md ops listed->mC c C0 C1 listed w->aCN (nV P c C0 C1) md ops Q fuel listed a->wpAny P md ops Q' fuel listed a w
  | 0,listed,a,w,hs,_,hp,h=>⟨h.1,hQ _ _ (by unfold mC at hp;rw[qI (kA hs hb h.1 c hc)]at hp;exact hp) h.2⟩
  | fuel+1,listed,a,w,hs,hsh,hp,h=>by
    refine⟨fun h0=>hQ _ _ (by unfold mC at hp;rw[qI (kA hs hb h0 c hc)]at hp;exact hp) (h.1 h0),fun i hi=>?_⟩;have hg:=h.2 i hi;obtain⟨hun,oi,hoi,_⟩:=mem_ready.1 hi;have hil:i<ops.size:=(qU.1 hoi).1;have hs' :(listed.setIfInBounds i true).size=ops.size:=by simp[hs]
    have hl0:listed.getD i false=false:=by
      simp[hs,hil]at hun ⊢;exact hun
    have next:∀a' w', mC c C0 C1 (listed.setIfInBounds i true) w' -> aCN (nV P c C0 C1) md ops Q fuel (listed.setIfInBounds i true) a' -> wpAny P md ops Q' fuel (listed.setIfInBounds i true) a' w' :=
      fun a' w' hp' hg' =>sS hc hb hbf hu hQ fuel _ a' w' hs' (hsh.set hi) hp' hg'
    unfold gOp at hg;unfold wpOp;simp only[hoi]at hg ⊢;by_cases hic:i=c
    · subst hic
      have hl1:(listed.setIfInBounds i true).getD i false=true:=by simp[hs,hil]
      unfold mC at hp;rw[qH (by simp[hl0])]at hp;have hw:Region.wanted oi (yielded ops a.tmps)=true:=by simp[Region.wanted,hu oi hoi]
      rw[qI hw]at hg ⊢;obtain⟨v,hv,hk⟩:=hg;unfold nV at hv;rw[qH (Nat.lt_irrefl _),qI rfl]at hv;exact .inl (oO (fun w' hc' =>next _ w' (by unfold mC;rw[qI hl1];exact hc') hk) (hv w hp))
    · have hlc : (listed.setIfInBounds i true).getD c false = listed.getD c false := getD_set_ne false hic
      by_cases hw:Region.wanted oi (yielded ops a.tmps)=true
      · rw [qI hw] at hg ⊢
        obtain⟨v,hv,hk⟩:=hg;unfold nV at hv;left
        by_cases hlt:i<c
        · have hcl : ¬ listed.getD c false = true := fun hcl => by rw [xC hsh hbf hcl i hlt] at hl0; cases hl0
          rw[qI hlt]at hv;unfold mC at hp;rw[qH hcl]at hp;exact oN hp (fun w' hc' =>next _ w' (by unfold mC;rw[hlc,qH hcl];exact hc') hk) (hv w hp)
        · rw [qH hlt, qH hic] at hv
          exact xU (next _ w (by unfold mC at hp ⊢;rw[hlc];exact hp) hk) (hv w)
      · rw [qH hw] at hg ⊢
        exact next _ w (by unfold mC at hp ⊢;rw[hlc];exact hp) hg
theorem bA(c:Nat){id:Nat}{Q:Exit->Act->World->Prop}{a:Act}{w:World}{l:List Oper}(C1:World->Prop)(hm:P.follows .mixedOrders=true)(hB:Region.lexB .any l.toArray=true)
    (hk:((fU .any l.toArray&&rO .any l.toArray c)&&match l[c]? with|some o=>o.guard.isNone|none=>false)=true)
    (h:dZ (nV P c (fun w' =>∃n,w' =w.drewN n) C1) l.toArray (fun a' =>∀w', C1 w' -> Q .normal a' w') 0 l a):(Code.region id l.toArray true).wp P Q a w:=by
 simp only[Region.lexB,zG]at hB;rw[zG,zG]at hk;obtain⟨⟨hk1,hk3⟩,hk2⟩:=hk;have hcl:c<l.length:=by {
 cases ho:l[c]? with
 | none=>rw[ho]at hk2;cases hk2
 | some o=>exact(zC.1 ho).1};have hg:∀o,l.toArray[c]? =some o->o.guard=none:=by {
 intro o ho;simp only[List.getElem?_toArray]at ho;rw[ho]at hk2;simpa using hk2};refine wp_region_any hm (sS (Q:=fun a' =>∀w', C1 w' -> Q .normal a' w') (C0:=fun w' =>∃n,w' =w.drewN n) (C1:=C1) (c:=c) (by simpa using hcl) hk1 hk3 hg (fun _ w' hw' h=>h w' hw') _ _ _ _ (by simp) ?_ ?_ ?_)
 · intro j oj _ hl;rw[eE]at hl;cases hl
 {
 unfold mC;rw[qH (by simp[hcl])];exact⟨1,rfl⟩}
 {
 have:=uA (G:=nV P c (fun w' =>∃n,w' =w.drewN n) C1) (md:=.any) hB.1 l 0 (Array.replicate l.toArray.size false) a (by simp) (by simpa using hB.2) h;simpa using this}
theorem bM{C0 C1:World->Prop}{Q:Act->Prop}{k:Nat}{o:Oper}{rest:List Oper}{a:Act}(hk:k<c)
    (h:∀K:Act->Prop,(∀a,dZ (nV P c C0 C1) ops Q (k+1) rest a->K a)->if Region.wanted o (yielded ops a.tmps) then o.quiet P a C0 K else K (a.put o.dst undef)):dZ (nV P c C0 C1) ops Q k (o::rest) a:=by
 have h:=h _ (fun _ h=>h);unfold dZ;by_cases hw:Region.wanted o (yielded ops a.tmps)=true
 {
 rw[qI hw]at *;obtain⟨v,h1,h2⟩:=h;refine⟨v,?_,h2⟩;unfold nV;rw[qI hk];exact h1}
 · rw[qH hw]at *;exact h
theorem aO{C0 C1:World->Prop}{Q:Act->Prop}{o:Oper}{rest:List Oper}{a:Act}(hg:o.guard=none)(v:Value)
    (h0:∀w,C0 w->fB P C1 v ((execOp a.eval o).run P w)) (h:dZ (nV P c C0 C1) ops Q (c+1) rest (a.put o.dst v)):dZ (nV P c C0 C1) ops Q c (o::rest) a:=by
 unfold dZ;rw[qI (by simp[Region.wanted,hg])];refine⟨v,?_,h⟩;unfold nV;rw[qH (Nat.lt_irrefl _),qI rfl];exact h0
def Oper.pure_(P:Program)(o:Oper)(a:Act)(next:Act->Prop):Prop:=∃v,(∀w,mA w v ((execOp a.eval o).run P w))/\next (a.put o.dst v)
theorem eU{C0 C1:World->Prop}{Q:Act->Prop}{k:Nat}{o:Oper}{rest:List Oper}{a:Act}(hk:c<k)
    (h:∀K:Act->Prop,(∀a,dZ (nV P c C0 C1) ops Q (k+1) rest a->K a)->if Region.wanted o (yielded ops a.tmps) then Oper.pure_ P o a K else K (a.put o.dst undef)):dZ (nV P c C0 C1) ops Q k (o::rest) a:=by
 have h:=h _ (fun _ h=>h);unfold dZ;by_cases hw:Region.wanted o (yielded ops a.tmps)=true
 {
 rw[qI hw]at *;obtain⟨v,h1,h2⟩:=h;refine⟨v,?_,h2⟩;unfold nV;rw[qH (by omega),qH (by omega)];exact h1}
 · rw[qH hw]at *;exact h
theorem bN{C0 C1:World->Prop}{Q:Act->Prop}{k:Nat}{a:Act}(h:Q a):dZ (nV P c C0 C1) ops Q k [] a:=h
attribute [go_sem] Oper.pure_ mA fB
end
def cM{α:Type}(f:Nat->α)(i:Nat)(v:α):Nat->α:=fun k=>if k=i then v else f k
theorem dK{α:Type}(f:Nat->α)(i:Nat)(v:α):cM f i v i=v:=qI rfl
theorem aT{α:Type}(f:Nat->α){i k:Nat}(v:α)(h:k≠i):cM f i v k=f k:=qH h
def gC(P:Program)(K:Value->World->Prop):Result Go.Next->Prop
  | .ok (.value u) w' =>K u w'
  | .ok .skip w' =>K undef w'
  | .ok (.enter f args) w' =>Calls P f args w' (fun e w'' =>∃v,e=.returned v/\K v w'')
  | _=>False
attribute [go_sem] gC
theorem aKB{P:Program}{o:Oper}{a:Act}{K:Value->World->Prop}{K' :Act->World->Prop}{Q' :Exit->Act->World->Prop}(h:∀v w', K v w' -> K' (a.put o.dst v) w')
    {r:Result Go.Next} (h3:gC P K r):o.upon P a K' Q' r:=by
 cases r with
 | halt x w' =>exact h3.elim
 | ok x w' =>{
 cases x with
 | value u=>exact h _ _ h3
 | skip=>exact h _ _ h3
 | enter f args=>exact Calls.mono h3 fun e w'' ⟨v,he,hw''⟩=>by subst he;exact h _ _ hw''
 | _=>exact h3.elim}
section
variable {P:Program} {ops:Array Oper} {md:Region.Mode} {f:Nat->Value} {S S' :Nat->Bool} {a:Act}
def dR(ops:Array Oper)(k:Nat):Option Tmp:=(ops[k]?).bind (·.dst)
def bK(ops:Array Oper)(f:Nat->Value)(S:Nat->Bool)(a:Act):Nat->Act
  | 0=>a
  | k+1=>if S k=true then(bK ops f S a k).put (dR ops k) (f k) else bK ops f S a k
theorem rP{k:Nat}(h:S k=true):bK ops f S a (k+1)=(bK ops f S a k).put (dR ops k) (f k):=by
 show(if S k=true then _ else _)=_
 rw[qI h]
def uC(ops:Array Oper):Bool:=(List.range ops.size).all fun i=>(List.range ops.size).all fun k=>i == k||(match dR ops i with|some d=>dR ops k != some d|none=>true)
def iH(md:Region.Mode)(o:Oper):List Nat:=(o.after.toList.filter fun e=>Region.binds md e).map (·.on)
def aYE(md:Region.Mode)(ops:Array Oper):Bool:=(List.range ops.size).all fun i=>match ops[i]? with
  | none=>true
  | some o=>(List.range ops.size).all fun k=>(match dR ops k with|some d=> !(o.looksAt ops).contains d||((iH md o).contains k&&decide (k<i))|none=>true)
theorem xV(h:uC ops=true){i k:Nat}{d:Tmp}(hi:dR ops i=some d)(hk:dR ops k=some d):i=k:=by
 have lt:∀{j},dR ops j=some d->j<ops.size:=fun {j} hj=>by
   unfold dR at hj;cases ho:ops[j]? with
   | none=>rw[ho]at hj;cases hj
   | some o=>exact(qU.1 ho).1
 have h1:=List.all_eq_true.1 (List.all_eq_true.1 h i (by simpa using lt hi)) k (by simpa using lt hk);rw[hi]at h1;simp only[hk,Bool.or_eq_true,beq_iff_eq]at h1;rcases h1 with e|e
 · exact e
 · simp at e
theorem mD{f f' :Nat->Value}:∀{n:Nat},(∀k,k<n->S k=S' k/\f k=f' k)->bK ops f S a n=bK ops f' S' a n
  | 0,_=>rfl
  | n+1,h=>by
    unfold bK;rw[mD (n:=n) (fun k hk=>h k (by omega)),(h n (by omega)).1,(h n (by omega)).2]
theorem jD:∀n,(bK ops f S a n).tmps.size=a.tmps.size
  | 0=>rfl
  | n+1=>by
    unfold bK;split
    · cases dR ops n<;>simp[Act.put,jD n]
    · exact jD n
theorem kX{d:Tmp}:∀{n:Nat},(∀k,k<n->S k=true->dR ops k≠some d)->(bK ops f S a n).tmps[d]? =a.tmps[d]?
  | 0,_=>rfl
  | n+1,h=>by
    have ih:=kX (n:=n) (fun k hk=>h k (by omega));unfold bK;split
    · rename_i hs
      have hne:=h n (by omega) hs;cases hd:dR ops n with
      | none=>exact ih
      | some e=>
        rw[hd]at hne;have:e≠d:=fun h=>hne (by rw[h]);simp only[Act.put];rw[Array.getElem?_setIfInBounds_ne this];exact ih
    · exact ih
theorem kY(hu:uC ops=true){d:Tmp}{k0:Nat}(hd:dR ops k0=some d)(hs:S k0=true):∀{n:Nat},k0<n->(bK ops f S a n).tmps[d]? =if d<a.tmps.size then some (f k0) else none
  | 0,h=>by omega
  | n+1,h=>by
    by_cases e:k0=n
    · subst e
      unfold bK;rw[qI hs,hd];simp only[Act.put];by_cases hlt:d<a.tmps.size
      · rw[qI hlt,Array.getElem?_setIfInBounds_self_of_lt (by rw[jD];exact hlt)]
      · rw [qH hlt]
        exact Array.getElem?_eq_none (by rw[Array.size_setIfInBounds,jD];exact Nat.le_of_not_lt hlt)
    · have ih := kY hu hd hs (n := n) (by omega)
      unfold bK;split
      · cases hn:dR ops n with
        | none=>exact ih
        | some e' =>
          have:e' ≠ d:=fun h=>e (xV hu hd (by rw[hn,h]));simp only[Act.put];rw[Array.getElem?_setIfInBounds_ne this];exact ih
      · exact ih
theorem xW(hu:uC ops=true){d:Tmp}{n m:Nat}(h:∀k,dR ops k=some d->((k<n/\S k=true)↔(k<m/\S' k=true))):(bK ops f S a n).tmps[d]? =(bK ops f S' a m).tmps[d]? :=by
 by_cases hx:∃k,dR ops k=some d/\k<n/\S k=true
 {
 obtain⟨k,h1,h2,h3⟩:=hx;have h4:=(h k h1).1 ⟨h2,h3⟩;rw[kY hu h1 h3 h2,kY hu h1 h4.2 h4.1]}
 · rw[kX (fun k hk hs hd=>hx ⟨k,hd,hk,hs⟩),kX (fun k hk hs hd=>hx ⟨k,hd,(h k hd).2 ⟨hk,hs⟩⟩)]
theorem uD{a a' :Act}{x:Operand}(hp:∀y,(∀t,y≠.tmp t)->a.eval y=a'.eval y)(h:∀t,x=.tmp t->a.tmps[t]? =a'.tmps[t]?):a.eval x=a'.eval x:=by
 cases x with
 | tmp t=>have:=h t rfl;simp[Act.eval,this]
 | _=>exact hp _ (by intro t;simp)
theorem kZ(y:Operand)(hy:∀t,y≠.tmp t):∀n,(bK ops f S a n).eval y=a.eval y
  | 0=>rfl
  | n+1=>by
    unfold bK;split
    · rw[Act.eval_put (fun d _=>hy d)];exact kZ y hy n
    · exact kZ y hy n
theorem aSS(hu:uC ops=true){o:Oper}(hs:∀cs b,o.op≠.select cs b){n m:Nat}(h:∀k d,dR ops k=some d->d∈o.looksAt ops->((k<n/\S k=true)↔(k<m/\S' k=true))):
    execOp (bK ops f S a n).eval o=execOp (bK ops f S' a m).eval o/\Region.wanted o (yielded ops (bK ops f S a n).tmps)=Region.wanted o (yielded ops (bK ops f S' a m).tmps):=by
 refine⟨execOp_congr o hs fun x hx=>uD (fun y hy=>by rw[kZ y hy,kZ y hy]) fun t ht=>?_,?_⟩
 {
 subst ht;exact xW hu fun k hk=>h k t hk (List.mem_append_left _ (List.mem_filterMap.2 ⟨.tmp t,by simpa using hx,rfl⟩))}
 {
 unfold Region.wanted;cases hg:o.guard with
 | none=>rfl
 | some gw=>{
 obtain⟨g,want⟩:=gw;have hy:yielded ops (bK ops f S a n).tmps g=yielded ops (bK ops f S' a m).tmps g:=by {
 unfold yielded;cases ht:(ops[g]?).bind (·.dst) with
 | none=>rfl
 | some t=>{
 have:=xW (f:=f) (a:=a) hu (d:=t) fun k hk=>h k t hk (by simp[Oper.looksAt,hg,ht]);simp only[Option.bind_some,this]}};simp only[hy]}}
theorem aCO(hu:uC ops=true){i:Nat}(v:Value)(hL:S i=false):∀n,i<n->(bK ops f S a n).put (dR ops i) v=bK ops (cM f i v) (cM S i true) a n
  | 0,h=>by omega
  | n+1,h=>by
    by_cases e:i=n
    · subst e
      conv=>rhs;unfold bK
      rw[qI (dK ..),dK];conv=>lhs;unfold bK
      rw[qH (by rw[hL];simp)];rw[mD (S' :=cM S i true) (f' :=cM f i v) (fun k hk=>⟨(aT _ _ (by omega)).symm,(aT _ _ (by omega)).symm⟩)]
    · have ih := aCO hu v hL n (by omega)
      conv=>rhs;unfold bK
      rw[aT _ _ (fun h=>e h.symm),aT _ _ (fun h=>e h.symm),<-ih];conv=>lhs;unfold bK
      split
      · refine Act.put_comm _ _ _ fun d hd hd' => ?_
        exact e (xV hu hd' hd)
      · rfl
end
def aMZ(md:Region.Mode)(ops:Array Oper):Bool:=Region.noSelect ops&&fU md ops&&uC ops&&aYE md ops
def sT(P:Program)(ops:Array Oper)(md:Region.Mode)(I:(Nat->Value)->(Nat->Bool)->World->Prop)(f:Nat->Value)(k:Nat)(o:Oper)(a:Act):Prop:=
  ∀L w,(∀j∈iH md o,L j=true)->L k=false->I f L w ->
    if Region.wanted o (yielded ops a.tmps)=true then gC P (fun v w' =>I (cM f k v) (cM L k true) w') ((execOp a.eval o).run P w) else I (cM f k undef) (cM L k true) w
def aNA(P:Program)(ops:Array Oper)(md:Region.Mode)(I:(Nat->Value)->(Nat->Bool)->World->Prop)(f:Nat->Value):Nat->List Oper->Act->Prop
  | _,[],_=>True
  | k,o::r,a=>sT P ops md I f k o a/\aNA P ops md I f (k+1) r (a.put o.dst (f k))
def aFQ(f:Nat->Value):Nat->List Oper->Act->Act
  | _,[],a=>a
  | k,o::r,a=>aFQ f (k+1) r (a.put o.dst (f k))
section
variable {P:Program} {md:Region.Mode} {I:(Nat->Value)->(Nat->Bool)->World->Prop}
theorem xX{l:List Oper}(f:Nat->Value)(a:Act):∀(r:List Oper) (k:Nat),l.drop k=r->aFQ f k r (bK l.toArray f (fun _=>true) a k)=bK l.toArray f (fun _=>true) a l.length
  | [],k,h=>by
    have hk:l.length<=k:=List.drop_eq_nil_iff.1 h;show bK l.toArray f (fun _=>true) a k=_
    have:∀m,bK l.toArray f (fun _=>true) a (l.length+m)=bK l.toArray f (fun _=>true) a l.length:=by
      intro m;induction m with
      | zero=>rfl
      | succ m ih=>
        have hd:dR l.toArray (l.length+m)=none:=by simp[dR]
        rw[show l.length+(m+1)=l.length+m+1 by omega,rP rfl,ih,hd];rfl
    obtain⟨m,rfl⟩:∃m,k=l.length+m:=⟨k-l.length,by omega⟩;exact this m
  | o::r,k,h=>by
    have hk:l[k]? =some o:=by have:=congrArg (fun r=>r[0]?) h;simpa using this
    have hr:l.drop (k+1)=r:=by rw[<-List.tail_drop,h];rfl
    have:=xX f a r (k+1) hr;rw[<-this];show aFQ f (k+1) r ((bK l.toArray f (fun _=>true) a k).put o.dst (f k))=_
    congr 1
    rw[rP rfl];congr 1
    simp[dR,hk]
theorem aNB{l:List Oper}{f:Nat->Value}{a:Act}:∀(r:List Oper) (k:Nat),l.drop k=r->aNA P l.toArray md I f k r (bK l.toArray f (fun _=>true) a k)->∀i o,k<=i->l[i]? =some o->sT P l.toArray md I f i o (bK l.toArray f (fun _=>true) a i)
  | [],k,h,_,i,o,hi,ho=>by
    have hk:l.length<=k:=List.drop_eq_nil_iff.1 h;have:=(zC.1 ho).1;omega
  | o' :: r,k,h,hS,i,o,hi,ho=>by
    have hk:l[k]? =some o' :=by have:=congrArg (fun r=>r[0]?) h;simpa using this
    have hr:l.drop (k+1)=r:=by rw[<-List.tail_drop,h];rfl
    by_cases e:i=k
    · subst e
      have:o' =o:=Option.some.inj (hk.symm.trans ho);subst this;exact hS.1
    · refine aNB r (k + 1) hr ?_ i o (by omega) ho
      have h2:=hS.2;have e2:bK l.toArray f (fun _=>true) a (k+1)=(bK l.toArray f (fun _=>true) a k).put o'.dst (f k):=by
        rw[rP rfl];congr 1
        simp[dR,hk]
      rw[e2];exact h2
theorem aFR{l:List Oper}{a:Act}{Q:Exit->Act->World->Prop}(hB:aMZ md l.toArray=true)(hstep:∀f i o,l[i]? =some o->sT P l.toArray md I f i o (bK l.toArray f (fun _=>true) a i))
    (hend:∀f L w', (∀k,k<l.length->L k=true)->I f L w' -> Q .normal (bK l.toArray f (fun _=>true) a l.length) w'):∀(fuel:Nat) (listed:Array Bool) (f:Nat->Value) (w:World),listed.size=l.length->listed.toList.count false<=fuel ->
    tF md l.toArray listed->I f (fun k=>listed.getD k false) w->wpAny P md l.toArray Q fuel listed (bK l.toArray f (fun k=>listed.getD k false) a l.length) w:=by
 simp only[aMZ,zG]at hB;obtain⟨⟨⟨hsel,heb⟩,hu⟩,hlk⟩:=hB;have hdone:∀(listed:Array Bool) (f:Nat->Value) (w:World),listed.size=l.length->Region.ready md l.toArray listed=[]->I f (fun k=>listed.getD k false) w->Q .normal (bK l.toArray f (fun k=>listed.getD k false) a l.length) w:=by {
 intro listed f w hs h0 hI;have hall:=kA (by simpa using hs) heb h0;rw[mD (S' :=fun _=>true) (f' :=f) (fun k hk=>⟨hall k (by simpa using hk),rfl⟩)];exact hend f _ w (fun k hk=>hall k (by simpa using hk)) hI};intro fuel;induction fuel with
 | zero=>{
 intro listed f w hs hc _ hI;have h0:Region.ready md l.toArray listed=[]:=by {
 rw[List.eq_nil_iff_forall_not_mem];intro i hi;obtain⟨hun,oi,hoi,_⟩:=mem_ready.1 hi;have hil:i<listed.size:=by have:=(qU.1 hoi).1;simp at this;omega
 have hmem:false∈listed.toList:=by {
 rw[<-show listed[i]=false by simpa[hil] using hun];simp};have:=List.count_pos_iff.2 hmem;omega};exact⟨h0,hdone listed f w hs h0 hI⟩}
 | succ fuel ih=>{
 intro listed f w hs hc hsh hI;refine⟨fun h0=>hdone listed f w hs h0 hI,fun i hi=>?_⟩;obtain⟨hun,oi,hoi,hdep⟩:=mem_ready.1 hi;have hil:i<l.length:=by have:=(qU.1 hoi).1;simpa using this
 have hl0:listed.getD i false=false:=by simp[hs,hil]at hun ⊢;exact hun
 have hs' :(listed.setIfInBounds i true).size=l.length:=by simp[hs]
 have hLu:(fun k=>(listed.setIfInBounds i true).getD k false)=cM (fun k=>listed.getD k false) i true:=by {
 funext k
 by_cases e:k=i
 · subst e;rw[dK];simp[hs,hil]
 · rw[aT _ _ e,getD_set_ne false (fun h=>e h.symm)]};have hc' :(listed.setIfInBounds i true).toList.count false<=fuel:=by {
 have hmem:listed.toList[i]? =some false:=by {
 simp only[Array.getElem?_toList];simp[hs,hil]at hun;simp[hs,hil,hun]};have:(listed.setIfInBounds i true).toList=listed.toList.set i true:=by simp
 rw[this];have h1:=List.count_set (l:=listed.toList) (i:=i) (a:=true) (b:=false) (by simpa[hs] using hil);have h2:listed.toList[i]'(by simpa[hs] using hil)=false:=(zC.1 hmem).2;have e1:(if ((false == false:Bool)=true) then(1:Nat) else 0)=1:=rfl;have e2:(if ((true == false:Bool)=true) then(1:Nat) else 0)=0:=rfl;rw[h1,h2,e1,e2];omega};have hdeps:∀j∈iH md oi,listed.getD j false=true:=by {
 intro j hj;simp only[iH,zF,zJ]at hj;obtain⟨e,⟨he,hb⟩,rfl⟩:=hj;exact hdep e (by simpa using he) hb};have hsame:=aSS (f:=f) (a:=a) hu (o:=oi) (fun cs b=>Region.noSelect_spec hsel i oi cs b hoi) (S:=fun k=>listed.getD k false) (S' :=fun _=>true) (n:=l.length) (m:=i) (by
   intro k d hk hd;have hkl:k<l.toArray.size:=by
     unfold dR at hk;cases ho:l.toArray[k]? with
     | none=>rw[ho]at hk;cases hk
     | some o=>exact(qU.1 ho).1
   have h1:=List.all_eq_true.1 hlk i (by simpa using hil);simp only[hoi]at h1;have h2:=List.all_eq_true.1 h1 k (by simpa using hkl);simp only[hk,Bool.or_eq_true,Bool.not_eq_true', zG,decide_eq_true_eq,List.contains_iff_mem]at h2;rcases h2 with h2|h2
   · rw[<-Bool.not_eq_true,List.contains_iff_mem]at h2;exact absurd hd h2
   · exact⟨fun _=>⟨h2.2,rfl⟩,fun _=>⟨by simpa using hkl,hdeps k h2.1⟩⟩)
 have hst:=hstep f i oi (by simpa using hoi) (fun k=>listed.getD k false) w hdeps hl0 hI;have hdst:dR l.toArray i=oi.dst:=by simp only[dR,hoi,Option.bind_some]
 have hnext:∀v w', I (cM f i v) (cM (fun k=>listed.getD k false) i true) w' -> wpAny P md l.toArray Q fuel (listed.setIfInBounds i true) ((bK l.toArray f (fun k=>listed.getD k false) a l.length).put oi.dst v) w' :=by {
 intro v w' hI';rw[<-hdst,aCO hu v hl0 l.length hil];have:=ih (listed.setIfInBounds i true) (cM f i v) w' hs' hc' (hsh.set hi) (by rw[hLu];exact hI');rw[hLu]at this;exact this};unfold wpOp;simp only[hoi];rw[hsame.2];by_cases hw:Region.wanted oi (yielded l.toArray (bK l.toArray f (fun _=>true) a i).tmps)=true
 {
 rw[qI hw]at hst;rw[qI hw];left
 unfold Oper.wp;rw[hsame.1];exact aKB hnext hst}
 {
 rw[qH hw]at hst;rw[qH hw];exact hnext _ _ hst}}
def aXJ(ops:Array Oper)(d:Tmp):Bool:=(List.range ops.size).all fun j=>dR ops j != some d
def rQ(P:Program)(ops:Array Oper)(md:Region.Mode)(I:(Nat->Value)->(Nat->Bool)->World->Prop)(f:Nat->Value)(a:Act):Nat->List Oper->Prop
  | _,[]=>True
  | k,o::r=>(∀b:Act,b.tmps.size=a.tmps.size->(∀j d,j<k->dR ops j=some d->d<a.tmps.size->b.tmps[d]? =some (f j))->(∀d,aXJ ops d=true->b.tmps[d]? =a.tmps[d]?)->sT P ops md I f k o b)/\rQ P ops md I f a (k+1) r
theorem xY{l:List Oper}{f:Nat->Value}{a:Act}:∀(r:List Oper) (k:Nat),l.drop k=r->rQ P l.toArray md I f a k r->∀i o,k<=i->l[i]? =some o ->
    ∀b:Act,b.tmps.size=a.tmps.size->(∀j d,j<i->dR l.toArray j=some d->d<a.tmps.size->b.tmps[d]? =some (f j))->(∀d,aXJ l.toArray d=true->b.tmps[d]? =a.tmps[d]?)->sT P l.toArray md I f i o b
  | [],k,h,_,i,o,hi,ho=>by
    have hk:l.length<=k:=List.drop_eq_nil_iff.1 h;have:=(zC.1 ho).1;omega
  | o' :: r,k,h,hS,i,o,hi,ho=>by
    have hk:l[k]? =some o' :=by have:=congrArg (fun r=>r[0]?) h;simpa using this
    have hr:l.drop (k+1)=r:=by rw[<-List.tail_drop,h];rfl
    by_cases e:i=k
    · subst e
      have:o' =o:=Option.some.inj (hk.symm.trans ho);subst this;exact hS.1
    · exact xY r (k+1) hr hS.2 i o (by omega) ho
theorem aCP{id:Nat}{Q:Exit->Act->World->Prop}{a:Act}{w:World}{l:List Oper}(I:(Nat->Value)->(Nat->Bool)->World->Prop)(hm:P.follows .mixedOrders=true)(hB:aMZ .any l.toArray=true)
    (h0:I (fun _=>undef) (fun _=>false) w.drew) (hstep:∀f,rQ P l.toArray .any I f a 0 l)
    (hend:∀f L w', (∀k,k<l.length->L k=true)->I f L w' -> Q .normal (aFQ f 0 l a) w'):(Code.region id l.toArray true).wp P Q a w:=by
  have hz:(fun k=>(Array.replicate l.toArray.size false).getD k false)=fun _=>false:=by funext k;exact eE _ _
  refine wp_region_any hm ?_;have hu:uC l.toArray=true:=by simp only[aMZ,zG]at hB;exact hB.1.2
  have := aFR (P := P) (md := .any) (I := I) (a := a) (Q := Q) (l := l) hB (fun f i o ho => xY l 0 rfl (hstep f) i o (zB _) ho _ (jD _)
      (fun j d hj hd hlt=>by rw[kY hu hd rfl hj,qI hlt])
      (fun d hd=>kX fun j hj _ e=>by
        have hjl:j<l.toArray.size:=by
          have:=(zC.1 ho).1;simp;omega
        have h1:=List.all_eq_true.1 hd j (by simpa using hjl);rw[e]at h1;simp at h1))
    (fun f L w' hL hI=>by rw[<-xX f a l 0 rfl];exact hend f L w' hL hI) l.toArray.size (Array.replicate l.toArray.size false) (fun _=>undef) w.drew (by simp) (by simp) (by intro j oj _ hl;rw[eE]at hl;cases hl) (by rw[hz];exact h0)
  rw[hz]at this;have e:bK l.toArray (fun _=>undef) (fun _=>false) a l.length=a:=by
    have:∀n,bK l.toArray (fun _=>undef) (fun _=>false) a n=a:=by
      intro n;induction n with
      | zero=>rfl
      | succ n ih=>unfold bK;rw[qH (by simp)];exact ih
    exact this _
  rw[e]at this;exact this
theorem aCQ{ops:Array Oper}{f:Nat->Value}{k:Nat}{o:Oper}{a:Act}(hg:o.guard=none)
    (h:∀L w,(∀j∈iH md o,L j=true)->L k=false->I f L w->gC P (fun v w' =>I (cM f k v) (cM L k true) w') ((execOp a.eval o).run P w)):sT P ops md I f k o a:=fun L w hd hn hI=>by
 rw[qI (by simp[Region.wanted,hg])];exact h L w hd hn hI
end
theorem oD{w:World}{base:Nat}{e:TypeId}{size:Nat}{v:Value}{n:Nat}{xs:List Value}(h:w.ownsRow base e size v n xs):w.ownsRow 0 e size v n xs:=
  ⟨h.1,h.2.elim .inl (fun⟨g,cap,cur,k1,_,k3⟩=>.inr ⟨g,cap,cur,k1,zB _,k3⟩)⟩
theorem aNC{P:Program}{w:World}{o:Oper}{a:Act}{K:Act->World->Prop}{Q:Exit->Act->World->Prop}(s x:Operand)(t:TypeId)
    (ho:o.op=.call { callee:=.builtin .append,args:=#[s,x],argTypes:=#[t,t] })
    (e:TypeId) (z:Value) (size bytes:Nat) (ht:P.underlying t=some (.slice e)) (hinfo:(P.info? e).map (fun i=>(i.zero,i.size,i.bytes))=some (some z,size,bytes)) (hzs:z.cells.size=size) (hsz:0<size)
    (v:Value) (n:Nat) (xs:List Value) (hs:a.eval s=v) (hown:w.ownsRow 0 e size v n xs)
    (b:Nat) (et:TypeId) (news:List Value) (hx:a.eval x=.slice (some ⟨b,0,none⟩) 1 1) (hb:Blk w b et news) (hl:news.length=size) (h1:∀u∈news,u.oneCell' =true)
    (hn:n+1<=4294967296) (hby:bytes<=1024)
    (h:∀g cap w', w'.ownsRow 0 e size (.slice (some ⟨g,0,none⟩) (n+1) cap) (n+1) (xs++news)->w.grownBy w' v.ownBlock->(v.ownBlock=some g∨w.heap.size<=g) ->
      K (a.put o.dst (.slice (some ⟨g,0,none⟩) (n+1) cap)) w'):o.wp P a w K Q:=by
 obtain⟨i0,hi,hz0,hz1,hz2⟩:=info_parts hinfo;have hbb:(n+1)*bytes<=140737488355328:=by {
 have:(n+1)*bytes<=4294967296*1024:=Nat.mul_le_mul hn hby;omega};obtain⟨g,cap,w', hr,h2,h3,h4⟩:=aAM (P:=P) w t o.type e i0 z size bytes ht hi hz0 hz1 hz2 hzs hsz v n xs hown ⟨b,0,none⟩ 1 1 news (by rw[Nat.one_mul];exact hl) (fun j u hj=>by rw[Addr.add_lit,Nat.zero_add,hb.cell];exact hj) h1 (by decide) (by unfold maxLen;omega) hbb;unfold Oper.wp execOp;simp only[ho,resolve,invoke,builtin,Sem.run_bind,Sem.run_pure,Result.andThen_ok,List.map_toArray,List.map_cons,List.map_nil,hs,hx,hr];exact h g cap w' h2 h3 h4
theorem iD{P:Program}{w:World}{ops:Array Oper}{rest:List Oper}{o:Oper}{a:Act}{Q:Exit->Act->World->Prop}(hgd:o.guard=none)(s x:Operand)(t:TypeId)
    (ho:o.op=.call { callee:=.builtin .append,args:=#[s,x],argTypes:=#[t,t] })
    (e:TypeId) (z:Value) (size bytes:Nat) (ht:P.underlying t=some (.slice e)) (hinfo:(P.info? e).map (fun i=>(i.zero,i.size,i.bytes))=some (some z,size,bytes)) (hzs:z.cells.size=size) (hsz:0<size)
    (v:Value) (n:Nat) (xs:List Value) (hs:a.eval s=v) (hown:w.ownsRow 0 e size v n xs)
    (b:Nat) (et:TypeId) (news:List Value) (hx:a.eval x=.slice (some ⟨b,0,none⟩) 1 1) (hb:Blk w b et news) (hl:news.length=size) (h1:∀u∈news,u.oneCell' =true)
    (hn:n+1<=4294967296) (hby:bytes<=1024)
    (h:∀g cap w', w'.ownsRow 0 e size (.slice (some ⟨g,0,none⟩) (n+1) cap) (n+1) (xs++news)->w.grownBy w' v.ownBlock->(v.ownBlock=some g∨w.heap.size<=g) ->
      wpList P ops Q rest (a.put o.dst (.slice (some ⟨g,0,none⟩) (n+1) cap)) w'):wpList P ops Q (o::rest) a w:=
  wpList_plain hgd fun _ hK=>aNC s x t ho e z size bytes ht hinfo hzs hsz v n xs hs hown b et news hx hb hl h1 hn hby fun g cap w' h2 h3 h4=>hK _ _ (h g cap w' h2 h3 h4)
theorem xZ{P:Program}{w:World}{ops:Array Oper}{o:Oper}{a:Act}{K:Act->World->Prop}{Q:Exit->Act->World->Prop}{E:Prop}(hgd:o.guard=none)(s x:Operand)(t:TypeId)
    (ho:o.op=.call { callee:=.builtin .append,args:=#[s,x],argTypes:=#[t,t] })
    (e:TypeId) (z:Value) (size bytes:Nat) (ht:P.underlying t=some (.slice e)) (hinfo:(P.info? e).map (fun i=>(i.zero,i.size,i.bytes))=some (some z,size,bytes)) (hzs:z.cells.size=size) (hsz:0<size)
    (v:Value) (n:Nat) (xs:List Value) (hs:a.eval s=v) (hown:w.ownsRow 0 e size v n xs)
    (b:Nat) (et:TypeId) (news:List Value) (hx:a.eval x=.slice (some ⟨b,0,none⟩) 1 1) (hb:Blk w b et news) (hl:news.length=size) (h1:∀u∈news,u.oneCell' =true)
    (hn:n+1<=4294967296) (hby:bytes<=1024)
    (h:∀g cap w', w'.ownsRow 0 e size (.slice (some ⟨g,0,none⟩) (n+1) cap) (n+1) (xs++news)->w.grownBy w' v.ownBlock->(v.ownBlock=some g∨w.heap.size<=g) ->
      K (a.put o.dst (.slice (some ⟨g,0,none⟩) (n+1) cap)) w'):
    if Region.wanted o (yielded ops a.tmps)=true then Oper.wp P o a w K Q else E:=by
 rw[qI (by simp[Region.wanted,hgd])];exact aNC s x t ho e z size bytes ht hinfo hzs hsz v n xs hs hown b et news hx hb hl h1 hn hby h
theorem aFS{P:Program}(w:World)(t ty e:TypeId)(i:TypeInfo)(z:Value)(size bytes:Nat)(ht:P.underlying t=some (.slice e))(hi:P.info? e=some i)(hz:i.zero=some z)
    (hsize:i.size=size) (hby:i.bytes=bytes) (hzs:z.cells.size=size) (hsz:0<size)
    (g:Nat) (hg:Blk w g e []) (x:Value) (m:Nat) (news:List Value) (hx:w.ownsRow 0 e size x m news) (h1:∀u∈news,u.oneCell' =true) (h63:m<=maxLen) (hbytes:m*bytes<=140737488355328):
    ∃v' w', (Builtin.append_ #[t,t] ty #[.slice (some ⟨g,0,none⟩) 0 0,x]).run P w=.ok v' w' /\ w'.ownsRow 0 e size v' m news/\Fr [g] w w' /\ ∀q,v'.ownBlock=some q->q=g∨w.heap.size<=q:=by
 have hn:w.ownsRow g e size (.slice (some ⟨g,0,none⟩) 0 0) 0 []:=⟨by simp,.inr ⟨g,0,#[],rfl,qS _,hg,qS _,zB _,by simp,by simp⟩⟩;have hxs:=hx.1;rcases hx.2 with⟨rfl,rfl⟩|⟨gx,cap,cur,rfl,_,hgx,hnc,hcm,hcs,htake⟩
 {
 have hnil:news=[]:=List.eq_nil_of_length_eq_zero (by simpa using hxs);subst hnil;refine⟨_,_,run_append_owned_none w g t ty e i size ht hi _ 0 [] hn,?_,Fr.refl _ _,fun q e=>?_⟩
 · exact⟨by simp,.inr ⟨g,0,#[],rfl,zB _,hg,qS _,zB _,by simp,by simp⟩⟩
 · simp[Value.ownBlock]at e;exact .inl e.symm}
 {
 obtain⟨v', w', hr,h2,h3,_,h5⟩:=run_append_own_at (P:=P) w g t ty e i z size bytes ht hi hz hsize hby hzs hsz (.slice (some ⟨g,0,none⟩) 0 0) 0 [] hn ⟨gx,0,none⟩ m cap news hxs (hx.cells (g:=gx) rfl) h1 (by simpa using h63) (by simpa using hbytes) (Nat.le_of_lt hg.lt);simp only[Nat.zero_add,List.nil_append]at h2;refine⟨v', w', hr,oD h2,⟨h3.os,h3.tape,h3.output,h3.size,fun k hk hn=>h3.block k hk (fun e=>hn (by simp[Value.ownBlock]at e;simp[e]))⟩,fun q hq=>?_⟩;rcases h5 with h5|h5
 · rw[hq]at h5;simp[Value.ownBlock]at h5;exact .inl h5
 · rw[hq]at h5;simp at h5;exact .inr (by omega)}
theorem aKC{P:Program}{w:World}{o:Oper}{a:Act}{K:Act->World->Prop}{Q:Exit->Act->World->Prop}(s x:Operand)(t:TypeId)
    (ho:o.op=.call { callee:=.builtin .append,args:=#[s,x],argTypes:=#[t,t] })
    (e:TypeId) (z:Value) (size bytes:Nat) (ht:P.underlying t=some (.slice e)) (hinfo:(P.info? e).map (fun i=>(i.zero,i.size,i.bytes))=some (some z,size,bytes)) (hzs:z.cells.size=size) (hsz:0<size)
    (g:Nat) (hs:a.eval s=.slice (some ⟨g,0,none⟩) 0 0) (hg:Blk w g e []) (v:Value) (m:Nat) (news:List Value) (hv:a.eval x=v) (hx:w.ownsRow 0 e size v m news) (h1:∀u∈news,u.oneCell' =true) (h63:m<=maxLen) (hbytes:m*bytes<=140737488355328)
    (h:∀v' w', w'.ownsRow 0 e size v' m news->Fr [g] w w' -> (∀q,v'.ownBlock=some q->q=g∨w.heap.size<=q)->K (a.put o.dst v') w'):o.wp P a w K Q:=by
 obtain⟨i0,hi,hz0,hz1,hz2⟩:=info_parts hinfo;obtain⟨v', w', hr,h2,h3,h4⟩:=aFS (P:=P) w t o.type e i0 z size bytes ht hi hz0 hz1 hz2 hzs hsz g hg v m news hx h1 h63 hbytes;unfold Oper.wp execOp;simp only[ho,resolve,invoke,builtin,Sem.run_bind,Sem.run_pure,Result.andThen_ok,List.map_toArray,List.map_cons,List.map_nil,hs,hv,hr];exact h v' w' h2 h3 h4
end Go.Proofs.YtgmnemndjjmgkaaGreat
namespace Go.Proofs.YtgmnemndjjmgkaaGreat
open Go.ChangeShapes Go.WideShapes Go.ChangeAt Go.RowKit
end Go.Proofs.YtgmnemndjjmgkaaGreat
namespace Go.Proofs.YtgmnemndjjmgkaaGreat
open Go.ChangeShapes Go.WideShapes Go.ChangeAt Go.RowKit Go.Deep
inductive FK where
  | i (k:IntKind)
  | b
def FK.ok:FK->Value->Prop
  | .i k,v=>∃n:Int,v=.int k n/\(Lit.int k n).wf=true
  | .b,v=>∃x:Bool,v=.bool x
def jN(P:Program)(t:TypeId)(ks:List FK):Prop:=
  P.cellsOf t=ks.length/\∀{H:Type} {enc:TypeId×Value->H} {w:World} {base:Nat} {spare:Nat->Bool} {held:Bool} {fuel:Nat} {cs:List Value} {x:DataW H×List MemPlace},
    DataW.trod enc P w base spare held fuel t cs=some x->∀(j:Nat) (k:FK),ks[j]? =some k->∃v,cs[j]? =some v/\k.ok v
theorem jN.int{P:Program}{t:TypeId}{k:IntKind}(ht:P.underlying t=some (.int k))(hc:P.cellsOf t=1):jN P t [.i k]:=by
 refine⟨hc,fun h j k' hj=>?_⟩;obtain⟨n,rfl,_,hw⟩:=DataW.trod_int ht h;cases j with
 | zero=>simp at hj;subst hj;exact⟨_,rfl,n,rfl,hw⟩
 | succ j=>simp at hj
theorem jN.struct{P:Program}{t:TypeId}{fs:Array Field}{ks:List FK}(ht:P.underlying t=some (.struct fs))(hc:P.cellsOf t=ks.length)
    (hcov:∀(j:Nat) (k:FK),ks[j]? =some k->∃(i:Nat) (f:Field) (fk:List FK),fs[i]? =some f/\jN P f.type fk/\f.offset<=j/\fk[j-f.offset]? =some k):jN P t ks:=by
 refine⟨hc,fun h j k hj=>?_⟩;obtain⟨xs,n,_,_,hl,hlen,hf⟩:=DataW.trod_struct ht h;obtain⟨i,f,fk,hi,hfl,hoff,hk⟩:=hcov j k hj;have h1:=hf i f hi;have hil:i<xs.length:=by rw[hlen];exact(qU.1 hi).1
 rw[qT hil]at h1;obtain⟨v,hv,hok⟩:=hfl.2 h1 (j-f.offset) k hk;refine⟨v,?_,hok⟩;rw[List.getElem?_take]at hv;split at hv
 {
 rw[List.getElem?_drop]at hv;rw[<-hv];congr 1;omega}
 · cases hv
theorem cell_no_spot' {W:World}{y:Addr}{v:Value}(h:W.cell? y=some v):y.spot=none:=by
 unfold World.cell? at h;split at h
 {
 by_cases hs:y.spot.isSome=true
 · rw[qI hs]at h;cases h
 {
 cases hy:y.spot with
 | none=>rfl
 | some s=>rw[hy]at hs;exact absurd rfl hs}}
 · cases h
def bBK(w:World)(a:Option Addr)(len:Nat)(ks:List FK)(z:Nat->Nat->Value):Prop:=
  len<=9223372036854775807/\∀i,i<len->∃b off,a=some ⟨b,off,none⟩/\b<w.heap.size/\∀(j:Nat) (k:FK),ks[j]? =some k->w.cell? ⟨b,off+i*ks.length+j,none⟩=some (z i j)/\k.ok (z i j)
theorem yA{H:Type}{enc:TypeId×Value->H}{W:World}{P:Program}{t e:TypeId}{ks:List FK}(ht:P.underlying t=some (.slice e))(he:jN P e ks)(hks:0<ks.length){a:Option Addr}{len cap:Nat}{d:DataW H}{p:List MemPlace}
    (h:DataW.Trod enc P W 0 (fun _=>true) true t (.slice a len cap) d p):∃z,bBK W a len ks z:=by
 obtain⟨fuel,hf⟩:=h;rcases open_slice ht hf with⟨hcs,_⟩|⟨x,l,c,m,n,D,Pl,hcs,_,hl,hm,hmm,_,hel⟩
 {
 simp[Value.cells]at hcs;obtain⟨rfl,rfl,rfl⟩:=hcs;exact⟨fun _ _=>undef,by omega,fun i hi=>absurd hi (Nat.not_lt_zero _)⟩}
 {
 simp[Value.cells]at hcs;obtain⟨rfl,rfl,rfl⟩:=hcs;have hml:len<=m:=by rw[hmm];simpa using hl
 have key:∀i,∃u:Nat->Value,i<len->∀(j:Nat) (k:FK),ks[j]? =some k->W.cell? ((x.add (i*ks.length)).add j)=some (u j)/\k.ok (u j):=by {
 intro i;by_cases hi:i<len
 {
 obtain⟨cs', hc,ht⟩:=hel i (by omega);rw[he.1]at hc;obtain⟨_,_,hat⟩:=World.cells?_some hc;refine⟨fun j=>cs'.getD j undef,fun _ j k hj=>?_⟩;obtain⟨v,hv,hok⟩:=he.2 ht j k hj;have hjl:j<ks.length:=(zC.1 hj).1;have e1:cs'.getD j undef=v:=by rw[List.getD_eq_getElem?_getD,hv];rfl
 show W.cell? ((x.add (i*ks.length)).add j)=some (cs'.getD j undef)/\k.ok (cs'.getD j undef)
 rw[e1];exact⟨(hat j hjl).trans hv,hok⟩}
 · exact⟨fun _=>undef,fun h=>absurd h hi⟩};obtain⟨F,hF⟩:=Classical.axiomOfChoice key;refine⟨F,by unfold maxLen at hm;omega,fun i hi=>?_⟩;have hne:∃k,ks[0]? =some k:=⟨_,qT hks⟩;obtain⟨k0,hk0⟩:=hne;have hsp:=cell_no_spot' (hF 0 (by omega) 0 k0 hk0).1;have z0:(x.add (0*ks.length)).add 0=x:=by simp[Addr.add]
 rw[z0]at hsp;obtain⟨b,off,sp⟩:=x;simp only at hsp;subst hsp;have h1:=hF i hi;simp only[Addr.add_lit]at h1;exact⟨b,off,rfl,jP (h1 0 k0 hk0).1,h1⟩}
end Go.Proofs.YtgmnemndjjmgkaaGreat
namespace Go.Proofs.YtgmnemndjjmgkaaGreat
open Go.RowKit
@[go_sem] theorem bBL(a:Addr)(w:World):(binOp .eql 140 (.pointer (some a)) (.pointer (some a))).run Tryz.prog w=.ok (.bool true) w:=by
 obtain⟨j,hj⟩:=zE.1 (show(Tryz.prog.info? 198).isSome=true by kernel_rfl);exact run_eql_ptr_same w a Tryz.underlying140 hj
theorem cO(pa:Nat)(w:World)(hc:w.cell? ⟨pa,0,none⟩=some (.pointer (some ⟨pa,0,none⟩))):
    Calls Tryz.prog 139 #[.pointer (some ⟨pa,0,none⟩)] w fun e w' =>e=.returned (.bool true)/\w=w' :=by
 go_enter Tryz.func139,Tryz.ntmps139
 go_wp2
 go_ret;exact⟨rfl,rfl⟩
theorem jE(pa g n cap b i:Nat)(w:World)(h1:w.cell? ⟨pa,1,none⟩=some (.slice (some ⟨g,0,none⟩) n cap))(hn:i/64<n)(hi:i<65536)
    (h2:w.cell? ⟨g,i/64,none⟩=some (.pointer (some ⟨b,0,none⟩))):
    Calls Tryz.prog 141 #[.pointer (some ⟨pa,0,none⟩),.int .i64 i] w fun e w' =>e=.returned (.pointer (some ⟨b,i%64*3,none⟩))/\w=w' :=by
 go_enter Tryz.func141,Tryz.ntmps141
 go_wp2
 go_ret;exact⟨rfl,rfl⟩
theorem aFT(pa g n cap b i r:Nat)(w:World)(h1:w.cell? ⟨pa,1,none⟩=some (.slice (some ⟨g,0,none⟩) n cap))(hn:i/64<n)(hi:i<65536)
    (h2:w.cell? ⟨g,i/64,none⟩=some (.pointer (some ⟨b,0,none⟩))) (hr:i%64*3=r):
    Calls Tryz.prog 141 #[.pointer (some ⟨pa,0,none⟩),.int .i64 i] w fun e w' =>e=.returned (.pointer (some ⟨b,r,none⟩))/\w=w' :=by
 subst hr;exact jE pa g n cap b i w h1 hn hi h2
theorem oE(pa g n cap b i begun:Nat)(st:Int)(w:World)(h1:w.cell? ⟨pa,1,none⟩=some (.slice (some ⟨g,0,none⟩) n cap))(hn:i/64<n)(hi:i<65536)
    (h3:w.cell? ⟨pa,3,none⟩=some (.int .i64 begun)) (hb:i<begun)
    (h2:w.cell? ⟨g,i/64,none⟩=some (.pointer (some ⟨b,0,none⟩))) (hs:w.cell? ⟨b,i%64*3,none⟩=some (.int .i64 st)):
    Calls Tryz.prog 140 #[.pointer (some ⟨pa,0,none⟩),.int .i64 i] w fun e w' =>e=.returned (.int .i64 st)/\w=w' :=by
 go_enter Tryz.func140,Tryz.ntmps140
 go_wp2_with (go_at_call 141;refine(jE pa g n cap b i _ h1 hn hi h2).mono ?_;rintro e w' ⟨rfl,rfl⟩)
 go_ret;exact⟨rfl,rfl⟩
theorem tG(pa k:Nat)(w:World)(h0:w.cell? ⟨pa,0,none⟩=some (.pointer (some ⟨pa,0,none⟩)))(h5:w.cell? ⟨pa,5,none⟩=some (.int .i64 k)):
    Calls Tryz.prog 192 #[.pointer (some ⟨pa,0,none⟩)] w fun e w' =>e=.returned (.tuple #[.int .i64 k,.bool true])/\w=w' :=by
 have hk:((k:Int) != -1)=true:=by rw[bne_iff_ne];omega
 go_enter Tryz.func192,Tryz.ntmps192
 go_wp2_with (go_at_call 139;refine(cO pa _ h0).mono ?_;rintro e w' ⟨rfl,rfl⟩)
 go_ret2;exact⟨rfl,rfl⟩
theorem kB(pa begun slots:Nat)(w:World)(h0:w.cell? ⟨pa,0,none⟩=some (.pointer (some ⟨pa,0,none⟩)))(h5:w.cell? ⟨pa,5,none⟩=some (.int .i64 (-1)))
    (h3:w.cell? ⟨pa,3,none⟩=some (.int .i64 begun)) (h2:w.cell? ⟨pa,2,none⟩=some (.int .i64 slots)) (hlt:begun<slots):
    Calls Tryz.prog 192 #[.pointer (some ⟨pa,0,none⟩)] w fun e w' =>e=.returned (.tuple #[.int .i64 begun,.bool true])/\∃n,w' =w.drewN n:=by
 go_enter Tryz.func192,Tryz.ntmps192
 go_wp2_with (go_at_call 139;refine(cO pa _ h0).mono ?_;rintro e w' ⟨rfl,rfl⟩)
 go_quiet (fail)
 go_wp2
 go_ret2;exact⟨rfl,_,rfl⟩
theorem tH(pa begun slots:Nat)(w:World)(h0:w.cell? ⟨pa,0,none⟩=some (.pointer (some ⟨pa,0,none⟩)))(h5:w.cell? ⟨pa,5,none⟩=some (.int .i64 (-1)))
    (h3:w.cell? ⟨pa,3,none⟩=some (.int .i64 begun)) (h2:w.cell? ⟨pa,2,none⟩=some (.int .i64 slots)) (hlt:slots<=begun):
    Calls Tryz.prog 192 #[.pointer (some ⟨pa,0,none⟩)] w fun e w' =>e=.returned (.tuple #[.int .i64 0,.bool false])/\∃n,w' =w.drewN n:=by
 go_enter Tryz.func192,Tryz.ntmps192
 go_wp2_with (go_at_call 139;refine(cO pa _ h0).mono ?_;rintro e w' ⟨rfl,rfl⟩)
 go_quiet (fail)
 go_wp2
 go_ret2;exact⟨rfl,_,rfl⟩
theorem rR(pa begun slots:Nat)(w:World)(h0:w.cell? ⟨pa,0,none⟩=some (.pointer (some ⟨pa,0,none⟩)))(h5:w.cell? ⟨pa,5,none⟩=some (.int .i64 (-1)))
    (h3:w.cell? ⟨pa,3,none⟩=some (.int .i64 begun)) (h2:w.cell? ⟨pa,2,none⟩=some (.int .i64 slots)) (hlt:slots<=begun):
    Calls Tryz.prog 155 #[.pointer (some ⟨pa,0,none⟩)] w fun e w' =>e=.returned (.tuple #[.int .i64 0,.int .i64 4])/\∃n,w' =w.drewN n:=by
 go_enter Tryz.func155,Tryz.ntmps155
 go_wp2_with (first|(go_at_call 139;refine(cO pa _ h0).mono ?_;rintro e w' ⟨rfl,rfl⟩)|(go_at_call 192;refine(tH pa begun slots _ h0 h5 h3 h2 hlt).mono ?_;rintro e w' ⟨rfl,nq,rfl⟩))
 go_ret2;exact⟨rfl,_,rfl⟩
theorem rS(pa g n cap b k used:Nat)(aft tm st:Int)(w:World)(hne:b≠pa)(h0:w.cell? ⟨pa,0,none⟩=some (.pointer (some ⟨pa,0,none⟩)))(h5:w.cell? ⟨pa,5,none⟩=some (.int .i64 k))
    (h1:w.cell? ⟨pa,1,none⟩=some (.slice (some ⟨g,0,none⟩) n cap)) (hn:k/64<n) (hi:k<65536)
    (hga:g≠pa) (hgb:g≠b) (hf:∀j,w.frozen? ⟨pa,j,none⟩=false) (hfb:∀j,w.frozen? ⟨b,j,none⟩=false)
    (h2:w.cell? ⟨g,k/64,none⟩=some (.pointer (some ⟨b,0,none⟩))) (h4:w.cell? ⟨pa,4,none⟩=some (.int .i64 used)) (hu:used<65536)
    (hs0:w.cell? ⟨b,k%64*3,none⟩=some (.int .i64 st)) (hs1:w.cell? ⟨b,k%64*3+1,none⟩=some (.int .i64 aft)) (hs2:w.cell? ⟨b,k%64*3+2,none⟩=some (.int .u64 tm)):
    Calls Tryz.prog 155 #[.pointer (some ⟨pa,0,none⟩)] w fun e w' =>e=.returned (.tuple #[.int .i64 k,.int .i64 0])/\∃tm', Eqv w' (((((w.setCell ⟨pa,5,none⟩ (.int .i64 aft)).setCell ⟨b,k%64*3,none⟩ (.int .i64 1)).setCell ⟨b,k%64*3+1,none⟩ (.int .i64 (-1))).setCell ⟨b,k%64*3+2,none⟩ (.int .u64 tm')).setCell ⟨pa,4,none⟩ (.int .i64 (used+1))):=by
 go_enter Tryz.func155,Tryz.ntmps155
 go_wp2_with (first|(go_at_call 139;refine(cO pa _ h0).mono ?_;rintro e w' ⟨rfl,rfl⟩)|(go_at_call 192;refine(tG pa k _ h0 h5).mono ?_;rintro e w' ⟨rfl,rfl⟩)|(go_at_call 141;refine(jE pa g n cap b k _ ?_ hn hi ?_).mono ?_;go_simp;go_simp;rintro e w' ⟨rfl,rfl⟩))
 go_ret2;exact⟨rfl,_,rfl,rfl,rfl,rfl⟩
theorem pH(pa g n cap b k slots used:Nat)(aft tm st:Int)(w:World)(hne:b≠pa)(h0:w.cell? ⟨pa,0,none⟩=some (.pointer (some ⟨pa,0,none⟩)))(h5:w.cell? ⟨pa,5,none⟩=some (.int .i64 (-1)))
    (h1:w.cell? ⟨pa,1,none⟩=some (.slice (some ⟨g,0,none⟩) n cap)) (hn:k/64<n) (hi:k<65536) (hk:0<k%64)
    (h3:w.cell? ⟨pa,3,none⟩=some (.int .i64 k)) (h2s:w.cell? ⟨pa,2,none⟩=some (.int .i64 slots)) (hlt:k<slots)
    (hga:g≠pa) (hgb:g≠b) (hf:∀j,w.frozen? ⟨pa,j,none⟩=false) (hfb:∀j,w.frozen? ⟨b,j,none⟩=false)
    (h2:w.cell? ⟨g,k/64,none⟩=some (.pointer (some ⟨b,0,none⟩))) (h4:w.cell? ⟨pa,4,none⟩=some (.int .i64 used)) (hu:used<65536)
    (hs0:w.cell? ⟨b,k%64*3,none⟩=some (.int .i64 st)) (hs1:w.cell? ⟨b,k%64*3+1,none⟩=some (.int .i64 aft)) (hs2:w.cell? ⟨b,k%64*3+2,none⟩=some (.int .u64 tm)):
    Calls Tryz.prog 155 #[.pointer (some ⟨pa,0,none⟩)] w fun e w' =>e=.returned (.tuple #[.int .i64 k,.int .i64 0])/\∃tm', Eqv w' (((((w.setCell ⟨pa,3,none⟩ (.int .i64 (k+1))).setCell ⟨b,k%64*3,none⟩ (.int .i64 1)).setCell ⟨b,k%64*3+1,none⟩ (.int .i64 (-1))).setCell ⟨b,k%64*3+2,none⟩ (.int .u64 tm')).setCell ⟨pa,4,none⟩ (.int .i64 (used+1))):=by
 have hm:((k:Int) == -1)=false:=zA.2 (by omega);have hm2:((k:Int)%64 == 0)=false:=zA.2 (by omega);go_enter Tryz.func155,Tryz.ntmps155
 go_wp2_with (first|(go_at_call 139;refine(cO pa _ h0).mono ?_;rintro e w' ⟨rfl,rfl⟩)|(go_at_call 192;refine(kB pa k slots _ h0 h5 h3 h2s hlt).mono ?_;rintro e w' ⟨rfl,nq,rfl⟩)|(go_at_call 141;refine(jE pa g n cap b k _ ?_ hn hi ?_).mono ?_;go_simp;go_simp;rintro e w' ⟨rfl,rfl⟩))
 go_ret2;exact⟨rfl,_,rfl,rfl,rfl,rfl⟩
theorem Tryz.info209:(Tryz.prog.info? 209).map (fun i=>(i.zero,i.size,i.bytes))=some (some (.pointer none),1,8):=by kernel_rfl
theorem aKD:(Tryz.zeroCells211[0]? =some (.int .i64 0))/\(Tryz.zeroCells211[1]? =some (.int .i64 0))/\(Tryz.zeroCells211[2]? =some (.int .u64 0)):=⟨by kernel_rfl,by kernel_rfl,by kernel_rfl⟩
theorem mF:Tryz.zeroCells211.toList.length=192:=by kernel_rfl
theorem uE:(List.range 64).all (fun r=>match Tryz.zeroCells211.toList[r*3]?,Tryz.zeroCells211.toList[r*3+1]?,Tryz.zeroCells211.toList[r*3+2]? with
    | some (.int .i64 0),some (.int .i64 0),some (.int .u64 0)=>true
    | _,_,_=>false)=true:=by kernel_rfl
theorem aFU(r:Nat)(hr:r<64):Tryz.zeroCells211.toList[r*3]? =some (.int .i64 0)/\Tryz.zeroCells211.toList[r*3+1]? =some (.int .i64 0)/\Tryz.zeroCells211.toList[r*3+2]? =some (.int .u64 0):=by
 have h:=List.all_eq_true.1 uE r (by simpa using hr);split at h
 · rename_i a b c;exact⟨a,b,c⟩
 · cases h
theorem aFV(pa bl:Nat)(v:Value)(xs:List Value)(w w0 w1:World)(g' cap' :Nat)(he:Eqv w0 w)(hga:v.ownBlock≠some pa)(hpa:pa<w.heap.size)(hxs:xs.length=bl)(hf:∀j,w.frozen? ⟨pa,j,none⟩=false)(hv:∀g,v.ownBlock=some g->g<w.heap.size)
    (hown1:w1.ownsRow 0 209 1 (.slice (some ⟨g', 0,none⟩) (bl+1) cap') (bl+1) (xs++[.pointer (some ⟨w.heap.size,0,none⟩)]))
    (hgrow1:((w0.alloc (.cells Tryz.zeroCells211 211)).alloc (.cells #[.pointer (some ⟨w.heap.size,0,none⟩)] 209)).grownBy w1 v.ownBlock)
    (hg1:v.ownBlock=some g' ∨ ((w0.alloc (.cells Tryz.zeroCells211 211)).alloc (.cells #[.pointer (some ⟨w.heap.size,0,none⟩)] 209)).heap.size<=g'):
    (∀j,w1.cell? ⟨pa,j,none⟩=w.cell? ⟨pa,j,none⟩)/\(∀j,w1.frozen? ⟨pa,j,none⟩=false)/\Blk w1 w.heap.size 211 Tryz.zeroCells211.toList/\g' ≠ pa/\g' ≠ w.heap.size /\
      w1.cell? ⟨g', bl,none⟩=some (.pointer (some ⟨w.heap.size,0,none⟩))/\Fr v.ownBlock.toList w w1/\(v.ownBlock=some g' ∨ w.heap.size<g')/\w.heap.size<w1.heap.size:=by
 have hsz:w0.heap.size=w.heap.size:=by rw[he.heap]
 have hb0:∀k,k<w.heap.size->((w0.alloc (.cells Tryz.zeroCells211 211)).alloc (.cells #[.pointer (some ⟨w.heap.size,0,none⟩)] 209)).heap[k]? =w.heap[k]? :=by {
 intro k hk;rw[Below.heap_alloc _ _ _ (by simp[hsz];omega),Below.heap_alloc _ _ _ (by omega),he.heap]};have hp:w1.heap[pa]? =w.heap[pa]? :=by rw[hgrow1.block pa (by simp[hsz];omega) (fun e=>hga e.symm)];exact hb0 pa hpa
 have hg2:v.ownBlock=some g' ∨ w.heap.size+1<g' :=by {
 rcases hg1 with h|h
 · exact .inl h
 · refine .inr ?_;simp[hsz]at h;omega};have hnew:w1.heap[w.heap.size]? =some (.cells Tryz.zeroCells211 211 (0,0)):=by {
 rw[hgrow1.block _ (by simp[hsz];omega) (fun e=>by have:=hv _ e.symm;omega),Below.heap_alloc _ _ _ (by simp[hsz])];show(w0.heap.push _)[w.heap.size]? =_
 rw[<-hsz];simp};refine⟨fun j=>World.cell?_of_block (w:=w) hp,fun j=>(World.frozen?_of_block (w:=w) hp).trans (hf j),?_,?_,?_,?_,?_,?_,?_⟩
 · unfold Blk;rw[hnew]
 {
 rcases hg2 with h|h
 · intro e;subst e;exact hga h
 · omega}
 {
 rcases hg2 with h|h
 · have:=hv _ h;omega
 · omega}
 {
 obtain⟨g,cap,e,_,_,hc,_⟩:=cD hown1 (Nat.lt_succ_self bl);simp only[qY,qQ,Addr.mk.injEq,and_true,true_and]at e;obtain⟨rfl,_⟩:=e;rw[hc];simp[<-hxs]}
 {
 refine⟨hgrow1.os.trans he.os,hgrow1.tape.trans he.tape,hgrow1.output.trans he.output,by have:=hgrow1.size;simp[hsz]at this;omega,fun k hk hn=>?_⟩;rw[hgrow1.block k (by simp[hsz];omega) (fun e=>hn (by simp[<-e]))];exact hb0 k hk}
 {
 rcases hg2 with h|h
 · exact .inl h
 · exact .inr (by omega)}
 · have:=hgrow1.size;simp[hsz]at this;omega
theorem rT(pa bl k slots used:Nat)(v:Value)(xs:List Value)(w:World)(h0:w.cell? ⟨pa,0,none⟩=some (.pointer (some ⟨pa,0,none⟩)))(h5:w.cell? ⟨pa,5,none⟩=some (.int .i64 (-1)))
    (h1:w.cell? ⟨pa,1,none⟩=some v) (hi:k<65536) (hk:k%64=0) (hbl:k/64=bl) (hown:w.ownsRow 0 209 1 v bl xs)
    (h3:w.cell? ⟨pa,3,none⟩=some (.int .i64 k)) (h2s:w.cell? ⟨pa,2,none⟩=some (.int .i64 slots)) (hlt:k<slots)
    (hga:v.ownBlock≠some pa) (hpa:pa<w.heap.size) (hf:∀j,w.frozen? ⟨pa,j,none⟩=false)
    (h4:w.cell? ⟨pa,4,none⟩=some (.int .i64 used)) (hu:used<65536):
    Calls Tryz.prog 155 #[.pointer (some ⟨pa,0,none⟩)] w fun e w' =>e=.returned (.tuple #[.int .i64 k,.int .i64 0]) /\
      ∃g' cap' w1 tm,w1.ownsRow 0 209 1 (.slice (some ⟨g', 0,none⟩) (bl+1) cap') (bl+1) (xs++[.pointer (some ⟨w.heap.size,0,none⟩)])/\Fr v.ownBlock.toList w w1/\Blk w1 w.heap.size 211 Tryz.zeroCells211.toList/\(v.ownBlock=some g' ∨ w.heap.size<g') /\
        Eqv w' ((((((w1.setCell ⟨pa,1,none⟩ (.slice (some ⟨g', 0,none⟩) (bl+1) cap')).setCell ⟨pa,3,none⟩ (.int .i64 (k+1))).setCell ⟨w.heap.size,0,none⟩ (.int .i64 1)).setCell ⟨w.heap.size,1,none⟩ (.int .i64 (-1))).setCell ⟨w.heap.size,2,none⟩ (.int .u64 tm)).setCell ⟨pa,4,none⟩ (.int .i64 (used+1))):=by
 have hm:((k:Int) == -1)=false:=zA.2 (by omega);have hm2:((k:Int)%64 == 0)=true:=beq_iff_eq.2 (by omega);have H1:=qB hbl;clear hbl;have H2:=qB hk;clear hk;have Hg:=qB hga;clear hga;have Hx:=qB (show xs.length=bl by have:=hown.1;omega);have hv:∀g,v.ownBlock=some g->g<w.heap.size:=fun g e=>(hown.lt g e).2;obtain⟨z0,z1,z2⟩:=aKD;simp only[<-Array.getElem?_toList]at z0 z1 z2;have hne1:¬pa=w.heap.size:=by omega
 have hne2:¬w.heap.size=pa:=by omega
 have hblm:bl<=1024:=by have:=H1.out;omega
 go_enter Tryz.func155,Tryz.ntmps155
 go_wp2_with (first|(go_at_call 139;refine(cO pa _ h0).mono ?_;rintro e w' ⟨rfl,rfl⟩)|(go_at_call 192;refine(kB pa k slots _ h0 h5 h3 h2s hlt).mono ?_;rintro e w' ⟨rfl,nq,rfl⟩)|(at_builtin;(refine fT rfl _ _ 196 rfl 209 (.pointer none) 8 Tryz.underlying196 Tryz.info209 rfl v bl xs rfl (((Eqv.drewN w nq).owns hown).alloc _ |>.alloc _) (w.heap.size+1) (.pointer (some ⟨w.heap.size,0,none⟩)) rfl (fS _ _ _ _ (by simp)) rfl (by omega) (by decide) ?_);intro g' cap' w1 hown1 hgrow1 hg1;(obtain⟨f1,f2,f3,f4,f5,f6,f7,f8,f9⟩:=aFV pa bl v xs w _ w1 g' cap' (Eqv.drewN w nq) Hg.out hpa Hx.out hf hv hown1 hgrow1 hg1);clear hg1 hgrow1;have c0:=(f3.cell 0).trans z0;have c1:=(f3.cell 1).trans z1;have c2:=(f3.cell 2).trans z2;have c3:=f3.frozen;have F8:=qB f8;clear f8)|(go_at_call 141;refine(aFT pa g' (bl+1) cap' w.heap.size k 0 _ ?_ (by have:=H1.out;omega) hi ?_ (by have:=H2.out;omega)).mono ?_;go_simp;rw[H1.out];go_simp;rintro e w' ⟨rfl,rfl⟩))
 go_ret2;exact⟨rfl,g', cap', w1,_,hown1,f7,f3,F8.out,Eqv.refl _⟩
theorem aAN(pa g n cap b k used slots begun:Nat)(last aft tm:Int)(w:World)(hne:b≠pa)(h0:w.cell? ⟨pa,0,none⟩=some (.pointer (some ⟨pa,0,none⟩)))(h5:w.cell? ⟨pa,5,none⟩=some (.int .i64 last))
    (h1:w.cell? ⟨pa,1,none⟩=some (.slice (some ⟨g,0,none⟩) n cap)) (hn:k/64<n) (hi:k<65536) (h2s:w.cell? ⟨pa,2,none⟩=some (.int .i64 slots)) (hks:k<slots)
    (h3:w.cell? ⟨pa,3,none⟩=some (.int .i64 begun)) (hkb:k<begun)
    (hga:g≠pa) (hgb:g≠b) (hf:∀j,w.frozen? ⟨pa,j,none⟩=false) (hfb:∀j,w.frozen? ⟨b,j,none⟩=false)
    (h2:w.cell? ⟨g,k/64,none⟩=some (.pointer (some ⟨b,0,none⟩))) (h4:w.cell? ⟨pa,4,none⟩=some (.int .i64 used)) (hu:used<65537) (hu0:0<used)
    (hs0:w.cell? ⟨b,k%64*3,none⟩=some (.int .i64 1)) (hs1:w.cell? ⟨b,k%64*3+1,none⟩=some (.int .i64 aft)) (_hs2:w.cell? ⟨b,k%64*3+2,none⟩=some (.int .u64 tm)):
    Calls Tryz.prog 91 #[.pointer (some ⟨pa,0,none⟩),.int .i64 k] w fun e w' =>e=.returned (.int .i64 0)/\Eqv w' (((((w.setCell ⟨b,k%64*3,none⟩ (.int .i64 2)).setCell ⟨b,k%64*3+1,none⟩ (.int .i64 last)).setCell ⟨pa,5,none⟩ (.int .i64 k))).setCell ⟨pa,4,none⟩ (.int .i64 (used-1))):=by
 go_enter Tryz.func91,Tryz.ntmps91
 go_wp2_with (first|(go_at_call 139;refine(cO pa _ h0).mono ?_;rintro e w' ⟨rfl,rfl⟩)|(go_at_call 140;refine(oE pa g n cap b k begun 1 _ h1 hn hi h3 hkb h2 hs0).mono ?_;rintro e w' ⟨rfl,rfl⟩)|(go_at_call 141;refine(jE pa g n cap b k _ ?_ hn hi ?_).mono ?_;go_simp;go_simp;rintro e w' ⟨rfl,rfl⟩))
 go_ret;exact⟨rfl,rfl,rfl,rfl,rfl⟩
theorem aCR(pa:Nat)(used:Int)(w:World)(h0:w.cell? ⟨pa,0,none⟩=some (.pointer (some ⟨pa,0,none⟩)))(h4:w.cell? ⟨pa,4,none⟩=some (.int .i64 used)):
    Calls Tryz.prog 96 #[.pointer (some ⟨pa,0,none⟩)] w fun e w' =>e=.returned (.int .i64 used)/\w=w' :=by
 go_enter Tryz.func96,Tryz.ntmps96
 go_wp2_with (go_at_call 139;refine(cO pa _ h0).mono ?_;rintro e w' ⟨rfl,rfl⟩)
 go_ret;exact⟨rfl,rfl⟩
theorem aAO(slots:Int)(w:World)(h:slots<0∨65536<slots):
    Calls Tryz.prog 163 #[.int .i64 slots] w fun e w' =>e=.returned (.tuple #[.pointer none,.int .i64 2])/\w=w' :=by
 rcases h with h|h
 {
 have hd:decide (slots<0)=true:=qO (by omega);go_enter Tryz.func163,Tryz.ntmps163
 go_wp2
 go_ret2;exact⟨rfl,rfl⟩}
 {
 have hd:decide (slots<0)=false:=qK (by omega);have hd2:decide (65536<slots)=true:=qO (by omega);go_enter Tryz.func163,Tryz.ntmps163
 go_wp2
 go_ret2;exact⟨rfl,rfl⟩}
theorem aCS(slots:Nat)(w:World)(h:slots<=65536):
    Calls Tryz.prog 163 #[.int .i64 slots] w fun e w' =>e=.returned (.tuple #[.pointer (some ⟨w.heap.size,0,none⟩),.int .i64 0]) /\
      Eqv w' (w.alloc (.cells #[.pointer (some ⟨w.heap.size,0,none⟩),.slice none 0 0,.int .i64 slots,.int .i64 0,.int .i64 0,.int .i64 (-1)] 198)):=by
 have hd:decide ((slots:Int)<0)=false:=qK (by omega);have hd2:decide (65536<(slots:Int))=false:=qK (by omega);go_enter Tryz.func163,Tryz.ntmps163
 go_wp2
 go_ret2;exact⟨rfl,rfl,rfl,rfl,rfl⟩
structure Ar where
  slots:Nat
  begun:Nat
  free:List Nat
def fF:List Nat->Int
  | []=>-1
  | k::_=>k
def aCT(af:Nat->Int):List Nat->Prop
  | []=>True
  | k::r=>af k=fF r/\aCT af r
structure Ar.ok (A:Ar):Prop where
  hs:A.slots<=65536
  hb:A.begun<=A.slots
  nd:A.free.Nodup
  lt:∀k∈A.free,k<A.begun
def Ar.used(A:Ar):Nat:=A.begun-A.free.length
def Ar.isUsed(A:Ar)(i:Nat):Prop:=i<A.begun/\i∉A.free
def Ar.next(A:Ar):Option Nat:=match A.free with
  | k::_=>some k
  | []=>if A.begun<A.slots then some A.begun else none
def Ar.alloc(A:Ar):Ar:=match A.free with
  | _::r=>{ A with free:=r }
  | []=>{ A with begun:=A.begun+1 }
def Ar.put(A:Ar)(k:Nat):Ar:={ A with free:=k::A.free }
def Ar.new(slots:Nat):Ar:={ slots:=slots,begun:=0,free:=[] }
def upd(f:Nat->Int)(i:Nat)(x:Int):Nat->Int:=fun j=>if j=i then x else f j
theorem lA{l:List Nat}{n:Nat}(nd:l.Nodup)(h:∀k∈l,k<n):l.length<=n:=by
 induction n generalizing l with
 | zero=>cases l with
   | nil=>simp
   | cons a r=>exact absurd (h a (by simp)) (by omega)
 | succ n ih=>{
 have h1:(l.filter (·≠ n)).length<=n:=by {
 refine ih (nd.filter _) ?_;intro k hk;simp only[zJ,decide_eq_true_eq,ne_eq]at hk;have:=h k hk.1;omega};have h2:l.length<=(l.filter (·≠ n)).length+1:=by {
 clear h h1 ih;induction l with
 | nil=>simp
 | cons a r ihr=>{
 simp only[qX]at nd;by_cases e:a=n
 {
 subst e;have:r.filter (·≠ a)=r:=List.filter_eq_self.2 (fun x hx=>by simp;intro e;subst e;exact nd.1 hx);simp only[List.filter_cons];simp only[ne_eq,not_true_eq_false,decide_false,Bool.false_eq_true,if_false]at *;rw[this];simp}
 {
 have:=ihr nd.2;simp only[List.filter_cons,ne_eq,e,not_false_eq_true,decide_true,if_true,zI]at *;omega}}};omega}
theorem Ar.ok.len{A:Ar}(h:A.ok):A.free.length<=A.begun:=lA h.nd h.lt
def cT(w:World)(bs:List Nat)(st af:Nat->Int):Prop:=
  ∀(j:Nat) (b:Nat),bs[j]? =some b->∃cs:List Value,Blk w b 211 cs/\∀r,r<64->cs[r*3]? =some (.int .i64 (st (64*j+r)))/\cs[r*3+1]? =some (.int .i64 (af (64*j+r)))/\(∃t:Int,cs[r*3+2]? =some (.int .u64 t))/\cs.length=192
theorem cT.same{w w' :World}{bs:List Nat}{st af:Nat->Int}(h:cT w bs st af)(hs:∀b∈bs,w'.heap[b]? =w.heap[b]?):cT w' bs st af:=by
 intro j b hj;obtain⟨cs,h1,h2⟩:=h j b hj;exact⟨cs,h1.of_same (hs b (List.mem_of_getElem? hj)),h2⟩
theorem cT.other{w:World}{bs:List Nat}{st af:Nat->Int}(h:cT w bs st af)(a:Addr)(u:Value)(hn:a.block∉bs):cT (w.setCell a u) bs st af:=
  h.same fun _b hb=>Below.heap_setCell _ _ _ _ (fun e=>hn (e▸hb))
theorem rU{l:List Nat}(nd:l.Nodup){i j:Nat}{b:Nat}(hi:l[i]? =some b)(hj:l[j]? =some b):i=j:=by
 obtain⟨h1,e1⟩:=zC.1 hi;obtain⟨h2,e2⟩:=zC.1 hj;rcases Nat.lt_trichotomy i j with h|h|h
 · exact absurd (e1.trans e2.symm) (List.pairwise_iff_getElem.1 nd i j h1 h2 h)
 · exact h
 · exact absurd (e2.trans e1.symm) (List.pairwise_iff_getElem.1 nd j i h2 h1 h)
section
variable {w:World} {bs:List Nat} {st af:Nat->Int} {b i:Nat}
theorem cT.set0(h:cT w bs st af)(nd:bs.Nodup)(hb:bs[i/64]? =some b)(x:Int):
    cT (w.setCell ⟨b,i%64*3,none⟩ (.int .i64 x)) bs (upd st i x) af:=by
 intro j b' hj;obtain⟨cs,h1,h2⟩:=h j b' hj;by_cases e:b' =b
 {
 subst e;obtain rfl:j=i/64:=rU nd hj hb;refine⟨_,h1.set _ _,fun r hr=>?_⟩;obtain⟨a1,a2,a3,a4⟩:=h2 r hr;have hi:=h2 (i%64) (by omega);have hlen:i%64*3<cs.length:=(zC.1 hi.1).1;refine⟨?_,?_,?_,by simpa using a4⟩
 {
 simp only[List.getElem?_set,upd];by_cases er:r=i%64
 · subst er;rw[qI rfl,qI hlen,qI (by omega)]
 · rw[qH (by omega),qH (by omega)];exact a1}
 · simp only[List.getElem?_set];rw[qH (by omega)];exact a2
 · simp only[List.getElem?_set];rw[qH (by omega)];exact a3}
 {
 refine⟨cs,h1.other _ _ e,fun r hr=>?_⟩;obtain⟨a1,a2,a3,a4⟩:=h2 r hr;refine⟨?_,a2,a3,a4⟩;rw[a1];simp only[upd];rw[qH];intro e2;apply e;have:j=i/64:=by omega
 rw[this,hb]at hj;simpa using hj.symm}
theorem cT.set1(h:cT w bs st af)(nd:bs.Nodup)(hb:bs[i/64]? =some b)(x:Int):
    cT (w.setCell ⟨b,i%64*3+1,none⟩ (.int .i64 x)) bs st (upd af i x):=by
 intro j b' hj;obtain⟨cs,h1,h2⟩:=h j b' hj;by_cases e:b' =b
 {
 subst e;obtain rfl:j=i/64:=rU nd hj hb;refine⟨_,h1.set _ _,fun r hr=>?_⟩;obtain⟨a1,a2,a3,a4⟩:=h2 r hr;have hi:=h2 (i%64) (by omega);have hlen:i%64*3+1<cs.length:=(zC.1 hi.2.1).1;refine⟨?_,?_,?_,by simpa using a4⟩
 · simp only[List.getElem?_set];rw[qH (by omega)];exact a1
 {
 simp only[List.getElem?_set,upd];by_cases er:r=i%64
 · subst er;rw[qI rfl,qI hlen,qI (by omega)]
 · rw[qH (by omega),qH (by omega)];exact a2}
 · simp only[List.getElem?_set];rw[qH (by omega)];exact a3}
 {
 refine⟨cs,h1.other _ _ e,fun r hr=>?_⟩;obtain⟨a1,a2,a3,a4⟩:=h2 r hr;refine⟨a1,?_,a3,a4⟩;rw[a2];simp only[upd];rw[qH];intro e2;apply e;have:j=i/64:=by omega
 rw[this,hb]at hj;simpa using hj.symm}
theorem cT.set2(h:cT w bs st af)(nd:bs.Nodup)(hb:bs[i/64]? =some b)(x:Int):
    cT (w.setCell ⟨b,i%64*3+2,none⟩ (.int .u64 x)) bs st af:=by
 intro j b' hj;obtain⟨cs,h1,h2⟩:=h j b' hj;by_cases e:b' =b
 {
 subst e;obtain rfl:j=i/64:=rU nd hj hb;refine⟨_,h1.set _ _,fun r hr=>?_⟩;obtain⟨a1,a2,a3,a4⟩:=h2 r hr;obtain⟨t,a3⟩:=a3;refine⟨?_,?_,?_,by simpa using a4⟩
 · simp only[List.getElem?_set];rw[qH (by omega)];exact a1
 · simp only[List.getElem?_set];rw[qH (by omega)];exact a2
 {
 simp only[List.getElem?_set];by_cases er:i%64*3+2=r*3+2
 · rw[qI er,qI (by have:=(zC.1 a3).1;omega)];exact⟨x,rfl⟩
 · rw[qH er];exact⟨t,a3⟩}}
 · exact⟨cs,h1.other _ _ e,h2⟩
end
abbrev ptr(b:Nat):Value:=.pointer (some ⟨b,0,none⟩)
def aQ(w:World)(pa:Nat)(A:Ar)(l:List Nat):Prop:=
  ∃(v:Value) (bs:List Nat) (st af:Nat->Int),
    Blk w pa 198 [ptr pa,v,.int .i64 A.slots,.int .i64 A.begun,.int .i64 A.used,.int .i64 (fF A.free)] /\
    w.ownsRow 0 209 1 v bs.length (bs.map ptr)/\cT w bs st af/\l=pa::(v.ownBlock.toList++bs)/\l.Nodup /\
    bs.length=(A.begun+63)/64/\A.ok/\((∀i,i<A.begun->i∈A.free->st i=2)/\(∀i,i<A.begun->i∉A.free->st i=1))/\aCT af A.free
theorem aQ.ok{w:World}{pa:Nat}{A:Ar}{l:List Nat}(h:aQ w pa A l):A.ok:=by
 obtain⟨_,_,_,_,_,_,_,_,_,_,h,_⟩:=h;exact h
theorem aQ.same{w w' :World}{pa:Nat}{A:Ar}{l:List Nat}(h:aQ w pa A l)(hs:∀b∈l,w'.heap[b]? =w.heap[b]?):aQ w' pa A l:=by
 obtain⟨v,bs,st,af,h1,h2,h3,rfl,r⟩:=h;refine⟨v,bs,st,af,h1.of_same (hs pa (by simp)),aI h2 (fun k hk=>hs k (by simp[hk])),h3.same (fun b hb=>hs b (by simp[hb])),rfl,r⟩
theorem aQ.lt{w:World}{pa:Nat}{A:Ar}{l:List Nat}(h:aQ w pa A l):∀b∈l,b<w.heap.size:=by
 obtain⟨v,bs,st,af,h1,h2,h3,rfl,r⟩:=h;intro b hb;simp only[qF,qJ,Option.mem_toList]at hb;rcases hb with rfl|hb|hb
 · exact h1.lt
 · exact(h2.lt b hb).2
 {
 obtain⟨j,hj⟩:=List.getElem?_of_mem hb;obtain⟨cs,hc,_⟩:=h3 j b hj;exact hc.lt}
theorem aQ.slot{w:World}{pa:Nat}{v:Value}{bs:List Nat}{st af:Nat->Int}{n k:Nat}(h2:w.ownsRow 0 209 1 v bs.length (bs.map ptr))(h3:cT w bs st af)
    (hnd:(pa::(v.ownBlock.toList++bs)).Nodup) (_hl:bs.length=(n+63)/64) (hk:k/64<bs.length):
    ∃g cap b tm,v=.slice (some ⟨g,0,none⟩) bs.length cap/\bs[k/64]? =some b/\g≠pa/\g≠b/\b≠pa/\w.cell? ⟨g,k/64,none⟩=some (.pointer (some ⟨b,0,none⟩)) /\
      w.cell? ⟨b,k%64*3,none⟩=some (.int .i64 (st k))/\w.cell? ⟨b,k%64*3+1,none⟩=some (.int .i64 (af k))/\w.cell? ⟨b,k%64*3+2,none⟩=some (.int .u64 tm)/\(∀j,w.frozen? ⟨b,j,none⟩=false):=by
 obtain⟨g,cap,rfl,_,_,hc,_⟩:=cD h2 hk;obtain⟨b,hb⟩:∃b,bs[k/64]? =some b:=⟨_,qT hk⟩;obtain⟨cs,hB,hr⟩:=h3 _ _ hb;obtain⟨r1,r2,⟨tm,r3⟩,_⟩:=hr (k%64) (by omega);have ek:64*(k/64)+k%64=k:=by omega
 rw[ek]at r1 r2;have hbm:=List.mem_of_getElem? hb;simp only[Value.ownBlock,Option.toList_some,zL,List.nil_append,qX,qF,not_or]at hnd;refine⟨g,cap,b,tm,rfl,hb,fun e=>hnd.1.1 e.symm,fun e=>hnd.2.1 (e▸hbm),fun e=>hnd.1.2 (e▸hbm),?_,?_,?_,?_,fun j=>hB.frozen j⟩
 · rw[hc];simp[hb,ptr]
 · rw[hB.cell];exact r1
 · rw[hB.cell];exact r2
 · rw[hB.cell];exact r3
theorem aCT.other{af:Nat->Int}{l:List Nat}{k:Nat}{x:Int}(h:aCT af l)(hk:k∉l):aCT (upd af k x) l:=by
 induction l with
 | nil=>trivial
 | cons a r ih=>{
 simp only[qF,not_or]at hk;refine⟨?_,ih h.2 hk.2⟩;simp only[upd];rw[qH (fun e=>hk.1 e.symm)];exact h.1}
theorem rV{w:World}{pa:Nat}{A:Ar}{l:List Nat}(h:aQ w pa A l)(hn:A.next=none):
    Calls Tryz.prog 155 #[ptr pa] w fun e w' =>e=.returned (.tuple #[.int .i64 0,.int .i64 4])/\Eqv w' w:=by
 obtain⟨v,bs,st,af,h1,h2,h3,rfl,hnd,hl,hok,hst,hch⟩:=h;obtain⟨slots,begun,free⟩:=A;cases free with
 | cons k r=>simp[Ar.next]at hn
 | nil=>{
 simp only[Ar.next]at hn;have hlt:slots<=begun:=by {
 by_cases hh:begun<slots
 · rw[qI hh]at hn;cases hn
 · omega};refine(rR pa begun slots w (h1.cell 0) (h1.cell 5) (h1.cell 3) (h1.cell 2) hlt).mono ?_;rintro e w' ⟨rfl,n,rfl⟩;exact⟨rfl,Eqv.drewN w n⟩}
theorem kC{w:World}{pa:Nat}{A:Ar}{l:List Nat}{i:Nat}(h:aQ w pa A l)(hn:A.next=some i):
    Calls Tryz.prog 155 #[ptr pa] w fun e w' =>e=.returned (.tuple #[.int .i64 i,.int .i64 0]) /\
      ∃l', aQ w' pa A.alloc l' /\ Fr l w w' /\ ∀b∈l', b∈l∨w.heap.size<=b:=by
 have hlt:=h.lt;obtain⟨v,bs,st,af,h1,h2,h3,rfl,hnd,hl,hok,hst,hch⟩:=h;have hlen:=hok.len;obtain⟨slots,begun,free⟩:=A;have hs:=hok.hs;have hb:=hok.hb;dsimp only at *
 have hndb:bs.Nodup:=by simp only[qX,qW]at hnd;exact hnd.2.2.1
 have hpab:pa∉bs:=by intro hm;simp only[qX]at hnd;exact hnd.1 (by simp[hm])
 have hpav:v.ownBlock≠some pa:=by intro hm;simp only[qX]at hnd;exact hnd.1 (by simp[hm])
 cases free with
 | cons k r=>{
 obtain rfl:k=i:=by simpa[Ar.next] using hn
 have hkb:k<begun:=hok.lt k (by simp);obtain⟨g,cap,b,tm,rfl,hbk,hg1,hg2,hbp,c1,c2,c3,c4,hfz⟩:=aQ.slot h2 h3 hnd hl (show k/64<bs.length by omega);have hbm:=List.mem_of_getElem? hbk;refine(rS pa g bs.length cap b k (Ar.used ⟨slots,begun,k::r⟩) (af k) tm (st k) w hbp (h1.cell 0) (h1.cell 5) (h1.cell 1) (by omega) (by omega) hg1 hg2 h1.frozen hfz c1 (h1.cell 4) (by simp only[Ar.used];simp at hlen;simp;omega) c2 c3 c4).mono ?_;rintro e w' ⟨rfl,tm', he⟩;refine⟨rfl,_,⟨_,bs,upd st k 1,upd af k (-1),?_,?_,?_,rfl,hnd,?_,?_,?_,?_⟩,?_,fun b hb=>.inl hb⟩
 {
 have hh:=he.blk (((((h1.set 5 (.int .i64 (af k))).other ⟨b,k%64*3,none⟩ (.int .i64 1) (fun e=>hbp e.symm)).other ⟨b,k%64*3+1,none⟩ (.int .i64 (-1)) (fun e=>hbp e.symm)).other ⟨b,k%64*3+2,none⟩ (.int .u64 tm') (fun e=>hbp e.symm)).set 4 (.int .i64 ((Ar.used ⟨slots,begun,k::r⟩:Nat)+1)));have e1:af k=fF r:=hch.1;have e2:(((Ar.used ⟨slots,begun,k::r⟩:Nat):Int)+1)=((Ar.used (Ar.alloc ⟨slots,begun,k::r⟩):Nat):Int):=by simp only[Ar.used,Ar.alloc,zI]at *;omega
 rw[e2,e1]at hh;exact hh}
 {
 refine he.owns (aI h2 fun q hq=>?_);simp only[Value.ownBlock,qQ]at hq;subst hq;rw[Below.heap_setCell _ _ _ _ hg1,Below.heap_setCell _ _ _ _ hg2,Below.heap_setCell _ _ _ _ hg2,Below.heap_setCell _ _ _ _ hg2,Below.heap_setCell _ _ _ _ hg1]}
 · exact cT.same (((((h3.other ⟨pa,5,none⟩ (.int .i64 (af k)) hpab).set0 hndb hbk 1).set1 hndb hbk (-1)).set2 hndb hbk tm').other ⟨pa,4,none⟩ _ hpab) (fun b _=>by rw[he.heap])
 · exact hl
 · exact⟨hs,hb,by have:=hok.nd;simp at this;exact this.2,fun x hx=>hok.lt x (by simp[Ar.alloc]at hx;simp[hx])⟩
 {
 have hnr:k∉r:=by have:=hok.nd;simp at this;exact this.1
 refine⟨fun j hj hm=>?_,fun j hj hm=>?_⟩<;>simp only[upd,Ar.alloc]at hj hm ⊢
 · rw[qH (show ¬j=k by rintro rfl;exact hnr hm)];exact hst.1 j hj (by simp[hm])
 {
 by_cases e:j=k
 · rw[qI e]
 · rw[qH e];exact hst.2 j hj (by simp[e,hm])}}
 {
 have hnr:k∉r:=by have:=hok.nd;simp at this;exact this.1
 exact hch.2.other hnr}
 · refine he.fr (((((Fr.refl _ _).setCell _ _ ?_).setCell _ _ ?_).setCell _ _ ?_).setCell _ _ ?_ |>.setCell _ _ ?_)<;>simp[hbm]}
 | nil=>{
 have hlt2:begun<slots:=by {
 simp only[Ar.next]at hn;by_cases hh:begun<slots
 · exact hh
 · rw[qH hh]at hn;cases hn};obtain rfl:begun=i:=by simpa[Ar.next,hlt2] using hn
 by_cases hk:begun%64=0
 {
 have hu:Ar.used ⟨slots,begun,[]⟩=begun:=by simp[Ar.used]
 have h4:=h1.cell 4;refine(rT pa bs.length begun slots (Ar.used ⟨slots,begun,[]⟩) v (bs.map ptr) w (h1.cell 0) (h1.cell 5) (h1.cell 1) (by omega) hk (by omega) h2 (h1.cell 3) (h1.cell 2) hlt2 hpav h1.lt h1.frozen h4 (by omega)).mono ?_;rintro e w' ⟨rfl,g', cap', w1,tm,hown1,hfr,hnb,hg', he⟩;have hpa:=h1.lt;have hvl:∀q,v.ownBlock=some q->q<w.heap.size:=fun q hq=>(h2.lt q hq).2;have hbl:∀q∈bs,q<w.heap.size:=fun q hq=>hlt q (by simp[hq]);have hne:g' ≠ pa:=by rcases hg' with hg' | hg'; exact fun e=>hpav (e▸hg');omega
 have hne2:g' ≠ w.heap.size:=by rcases hg' with hg' | hg'; have:=hvl _ hg'; omega;omega
 have hb1:Blk w1 pa 198 _:=hfr.blk h1 (by simpa using hpav);have hndr:∀q∈bs,v.ownBlock≠some q:=by {
 intro q hq e;simp only[qX,qW,e]at hnd;exact hnd.2.2.2 q (by simp) q hq rfl};refine⟨rfl,pa::([g']++(bs++[w.heap.size])),⟨.slice (some ⟨g', 0,none⟩) (bs.length+1) cap', bs++[w.heap.size],upd (fun j=>if j<begun then st j else 0) begun 1,upd (fun j=>if j<begun then af j else 0) begun (-1),?_,?_,?_,rfl,?_,?_,?_,?_,?_⟩,?_,?_⟩
 {
 have hh:=he.blk ((((((hb1.set 1 (.slice (some ⟨g', 0,none⟩) (bs.length+1) cap')).set 3 (.int .i64 (begun+1))).other ⟨w.heap.size,0,none⟩ (.int .i64 1) (by simp;omega)).other ⟨w.heap.size,1,none⟩ (.int .i64 (-1)) (by simp;omega)).other ⟨w.heap.size,2,none⟩ (.int .u64 tm) (by simp;omega)).set 4 (.int .i64 ((Ar.used ⟨slots,begun,[]⟩:Nat)+1)));have e2:(((Ar.used ⟨slots,begun,[]⟩:Nat):Int)+1)=((Ar.used (Ar.alloc ⟨slots,begun,[]⟩):Nat):Int):=by simp[Ar.used,Ar.alloc]
 rw[e2]at hh;exact hh}
 {
 refine he.owns (aI (w:=w1) ?_ fun q hq=>?_)
 · simpa[ptr] using hown1
 {
 simp only[Value.ownBlock,qQ]at hq;subst hq;rw[Below.heap_setCell _ _ _ _ hne,Below.heap_setCell _ _ _ _ hne2,Below.heap_setCell _ _ _ _ hne2,Below.heap_setCell _ _ _ _ hne2,Below.heap_setCell _ _ _ _ hne,Below.heap_setCell _ _ _ _ hne]}}
 {
 intro j b hj;have hjl:j<bs.length+1:=by have:=(zC.1 hj).1;simpa using this
 by_cases ej:j<bs.length
 {
 rw[List.getElem?_append_left ej]at hj;obtain⟨cs,a1,a2⟩:=h3 j b hj;have hbm:=List.mem_of_getElem? hj;have n1:b≠pa:=fun e=>hpab (e▸hbm);have n2:b≠w.heap.size:=by have:=hbl b hbm;omega
 have a1' :Blk w1 b 211 cs:=hfr.blk a1 (by simpa using hndr b hbm);refine⟨cs,he.blk ((((((a1'.other _ _ n1).other _ _ n1).other _ _ n2).other _ _ n2).other _ _ n2).other _ _ n1),fun r hr=>?_⟩;have hlt3:64*j+r<begun:=by omega
 obtain⟨b1,b2,b3⟩:=a2 r hr;have hne3:¬64*j+r=begun:=by omega
 simp only[upd,qH hne3,qI hlt3];exact⟨b1,b2,b3⟩}
 {
 obtain rfl:j=bs.length:=by omega
 simp at hj;subst hj;refine⟨_,he.blk ((((((hnb.other ⟨pa,1,none⟩ _ (by simp;omega)).other ⟨pa,3,none⟩ _ (by simp;omega)).set 0 (.int .i64 1)).set 1 (.int .i64 (-1))).set 2 (.int .u64 tm)).other ⟨pa,4,none⟩ _ (by simp;omega)),fun r hr=>?_⟩;obtain⟨z1,z2,z3⟩:=aFU r hr;have hl0:=mF;simp only[upd,List.getElem?_set,List.length_set];by_cases er:r=0
 {
 subst er;have e0:64*bs.length+0=begun:=by omega
 simp[e0,hl0]}
 {
 rw[qH (show ¬2=r*3 by omega),qH (show ¬1=r*3 by omega),qH (show ¬0=r*3 by omega),qH (show ¬2=r*3+1 by omega),qH (show ¬1=r*3+1 by omega),qH (show ¬0=r*3+1 by omega),
   qH (show ¬2=r*3+2 by omega),qH (show ¬1=r*3+2 by omega),qH (show ¬0=r*3+2 by omega)]
 have hne3:¬64*bs.length+r=begun:=by omega
 have hge3:¬64*bs.length+r<begun:=by omega
 simp only[qH hne3,qH hge3];exact⟨z1,z2,⟨_,z3⟩,hl0⟩}}}
 {
 simp only[qX,qW,qJ,qF,List.not_mem_nil,or_false,not_or]at hnd ⊢;refine⟨⟨fun e=>hne e.symm,hpab,by omega⟩,by simp,⟨hndb,by simp,?_⟩,?_⟩
 · rintro a ha b rfl;have:=hbl a ha;omega
 {
 rintro a rfl b (hb|rfl)
 {
 rcases hg' with hg' | hg'
 · intro e;exact hndr b hb (e▸hg')
 · have:=hbl b hb;omega}
 · exact hne2}}
 · simp[Ar.alloc];omega
 · exact⟨hs,by simp[Ar.alloc];omega,by simp[Ar.alloc],by simp[Ar.alloc]⟩
 {
 refine⟨fun j hj hm=>by simp[Ar.alloc]at hm,fun j hj _=>?_⟩;simp only[Ar.alloc,upd]at hj ⊢;by_cases e:j=begun
 · rw[qI e]
 · rw[qH e,qI (by omega)];exact hst.2 j (by omega) (by simp)}
 · trivial
 {
 have f1:Fr (pa::(v.ownBlock.toList++bs)) w w1:=hfr.mono (fun b hb=>.inl (by simp at hb;simp[hb]));refine he.fr ((((((f1.setCell _ _ ?_).setCell _ _ ?_).setCell _ _ ?_).setCell _ _ ?_).setCell _ _ ?_).setCell _ _ ?_)<;>simp}
 {
 intro b hb;simp only[qF,qJ,List.not_mem_nil,or_false]at hb ⊢;rcases hb with rfl|rfl|hb|rfl
 · exact .inl (.inl rfl)
 {
 rcases hg' with hg' | hg'
 · exact .inl (.inr (.inl (by simp[hg'])))
 · exact .inr (by omega)}
 · exact .inl (.inr (.inr hb))
 · exact .inr (qS _)}}
 {
 obtain⟨g,cap,b,tm,rfl,hbk,hg1,hg2,hbp,c1,c2,c3,c4,hfz⟩:=aQ.slot h2 h3 hnd hl (show begun/64<bs.length by omega);have hbm:=List.mem_of_getElem? hbk;refine(pH pa g bs.length cap b begun slots (Ar.used ⟨slots,begun,[]⟩) (af begun) tm (st begun) w hbp (h1.cell 0) (h1.cell 5) (h1.cell 1) (by omega) (by omega) (by omega) (h1.cell 3) (h1.cell 2) hlt2 hg1 hg2 h1.frozen hfz c1 (h1.cell 4) (by simp only[Ar.used];simp;omega) c2 c3 c4).mono ?_;rintro e w' ⟨rfl,tm', he⟩;refine⟨rfl,_,⟨_,bs,upd st begun 1,upd af begun (-1),?_,?_,?_,rfl,hnd,?_,?_,?_,?_⟩,?_,fun b hb=>.inl hb⟩
 {
 have hh:=he.blk (((((h1.set 3 (.int .i64 (begun+1))).other ⟨b,begun%64*3,none⟩ (.int .i64 1) (fun e=>hbp e.symm)).other ⟨b,begun%64*3+1,none⟩ (.int .i64 (-1)) (fun e=>hbp e.symm)).other ⟨b,begun%64*3+2,none⟩ (.int .u64 tm') (fun e=>hbp e.symm)).set 4 (.int .i64 ((Ar.used ⟨slots,begun,[]⟩:Nat)+1)));have e2:(((Ar.used ⟨slots,begun,[]⟩:Nat):Int)+1)=((Ar.used (Ar.alloc ⟨slots,begun,[]⟩):Nat):Int):=by simp[Ar.used,Ar.alloc]
 rw[e2]at hh;exact hh}
 {
 refine he.owns (aI h2 fun q hq=>?_);simp only[Value.ownBlock,qQ]at hq;subst hq;rw[Below.heap_setCell _ _ _ _ hg1,Below.heap_setCell _ _ _ _ hg2,Below.heap_setCell _ _ _ _ hg2,Below.heap_setCell _ _ _ _ hg2,Below.heap_setCell _ _ _ _ hg1]}
 · exact cT.same (((((h3.other ⟨pa,3,none⟩ _ hpab).set0 hndb hbk 1).set1 hndb hbk (-1)).set2 hndb hbk tm').other ⟨pa,4,none⟩ _ hpab) (fun b _=>by rw[he.heap])
 · simp[Ar.alloc];omega
 · exact⟨hs,by simp[Ar.alloc];omega,by simp[Ar.alloc],by simp[Ar.alloc]⟩
 {
 refine⟨fun j hj hm=>by simp[Ar.alloc]at hm,fun j hj _=>?_⟩;simp only[Ar.alloc,upd]at hj ⊢;by_cases e:j=begun
 · rw[qI e]
 · rw[qH e];exact hst.2 j (by omega) (by simp)}
 · trivial
 · refine he.fr (((((Fr.refl _ _).setCell _ _ ?_).setCell _ _ ?_).setCell _ _ ?_).setCell _ _ ?_ |>.setCell _ _ ?_)<;>simp[hbm]}}
theorem uF{w:World}{pa:Nat}{A:Ar}{l:List Nat}{k:Nat}(h:aQ w pa A l)(hu:A.isUsed k):
    Calls Tryz.prog 91 #[ptr pa,.int .i64 k] w fun e w' =>e=.returned (.int .i64 0)/\aQ w' pa (A.put k) l/\Fr l w w' :=by
 obtain⟨v,bs,st,af,h1,h2,h3,rfl,hnd,hl,hok,hst,hch⟩:=h;have hlen:=hok.len;obtain⟨slots,begun,free⟩:=A;have hs:=hok.hs;have hb:=hok.hb;obtain⟨hkb,hkf⟩:=hu;dsimp only at *
 have hndb:bs.Nodup:=by simp only[qX,qW]at hnd;exact hnd.2.2.1
 have hpab:pa∉bs:=by intro hm;simp only[qX]at hnd;exact hnd.1 (by simp[hm])
 obtain⟨g,cap,b,tm,rfl,hbk,hg1,hg2,hbp,c1,c2,c3,c4,hfz⟩:=aQ.slot h2 h3 hnd hl (show k/64<bs.length by omega);have hbm:=List.mem_of_getElem? hbk;have hlen2:free.length+1<=begun:=by {
 have:=lA (l:=k::free) (n:=begun) (by simp[hkf,hok.nd]) (by intro x hx;simp at hx;rcases hx with rfl|hx;exact hkb;exact hok.lt x hx);simpa using this};rw[hst.2 k hkb hkf]at c2;refine(aAN pa g bs.length cap b k (Ar.used ⟨slots,begun,free⟩) slots begun (fF free) (af k) tm w hbp (h1.cell 0) (h1.cell 5) (h1.cell 1) (by omega) (by omega) (h1.cell 2) (by omega) (h1.cell 3) hkb hg1 hg2 h1.frozen hfz c1 (h1.cell 4) (by simp only[Ar.used];omega) (by simp only[Ar.used];omega) c2 c3 c4).mono ?_;rintro e w' ⟨rfl,he⟩;refine⟨rfl,⟨_,bs,upd st k 2,upd af k (fF free),?_,?_,?_,rfl,hnd,hl,?_,?_,?_⟩,?_⟩
 {
 have hh:=he.blk (((((h1.other ⟨b,k%64*3,none⟩ (.int .i64 2) (fun e=>hbp e.symm)).other ⟨b,k%64*3+1,none⟩ (.int .i64 (fF free)) (fun e=>hbp e.symm)).set 5 (.int .i64 k)).set 4 (.int .i64 ((Ar.used ⟨slots,begun,free⟩:Nat)-1))));have e2:(((Ar.used ⟨slots,begun,free⟩:Nat):Int)-1)=((Ar.used (Ar.put ⟨slots,begun,free⟩ k):Nat):Int):=by simp only[Ar.used,Ar.put,zI]at *;omega
 rw[e2]at hh;exact hh}
 {
 refine he.owns (aI h2 fun q hq=>?_);simp only[Value.ownBlock,qQ]at hq;subst hq;rw[Below.heap_setCell _ _ _ _ hg1,Below.heap_setCell _ _ _ _ hg1,Below.heap_setCell _ _ _ _ hg2,Below.heap_setCell _ _ _ _ hg2]}
 · exact cT.same ((((h3.set0 hndb hbk 2).set1 hndb hbk (fF free)).other ⟨pa,5,none⟩ _ hpab).other ⟨pa,4,none⟩ _ hpab) (fun b _=>by rw[he.heap])
 · exact⟨hs,hb,by simp[Ar.put,hkf,hok.nd],fun x hx=>by simp[Ar.put]at hx;rcases hx with rfl|hx;exact hkb;exact hok.lt x hx⟩
 {
 refine⟨fun j hj hm=>?_,fun j hj hm=>?_⟩<;>simp only[upd,Ar.put,qF,not_or]at hj hm ⊢
 {
 by_cases e:j=k
 · rw[qI e]
 · rw[qH e];exact hst.1 j hj (hm.resolve_left e)}
 · rw[qH hm.1];exact hst.2 j hj hm.2}
 · exact⟨by simp[upd],hch.other hkf⟩
 · refine he.fr ((((Fr.refl _ _).setCell _ _ ?_).setCell _ _ ?_).setCell _ _ ?_ |>.setCell _ _ ?_)<;>simp[hbm]
theorem nK{w:World}{pa:Nat}{A:Ar}{l:List Nat}(h:aQ w pa A l):
    Calls Tryz.prog 96 #[ptr pa] w fun e w' =>e=.returned (.int .i64 A.used)/\w=w' :=by
 obtain⟨v,bs,st,af,h1,_⟩:=h;exact aCR pa _ w (h1.cell 0) (h1.cell 4)
theorem yB(slots:Nat)(w:World)(h:slots<=65536):
    Calls Tryz.prog 163 #[.int .i64 slots] w fun e w' =>e=.returned (.tuple #[ptr w.heap.size,.int .i64 0])/\aQ w' w.heap.size (Ar.new slots) [w.heap.size]/\Fr [] w w' :=by
 refine(aCS slots w h).mono ?_;rintro e w' ⟨rfl,he⟩;refine⟨rfl,⟨_,[],fun _=>0,fun _=>0,he.blk (Blk.new w [ptr w.heap.size,.slice none 0 0,.int .i64 slots,.int .i64 0,.int .i64 0,.int .i64 (-1)] _),World.ownsRow_nil _ _ _ _,?_,rfl,by simp,by simp[Ar.new],⟨h,by simp[Ar.new],by simp[Ar.new],by simp[Ar.new]⟩,by simp[Ar.new],trivial⟩,he.fr ((Fr.refl _ _).alloc _)⟩;intro j b hj;simp at hj
theorem aCU(j:Nat)(hj:j<63)(x:Int):((BitVec.ofInt 64 x &&& BitVec.ofInt 64 ((2:Int) ^ j-1)).toNat:Int)=x%(2:Int) ^ j:=by
 have hp:2 ^ j<2 ^ 63:=Nat.pow_lt_pow_right (by decide) hj;have hp0:0<2 ^ j:=Nat.two_pow_pos j;have hc:((2:Int) ^ j-1)=((2 ^ j-1:Nat):Int):=by rw[Int.natCast_sub hp0];simp
 have hd:((2:Int) ^ j)∣((2 ^ 64:Nat):Int):=⟨(2:Int) ^ (64-j),by rw[<-Int.pow_add];rw[show j+(64-j)=64 by omega];simp⟩;rw[hc,BitVec.toNat_and,BitVec.ofInt_natCast,BitVec.toNat_ofNat,Nat.mod_eq_of_lt (show 2 ^ j-1<2 ^ 64 by omega),Nat.and_two_pow_sub_one_eq_mod,BitVec.toNat_ofInt];rw[Int.natCast_emod,Int.toNat_of_nonneg (Int.emod_nonneg _ (by decide))];simp only[Int.natCast_pow,Int.cast_ofNat_Int]at *;exact Int.emod_emod_of_dvd x hd
theorem aND(j:Nat)(hj:j<63)(x:Int):bits .and .i64 x ((2:Int) ^ j-1)=x%(2:Int) ^ j:=by
 have hp:(2:Int) ^ j<2 ^ 63:=by exact_mod_cast Nat.pow_lt_pow_right (by decide) hj
 have hp0:(0:Int)<2 ^ j:=by exact_mod_cast Nat.two_pow_pos j
 have h1:=Int.emod_nonneg x (show(2:Int) ^ j≠0 by omega);have h2:=Int.emod_lt_of_pos x hp0;show IntKind.i64.wrap ((BitVec.ofInt 64 x &&& BitVec.ofInt 64 ((2:Int) ^ j-1)).toNat:Int)=_
 rw[aCU j hj,IntKind.wrap_i64];generalize (2:Int) ^ j=m at *;generalize x%m=y at *;omega
theorem aFW(j:Nat)(hj:j<63)(x:Int):bits .and .u64 x ((2:Int) ^ j-1)=x%(2:Int) ^ j:=by
 have hp:(2:Int) ^ j<2 ^ 63:=by exact_mod_cast Nat.pow_lt_pow_right (by decide) hj
 have hp0:(0:Int)<2 ^ j:=by exact_mod_cast Nat.two_pow_pos j
 have h1:=Int.emod_nonneg x (show(2:Int) ^ j≠0 by omega);have h2:=Int.emod_lt_of_pos x hp0;show IntKind.u64.wrap ((BitVec.ofInt 64 x &&& BitVec.ofInt 64 ((2:Int) ^ j-1)).toNat:Int)=_
 rw[aCU j hj,IntKind.wrap_u64];generalize (2:Int) ^ j=m at *;generalize x%m=y at *;omega
structure xD (n:Nat):Prop where
  pos:1<n
  le:n<=131072
  i64:∀x:Int,bits .and .i64 x ((n:Int)-1)=x%n
  u64:∀x:Int,bits .and .u64 x ((n:Int)-1)=x%n
theorem xD.mk' (j:Nat)(h0:1<=j)(h1:j<=17):xD (2 ^ j):=by
 have hp:2 ^ j<=2 ^ 17:=Nat.pow_le_pow_right (by decide) h1;have hp0:2 ^ 1<=2 ^ j:=Nat.pow_le_pow_right (by decide) h0;refine⟨by omega,by omega,fun x=>?_,fun x=>?_⟩
 · have:=aND j (by omega) x;simpa using this
 · have:=aFW j (by omega) x;simpa using this
def mix1(id:Int):Int:=IntKind.u64.wrap (bits BinOp.xor IntKind.u64 id (id/8589934592)*18397679294719823053)
def mix2(x:Int):Int:=IntKind.u64.wrap (bits BinOp.xor IntKind.u64 x (x/8589934592)*14181476777654086739)
def mix3(y:Int):Int:=bits BinOp.xor IntKind.u64 y (y/8589934592)
def hsh(id:Int):Int:=mix3 (mix2 (mix1 id))
def hm(n:Nat)(id:Nat):Nat:=(hsh id%n).toNat
theorem uG{n:Nat}(h:0<n)(id:Nat):hm n id<n:=by
 unfold hm;have:=Int.emod_lt_of_pos (hsh id) (show(0:Int)<n by omega);have:=Int.emod_nonneg (hsh id) (show(n:Int)≠0 by omega);omega
theorem aST{n:Nat}(h:0<n)(id:Nat):(hsh id%n)=(hm n id:Int):=by
 unfold hm;have:=Int.emod_nonneg (hsh id) (show(n:Int)≠0 by omega);omega
theorem aFX(pt g n cap:Nat)(id:Nat)(w:World)(h3:w.cell? ⟨pt,3,none⟩=some (.slice (some ⟨g,0,none⟩) n cap))(_h1:id<18446744073709551616)(hM:xD n):
    Calls Tryz.prog 181 #[.pointer (some ⟨pt,0,none⟩),.int .u64 id] w fun e w' =>e=.returned (.int .i64 (hm n id))/\w=w' :=by
 have hn:=hM.pos;have hn2:=hM.le;have hu:=hM.u64;have hw:∀x:Int,wrap64 (x%n)=x%n:=fun x=>by
   have h1:=Int.emod_lt_of_pos x (show(0:Int)<n by omega);have h2:=Int.emod_nonneg x (show(n:Int)≠0 by omega);exact IntWalk.wrap64_in _ ⟨by omega,by omega⟩
 go_enter Tryz.func181,Tryz.ntmps181
 go_wp2
 go_ret;refine⟨aIB (k:=.i64) ?_,rfl⟩;rw[<-aST (by omega)];unfold hsh mix3 mix2 mix1;first|exact hw _|exact rfl
section
variable {F:Fence} {n:Nat} {P:Program} {ops:Array Oper} {md:Region.Mode} {C:World->Prop}
theorem semAt_plain(ro:Option Nat)(ρ:Operand->Value)(o:Oper)(h:∀c,o.op≠.defer c):Oper.semAt ro ρ o=execOp ρ o:=by
 cases ro with
 | none=>exact Oper.semAt_none ρ o
 | some l=>exact Oper.semAt_some l ρ o h
theorem aNE{o:Oper}{a:Act}{K:Act->Prop}{K' :Act->World->Prop}{Q' :Exit->Act->World->Prop}{w:World}(hd:∀c,o.op≠.defer c)(hw:C w)(h:∀a w', C w' -> K a->K' a w')
    (ha:o.askedIn F P a C) (hh:o.quietIn F n P a C K):o.wpIn F n P a w K' Q' :=by
 obtain⟨v,h1,h2⟩:=hh;have h3:=h1 w hw;unfold Oper.quietAtIn at h3;refine⟨ha w hw,?_⟩;rw[semAt_plain _ _ _ hd];generalize (execOp a.eval o).run P w=r at *;cases r with
 | halt x w' =>exact h3.elim
 | ok x w' =>{
 cases x with
 | value u=>obtain⟨rfl,rfl⟩:=h3;exact h _ _ hw h2
 | skip=>obtain⟨rfl,rfl⟩:=h3;exact h _ _ hw h2
 | enter f args=>obtain⟨rfl,hd,hc⟩:=h3;exact⟨hd,hc.mono fun e w'' ⟨he,hw''⟩=>by subst he;exact h _ _ hw'' h2⟩
 | _=>exact h3.elim}
theorem aFY{i:Nat}{a:Act}{K:Act->Prop}{K' :Act->World->Prop}{Q' :Exit->Act->World->Prop}{w:World}(hd:∀o∈ops.toList,∀c,o.op≠.defer c)(hC:C w)(h:∀a w', C w' -> K a->K' a w')
    (hh:qOpIn F n P ops C i K a):wpOpIn F n P ops Q' i K' a w:=by
 unfold qOpIn at hh;unfold wpOpIn;split
 · rename_i ho;simp only[ho]at hh;exact h _ _ hC hh
 {
 rename_i o ho;simp only[ho]at hh;obtain⟨ha,hh⟩:=hh;have hm:o∈ops.toList:=by rw[Array.mem_toList_iff];exact Array.mem_of_getElem? ho
 split
 · rename_i hw;simp only[hw,if_true]at hh;exact aNE (hd o hm) hC h ha hh
 · rename_i hw;simp only[hw]at hh;exact⟨ha w hC,h _ _ hC hh⟩}
theorem yC{Q:Act->Prop}{Q' :Exit->Act->World->Prop}(hd:∀o∈ops.toList,∀c,o.op≠.defer c)(hQ:∀a w,C w->Q a->Q' .normal a w):∀(fuel:Nat) (listed:Array Bool) (a:Act) (w:World),C w ->
    wpAnyQIn F n P md ops C Q fuel listed a->wpAnyIn F n P md ops Q' fuel listed a w
  | 0,_,_,_,hw,h=>⟨h.1,hQ _ _ hw h.2⟩
  | fuel+1,_,_,_,hw,h=>⟨fun h0=>hQ _ _ hw (h.1 h0),fun i hi=>aFY hd hw (fun a' w' hw' =>yC hd hQ fuel _ a' w' hw') (h.2 i hi)⟩
def aIC(o:Oper):Bool:=match o.op with
  | .defer _=>false
  | _=>true
theorem aAP{id:Nat}{Q:Exit->Act->World->Prop}{a:Act}{w:World}{l:List Oper}(hm:P.follows .mixedOrders=true)(hB:Region.lexB .any l.toArray=true)(hd:l.all aIC=true)
    (h:wpQuietIn F n P l.toArray (fun w' =>∃n,w' =w.drewN n) (fun a' =>∀w', (∃n,w' =w.drewN n)->Q .normal a' w') l a):(Code.region id l.toArray true).wpIn F n P Q a w:=by
 simp only[Region.lexB,zG]at hB;have hd' :∀o∈l.toArray.toList,∀c,o.op≠.defer c:=by {
 intro o ho c e;have:=List.all_eq_true.1 hd o (by simpa using ho);simp[aIC,e]at this};refine wpIn_region_any hm (yC (Q:=fun a' =>∀w', (∃n,w' =w.drewN n)->Q .normal a' w') (C:=fun w' =>∃n,w' =w.drewN n) hd' (fun _ w' hw' h=>h w' hw') _ _ _ _ ⟨1,rfl⟩ ?_);have:=wpAnyQIn_lex (F:=F) (n:=n) (C:=fun w' =>∃n,w' =w.drewN n) (md:=.any) hB.1 l 0 (Array.replicate l.toArray.size false) a (by simp) (by simpa using hB.2) h;simpa using this
end
end Go.Proofs.YtgmnemndjjmgkaaGreat
namespace Go.Proofs.YtgmnemndjjmgkaaGreat
open Go.RowKit Go.Shelf
attribute [local go_sem] Oper.semAt_some
theorem sU(W:World)(n:Nat):KeepsOthers W (W.drewN n):=⟨qS _,fun _ _ h _=>h⟩
structure pI (B:Nat) (w:World) (pt gc n cap:Nat) (C:Nat->Nat) (v:Value):Prop where
  hpt:pt<B
  hgc:gc<B
  h3:w.cell? ⟨pt,3,none⟩=some (.slice (some ⟨gc,0,none⟩) n cap)
  h2:w.cell? ⟨pt,2,none⟩=some v
  hC:∀c,c<n->w.cell? ⟨gc,c,none⟩=some (.int .i64 (C c))
theorem pI.below{B:Nat}{w w' :World}{pt gc n cap:Nat}{C:Nat->Nat}{v:Value}(h:pI B w pt gc n cap C v)(hb:Below B w w'):pI B w' pt gc n cap C v:=
  ⟨h.hpt,h.hgc,(hb.cell (p:=⟨pt,3,none⟩) h.hpt).trans h.h3,(hb.cell (p:=⟨pt,2,none⟩) h.hpt).trans h.h2,fun c hc=>(hb.cell (p:=⟨gc,c,none⟩) h.hgc).trans (h.hC c hc)⟩
theorem pI.mono{B B' :Nat}{w:World}{pt gc n cap:Nat}{C:Nat->Nat}{v:Value}(h:pI B w pt gc n cap C v)(hb:B<=B'):pI B' w pt gc n cap C v:=
  ⟨Nat.lt_of_lt_of_le h.hpt hb,Nat.lt_of_lt_of_le h.hgc hb,h.h3,h.h2,h.hC⟩
abbrev Prb(n m:Nat):={ x:Nat×Nat // x.1<n/\x.2<=m }
def prb(n m:Nat)(C:Nat->Nat)(hC:∀c,c<n->C c<=m)(hn:0<n)(h0 k:Nat):Prb n m:=⟨((h0+k)%n,C ((h0+k)%n)),Nat.mod_lt _ hn,hC _ (Nat.mod_lt _ hn)⟩
def nW(n m:Nat)(C:Nat->Nat)(hC:∀c,c<n->C c<=m)(hn:0<n)(h0 k:Nat):List (Prb n m):=(List.range k).map (prb n m C hC hn h0)
theorem yD(n m:Nat)(C:Nat->Nat)(hC:∀c,c<n->C c<=m)(hn:0<n)(h0 k:Nat):nW n m C hC hn h0 (k+1)=nW n m C hC hn h0 k++[prb n m C hC hn h0 k]:=by
 simp[nW,List.range_succ]
theorem aCV(n m:Nat)(C:Nat->Nat)(hC:∀c,c<n->C c<=m)(hn:0<n)(h0 k:Nat)(hk:k<=n):nW n m C hC hn h0 k <+: nW n m C hC hn h0 n:=by
 refine⟨((List.range n).drop k).map (prb n m C hC hn h0),?_⟩;unfold nW;rw[<-List.map_append];congr 1
 have:List.range k=(List.range n).take k:=by rw[List.take_range,Nat.min_eq_left hk]
 rw[this,List.take_append_drop]
theorem aNF(pt id:Nat)(w:World):
    CallsIn Fence.wide 9 Tryz.prog 180 #[ptr pt,.int .u64 id] w fun e w' =>e=.returned (.func (.func 207) #[] #[.pointer (some ⟨w.heap.size,0,none⟩),.pointer (some ⟨w.heap.size+1,0,none⟩)])/\w' =(w.alloc (.cells #[ptr pt] 141)).alloc (.cells #[.int .u64 id] 26):=by
 refine callsIn_of_wp Tryz.func180 rfl trivial ?_ rfl;simp only[Tryz.ntmps180,List.size_toArray,zI,List.length_nil,Nat.reduceAdd,Nat.reduceSub,Array.replicate_succ,Array.replicate_zero,List.push_toArray,List.append_toArray,List.nil_append,zL];gi_wp2
 go_ret;exact⟨rfl,rfl⟩
theorem aKE(nf l Bt Bi B pt gc n cap m id:Nat)(C:Nat->Nat)(v:Value)(hC:∀c,c<n->C c<=m)(hM:xD n)(_hmm:m<=65536)(hid:id<18446744073709551616)(hnf:2<=nf)(hBt:Bt<B)(_hBi:Bi<B)
    (J Jx:List (Prb n m)->World->Prop)
    (hY:∀pre x W,J pre W->pre.length<n->YieldAt Fence.wide (nf-1) Tryz.prog l #[.int .i64 x.1.1,.int .i64 x.1.2] W fun e W' =>
      (e=.returned (.bool true)/\J (pre++[x]) W' /\ Below B W W')∨(e=.returned (.bool false)/\Jx (pre++[x]) W'))
    (W:World) (hR:pI B W pt gc n cap C v) (hct:W.cell? ⟨Bt,0,none⟩=some (ptr pt)) (hci:W.cell? ⟨Bi,0,none⟩=some (.int .u64 id)) (h0:J [] W):
    CallsIn Fence.wide nf Tryz.prog 207 #[.func (.yield l) #[] #[],.pointer (some ⟨Bt,0,none⟩),.pointer (some ⟨Bi,0,none⟩)] W fun e W' =>(∃v,e=.returned v) /\
      ((∃ys,ys=nW n m C hC (by have:=hM.pos;omega) (hm n id) n/\J ys W')∨(∃pre,pre <+: nW n m C hC (by have:=hM.pos;omega) (hm n id) n/\Jx pre W')):=by
 have hn:=hM.pos;have hn2:=hM.le;have hi:=hM.i64;have HR:=qB hR;clear hR;have c3:=HR.out.h3;have hh:=uG (show 0<n by omega) id;refine callsIn_of_wp Tryz.func207 rfl trivial ?_ rfl;simp only[Tryz.ntmps207,List.size_toArray,zI,List.length_nil,Nat.reduceAdd,Nat.reduceSub,Array.replicate_succ,Array.replicate_zero,List.push_toArray,List.append_toArray,List.nil_append,zL];gi_wp2_with (refine⟨trivial,fun _=>by omega,?_⟩;gi_at_call 181;refine(callsIn_wide.2 (aFX pt gc n cap id _ c3 hid hM)).mono ?_;rintro e w' ⟨rfl,rfl⟩)
 gi_loopw [4,13] (fun c i wr=>∃k c0:Nat,k<=n/\c0<n/\Hid (c0=(hm n id+k)%n)/\c=.int .i64 c0/\i=.int .i64 k/\Below B W wr/\J (nW n m C hC (by omega) (hm n id) k) wr) (fun _ i _=>n-(intOf i).toNat)
 case atStart=>exact⟨0,hm n id,zB _,hh,qB (by rw[Nat.add_zero,Nat.mod_eq_of_lt hh]),rfl,rfl,Below.refl _ _,h0⟩
 case round=>
  obtain⟨k,c0,hk,hc0,Hc,rfl,rfl,hB,hJ⟩:=hrel;by_cases hlt:k<n
  {
  have hRw:=HR.out.below hB;have r3:=hRw.h3;have rC:=hRw.hC c0 hc0;have rt:=(hB.cell (p:=⟨Bt,0,none⟩) hBt).trans hct;have HR2:=qB hRw;clear hRw;obtain⟨fn,tmps,assign,body,hy,hRd⟩:=hY (nW n m C hC (by omega) (hm n id) k) (prb n m C hC (by omega) (hm n id) k) wr hJ (by simp[nW];exact hlt);have e0:(prb n m C hC (by omega) (hm n id) k).1.1=c0:=Hc.out.symm;have e1:(prb n m C hC (by omega) (hm n id) k).1.2=C c0:=by simp only[prb];rw[<-Hc.out]
  rw[e0,e1]at hy;clear e0 e1;gi_wp2
  refine⟨fun _=>by omega,?_⟩;refine hRd.mono ?_;rintro e W3 (⟨rfl,hJ3,hk3⟩|⟨rfl,hJx3⟩)
  {
  have hR3:=HR2.out.below hk3;have r33:=hR3.h3;have rt3:=(hk3.cell (p:=⟨Bt,0,none⟩) hBt).trans rt;clear hR3 rC r3 rt;gi_wp2
  go_roundw
  case rel=>exact⟨k+1,(c0+1)%n,by omega,Nat.mod_lt _ (by omega),qB (by rw[Hc.out,Nat.mod_add_mod,Nat.add_assoc]),by go_num,by go_num,hB.trans hk3,by rw[yD];exact hJ3⟩
  case measure=>simp[intOf];omega}
  {
  gi_wp2
  refine bodyPost_ret (results_none rfl _ _ _) rfl ?_;exact⟨⟨_,rfl⟩,.inr ⟨_,by rw[<-yD];exact aCV n m C hC (by omega) (hm n id) (k+1) (by omega),hJx3⟩⟩}}
  {
  gi_wp2
  go_end0
  have:k=n:=by omega
  subst this;exact⟨⟨_,rfl⟩,.inl ⟨_,rfl,hJ⟩⟩}
def aCW(n:Nat)(C ids:Nat->Nat)(id c:Nat)(b:Bool):Prop:=
  ∃k,k<n/\c=(hm n id+k)%n/\(∀j,j<k->C ((hm n id+j)%n)≠0/\ids (C ((hm n id+j)%n)-1)≠id) /\
    ((b=false/\C c=0)∨(b=true/\C c≠0/\ids (C c-1)=id))
def W6(w:World)(pt id:Nat):World:=(((((w.alloc (.cells #[ptr pt] 141)).alloc (.cells #[.int .u64 id] 26)).alloc (.cells #[.int .i64 0] 3)).alloc (.cells #[.bool false] 4)).alloc (.cells #[ptr pt] 141)).alloc (.cells #[.int .u64 id] 26)
theorem aSU(w:World)(pt id:Nat):(W6 w pt id).heap.size=w.heap.size+6:=by simp[W6]
theorem aNG(w:World)(pt id:Nat):Below w.heap.size w (W6 w pt id):=
  ((((((Below.refl _ w).alloc (qS _) _).alloc (by simp) _).alloc (by simp;omega) _).alloc (by simp;omega) _).alloc (by simp;omega) _).alloc (by simp;omega) _
theorem aYF(w:World)(pt id:Nat):Blk (W6 w pt id) w.heap.size 141 [ptr pt]/\Blk (W6 w pt id) (w.heap.size+1) 26 [.int .u64 id]/\Blk (W6 w pt id) (w.heap.size+2) 3 [.int .i64 0]/\Blk (W6 w pt id) (w.heap.size+3) 4 [.bool false] /\
    Blk (W6 w pt id) (w.heap.size+4) 141 [ptr pt]/\Blk (W6 w pt id) (w.heap.size+5) 26 [.int .u64 id]:=by
 have a0:=Blk.new w [ptr pt] 141;have a1:=Blk.new (w.alloc (.cells #[ptr pt] 141)) [.int .u64 id] 26;have a2:=Blk.new ((w.alloc (.cells #[ptr pt] 141)).alloc (.cells #[.int .u64 id] 26)) [.int .i64 0] 3;have a3:=Blk.new (((w.alloc (.cells #[ptr pt] 141)).alloc (.cells #[.int .u64 id] 26)).alloc (.cells #[.int .i64 0] 3)) [.bool false] 4;have a4:=Blk.new ((((w.alloc (.cells #[ptr pt] 141)).alloc (.cells #[.int .u64 id] 26)).alloc (.cells #[.int .i64 0] 3)).alloc (.cells #[.bool false] 4)) [ptr pt] 141;have a5:=Blk.new (((((w.alloc (.cells #[ptr pt] 141)).alloc (.cells #[.int .u64 id] 26)).alloc (.cells #[.int .i64 0] 3)).alloc (.cells #[.bool false] 4)).alloc (.cells #[ptr pt] 141)) [.int .u64 id] 26;simp only[World.size_alloc]at a1 a2 a3 a4 a5;exact⟨((((a0.alloc _).alloc _).alloc _).alloc _).alloc _,(((a1.alloc _).alloc _).alloc _).alloc _,((a2.alloc _).alloc _).alloc _,(a3.alloc _).alloc _,a4.alloc _,a5⟩
theorem aYG(pt gc n cap m id:Nat)(C ids:Nat->Nat)(v:Value)(w:World)(hC:∀c,c<n->C c<=m)(hM:xD n)(hmm:m<=65536)(hid:id<18446744073709551616)
    (hR:pI w.heap.size w pt gc n cap C v) (hz:∃c,c<n/\C c=0)
    (hv:∀i,i<m->∃gi cap,v=.slice (some ⟨gi,0,none⟩) m cap/\gi<w.heap.size/\w.cell? ⟨gi,i,none⟩=some (.int .u64 (ids i))):
    Calls Tryz.prog 143 #[ptr pt,.int .u64 id] w fun e w' =>∃(c:Nat) (b:Bool),e=.returned (.tuple #[.int .i64 c,.bool b])/\aCW n C ids id c b/\Below w.heap.size w w' :=by
 have hn:=hM.pos;have hn2:=hM.le;refine(callsIn_wide (n:=9)).1 ?_;refine callsIn_of_wp_marks Tryz.func143 rfl trivial ?_ rfl;simp only[Tryz.ntmps143,List.size_toArray,zI,List.length_nil,Nat.reduceAdd,Nat.reduceSub,Array.replicate_succ,Array.replicate_zero,List.push_toArray,List.append_toArray,List.nil_append,zL];have HR:=qB hR;clear hR;have HV:=qB hv;clear hv;have HZ:=qB hz;clear hz;have HC:=qB hC;gi_wp2_with (refine⟨trivial,?_⟩;gi_at_call 180;refine(callsIn_wide.2 (callsIn_wide.1 (aNF pt id _))).mono ?_;rintro e w' ⟨rfl,rfl⟩)
 change Code.wpIn _ _ _ _ _ _ (W6 w pt id);have hsz:=aSU w pt id;have hB0:=aNG w pt id;obtain⟨b0,b1,b2,b3,b4,b5⟩:=aYF w pt id;have hR6:pI (W6 w pt id).heap.size (W6 w pt id) pt gc n cap C v:=(HR.out.below hB0).mono hB0.size;generalize W6 w pt id=W0 at *;have hs0:∀k,k<6->w.heap.size+k<W0.heap.size:=by omega
 refine wpIn_rangeFunc_ownF rfl (by decide) (α := Prb n m) (gf := 207) (lb := #[.pointer (some ⟨w.heap.size + 4, 0, none⟩), .pointer (some ⟨w.heap.size + 5, 0, none⟩)]) rfl trivial (enters_of Tryz.func207 (by kernel_rfl) rfl)
   (encs:=fun x=>#[.int .i64 x.1.1,.int .i64 x.1.2]) (Kp:=Below W0.heap.size) (S:=fun ys=>ys=nW n m C hC (by omega) (hm n id) n) (Sp:=fun pre=>pre <+: nW n m C hC (by omega) (hm n id) n) (N:=n) (w0:=W0)
   (fun l J Jx W hW _ _ hY h0=>aKE 8 l (w.heap.size+4) (w.heap.size+5) W0.heap.size pt gc n cap m id C v hC hM hmm hid (by decide) (hs0 4 (by decide)) (hs0 5 (by decide)) J Jx hY W (hR6.below hW) ((hW.cell (p:=⟨w.heap.size+4,0,none⟩) (hs0 4 (by decide))).trans (b4.cell 0)) ((hW.cell (p:=⟨w.heap.size+5,0,none⟩) (hs0 5 (by decide))).trans (b5.cell 0)) h0)
   belowK_t (belowK_b (qS _)) (Below.refl _ _) (fun _=>rfl)
   (fun pre W=>((∀y∈pre,y.1.2≠0/\ids (y.1.2-1)≠id)/\W.cell? ⟨w.heap.size,0,none⟩=some (ptr pt)/\W.cell? ⟨w.heap.size+1,0,none⟩=some (.int .u64 id)/\(W.cell? ⟨w.heap.size+2,0,none⟩=some (.int .i64 0)/\W.frozen? ⟨w.heap.size+2,0,none⟩=false)/\W.cell? ⟨w.heap.size+3,0,none⟩=some (.bool false)/\W.frozen? ⟨w.heap.size+3,0,none⟩=false)/\Below w.heap.size w W)
   (fun c pre W=>(c=.ret/\∃pre' x b,pre=pre' ++ [x]/\(∀y∈pre', y.1.2≠0/\ids (y.1.2-1)≠id)/\((b=false/\x.1.2=0)∨(b=true/\x.1.2≠0/\ids (x.1.2-1)=id))/\W.cell? ⟨w.heap.size+2,0,none⟩=some (.int .i64 x.1.1)/\W.cell? ⟨w.heap.size+3,0,none⟩=some (.bool b))/\Below w.heap.size w W)
   (OwnFrom.and (Own.from (fun s A B row hs hg hr=>⟨hs.1,cell_kept hs.2.1 hg hr,cell_kept hs.2.2.1 hg hr,⟨cell_kept hs.2.2.2.1.1 hg hr,(frozen_kept hs.2.2.2.1.1 hg hr).trans hs.2.2.2.1.2⟩,cell_kept hs.2.2.2.2.1 hg hr,(frozen_kept hs.2.2.2.2.1 hg hr).trans hs.2.2.2.2.2⟩) _) (ownFrom_below (qS _) (by omega)))
   (fun c=>OwnFrom.and (Own.from (fun s A B row hs hg hr=>by
     obtain⟨h1,pre', x,b,h2,h3,h4,h5,h6⟩:=hs;exact⟨h1,pre', x,b,h2,h3,h4,cell_kept h5 hg hr,cell_kept h6 hg hr⟩) _) (ownFrom_below (qS _) (by omega)))
   ⟨⟨by simp,b0.cell 0,b1.cell 0,⟨b2.cell 0,b2.frozen 0⟩,b3.cell 0,b3.frozen 0⟩,hB0⟩
   (fun x=>{ tmps:=#[ptr pt,.int .u64 id,ptr w.heap.size,ptr (w.heap.size+1),ptr (w.heap.size+2),ptr (w.heap.size+3),.int .i64 x.1.1,.int .i64 x.1.2,ptr pt,.int .u64 id,.func (.func 207) #[] #[ptr (w.heap.size+4),ptr (w.heap.size+5)],.int .i64 x.1.1,.int .i64 x.1.2,undef,undef,undef,undef,undef,undef,undef,undef,undef,undef,undef,undef,undef,undef],defers:=[] }) ?assign ?body ?done ?stop
 case assign=>
  intro l x W K hK;gi_wp2
  exact hK
 case body=>
  rintro l pre x W ⟨⟨hp,hct,hci,⟨hcr,hfr⟩,hcb,hfb⟩,hB⟩ _;have HP:=qB hp;clear hp;obtain⟨⟨c0,i0⟩,hx1,hx2⟩:=x;dsimp only at hx1 hx2 ⊢
  by_cases hi0:i0=0
  {
  subst hi0;gi_wp2
  refine⟨(KeepsOthers.setCell _ _ _).trans (KeepsOthers.setCell _ _ _),⟨rfl,pre,⟨(c0,0),hx1,hx2⟩,false,rfl,HP.out,.inl ⟨rfl,rfl⟩,?_,?_⟩,(hB.setCell (p:=⟨w.heap.size+2,0,none⟩) (by simp) _).setCell (p:=⟨w.heap.size+3,0,none⟩) (by simp) _⟩
  · rw[World.cell?_setCell_other _ _ _ _ (by simp)];exact World.cell?_setCell_same' _ _ _ (by rw[hcr];rfl)
  · exact World.cell?_setCell_same' _ _ _ (by rw[World.cell?_setCell_other _ _ _ _ (by simp),hcb];rfl)}
  {
  obtain⟨i1,rfl⟩:∃i1,i0=i1+1:=⟨i0-1,by omega⟩;clear hi0;have hb0:(((i1:Int)+1) == 0)=false:=zA.2 (by omega);obtain⟨gi,cap,rfl,hgi,hci'⟩:=HV.out i1 (by omega);have r2:=(hB.cell (p:=⟨pt,2,none⟩) HR.out.hpt).trans HR.out.h2;have ri:=(hB.cell (p:=⟨gi,i1,none⟩) hgi).trans hci';have hw1:IntKind.i64.wrap (i1:Int)=i1:=zP _ (by omega);have hi1:i1<m:=by omega
  have hi2:(i1:Int)<m:=by omega
  clear hci';gi_wp2
  refine aAP (by kernel_rfl) (by kernel_rfl) (by kernel_rfl) ?_;repeat (quiet_step_in (fail))
  refine wpQuietIn_nil ?_;rintro _ ⟨nq,rfl⟩;gi_wp2
  {
  have hx : ids i1 = id := by have h : ((ids i1 : Int) == (id : Int)) = true := by assumption
                              have:=eq_of_beq h;omega
  refine⟨((sU _ _).trans (KeepsOthers.setCell _ _ _)).trans (KeepsOthers.setCell _ _ _),⟨rfl,pre,⟨(c0,i1+1),hx1,hx2⟩,true,rfl,HP.out,.inr ⟨rfl,by simp,hx⟩,?_,?_⟩,((below_drewN hB _).setCell (p:=⟨w.heap.size+2,0,none⟩) (by simp) _).setCell (p:=⟨w.heap.size+3,0,none⟩) (by simp) _⟩
  · rw[World.cell?_setCell_other _ _ _ _ (by simp)];exact World.cell?_setCell_same' _ _ _ (by rw[(Eqv.drewN W nq).cell,hcr];rfl)
  · exact World.cell?_setCell_same' _ _ _ (by rw[World.cell?_setCell_other _ _ _ _ (by simp),(Eqv.drewN W nq).cell,hcb];rfl)}
  {
  have hx : ids i1 ≠ id := by have h : ((ids i1 : Int) == (id : Int)) = false := by assumption
                              have:=zA.1 h;omega
  refine⟨sU _ _,below_drewN (Below.refl _ _) _,⟨fun y hy=>(qJ.1 hy).elim (HP.out y) (fun e=>by cases qP.1 e;exact⟨Nat.succ_ne_zero _,hx⟩),hct,hci,⟨hcr,hfr⟩,hcb,hfb⟩,below_drewN hB _⟩}}
 case done=>
  rintro D ys W hD rfl ⟨⟨hne,_⟩,hB⟩ hK;exfalso
  obtain⟨c,hc,hc0⟩:=HZ.out;have hh:=uG (show 0<n by omega) id;have hq:(hm n id+(c+n-hm n id)%n)%n=c:=by rw[Nat.add_mod_mod,show hm n id+(c+n-hm n id)=c+n by omega,Nat.add_mod_right,Nat.mod_eq_of_lt hc]
  refine(hne (prb n m C hC (by omega) (hm n id) ((c+n-hm n id)%n)) (zF.2 ⟨_,List.mem_range.2 (Nat.mod_lt _ (by omega)),rfl⟩)).1 ?_;simp only[prb];rw[hq];exact hc0
 case stop=>
  rintro D c pre W hD hpre ⟨⟨rfl,pre', x,b,rfl,hskip,hend,hr1,hr2⟩,hB⟩ hK;gi_wp2
  refine⟨by simp,.inl ⟨_,_,rfl,run_takeDeferred hK,?_⟩⟩;have d1:=cell_kept hr1 (grownBy_putObj' _ D (.deferred none)) (fun r e=>by cases e;exact⟨_,hK,rfl⟩);have d2:=cell_kept hr2 (grownBy_putObj' _ D (.deferred none)) (fun r e=>by cases e;exact⟨_,hK,rfl⟩);refine⟨.tuple #[.int .i64 x.1.1,.bool b],by simp[results,Tryz.f143,go_sem,d1,d2],x.1.1,b,rfl,?_,hB.trans (belowK_b (w:=w) (qS _) W D _ _ (by omega) hK rfl rfl)⟩;obtain⟨rest,hrest⟩:=hpre;have hlen:pre'.length<n:=by {
  have:=congrArg List.length hrest;simp[nW]at this;omega};have hget:∀j (h:j<(pre' ++ [x]).length),(pre' ++ [x])[j]'h=prb n m C hC (by omega) (hm n id) j:=by {
  intro j h;have h2:(nW n m C hC (by omega) (hm n id) n)[j]? =some ((pre' ++ [x])[j]'h):=by rw[<-hrest,List.getElem?_append_left h,qT h]
  simp only[zO,zI,List.length_nil]at h;simp only[nW,List.getElem?_map,List.getElem?_range (show j<n by omega),Option.map_some,qQ]at h2;exact h2.symm};have hx:x=prb n m C hC (by omega) (hm n id) pre'.length:=by {
  have:=hget pre'.length (by simp);simpa using this};refine⟨pre'.length,hlen,by rw[hx];rfl,fun j hj=>?_,?_⟩
  {
  have h1:=hget j (by simp;omega);rw[List.getElem_append_left hj]at h1;have h2:=hskip _ (List.getElem_mem hj);rw[h1]at h2;exact h2}
  {
  have e1:C x.1.1=x.1.2:=by rw[hx];rfl
  rw[e1];exact hend}
end Go.Proofs.YtgmnemndjjmgkaaGreat
