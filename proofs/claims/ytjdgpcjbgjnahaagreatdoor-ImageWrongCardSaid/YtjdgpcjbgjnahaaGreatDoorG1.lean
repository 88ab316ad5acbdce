/- Walks over package intern. -/
import Derived.Test.YtjdgpcjbgjnahaaGreatDoorRows
import Derived.WalkKit
import Derived.ProofKit
import Derived.OpenShut
import Derived.ShutString
import Derived.WalkSpells
import Derived.WalkLawsBesides
import Derived.LaidEqlPtr
import Derived.Deep.QuietTactic
import Derived.BigQuiet
import Derived.Lib.Hide
import Derived.RangeFuncBox
import Derived.Maps.AppendAt
import Derived.Laws.BitsLemmas
import Derived.LaidMore
import Derived.Stop.Joined
import Derived.Deep.Strs
import Derived.Deep.Slices
import Derived.ChangeSame
set_option maxRecDepth 10000
set_option maxHeartbeats 800000
set_option linter.unusedSimpArgs false
set_option linter.unusedVariables false
/- How the arguments of the laws read: slices of integers. -/
namespace Go.Proofs.YtjdgpcjbgjnahaaGreatDoor
theorem qA:type_of% @Lib.hid:=@Lib.hid
theorem qB:type_of% @List.mem_cons:=@List.mem_cons
theorem qC:type_of% @if_neg:=@if_neg
theorem qD:type_of% @if_pos:=@if_pos
theorem qE:type_of% @List.mem_append:=@List.mem_append
theorem qF:type_of% @decide_eq_false:=@decide_eq_false
theorem qG:type_of% @decide_eq_true:=@decide_eq_true
theorem qH:type_of% @List.mem_singleton:=@List.mem_singleton
theorem qI:type_of% @Option.some.injEq:=@Option.some.injEq
theorem qJ:type_of% @Nat.le_refl:=@Nat.le_refl
theorem qK:type_of% @List.getElem?_eq_getElem:=@List.getElem?_eq_getElem
theorem qL:type_of% @Array.getElem?_eq_some_iff:=@Array.getElem?_eq_some_iff
theorem qM:type_of% @List.nodup_append:=@List.nodup_append
theorem qN:type_of% @List.nodup_cons:=@List.nodup_cons
theorem qO:type_of% @Value.slice.injEq:=@Value.slice.injEq
theorem qP:type_of% @Classical.byContradiction:=@Classical.byContradiction
theorem qQ:type_of% @beq_eq_false_iff_ne:=@beq_eq_false_iff_ne
theorem qR:type_of% @Nat.zero_le:=@Nat.zero_le
theorem qS:type_of% @List.getElem?_eq_some_iff:=@List.getElem?_eq_some_iff
theorem qT:type_of% @List.set_cons_succ:=@List.set_cons_succ
theorem qU:type_of% @Option.isSome_iff_exists:=@Option.isSome_iff_exists
theorem qV:type_of% @List.mem_map:=@List.mem_map
theorem qW:type_of% @Bool.and_eq_true:=@Bool.and_eq_true
theorem qX:type_of% @List.set_cons_zero:=@List.set_cons_zero
theorem qY:type_of% @List.length_cons:=@List.length_cons
theorem qZ:type_of% @List.mem_filter:=@List.mem_filter
theorem zA:type_of% @List.getElem?_eq_none:=@List.getElem?_eq_none
theorem zB:type_of% @List.cons_append:=@List.cons_append
theorem zC:type_of% @Int.toNat_natCast:=@Int.toNat_natCast
theorem zD:type_of% @Prod.mk.injEq:=@Prod.mk.injEq
theorem zE:type_of% @List.length_append:=@List.length_append
theorem zF:type_of% @IntWalk.i64_in:=@IntWalk.i64_in
theorem zG:type_of% @Nat.le_trans:=@Nat.le_trans
theorem zH:type_of% @And.intro:=@And.intro
theorem zI:type_of% @List.getElem?_cons_zero:=@List.getElem?_cons_zero
theorem zJ:type_of% @List.getElem?_cons_succ:=@List.getElem?_cons_succ
open Go.ChangeShapes Go.WideShapes Go.ChangeAt Go.RowKit
end Go.Proofs.YtjdgpcjbgjnahaaGreatDoor
namespace Go.Proofs.YtjdgpcjbgjnahaaGreatDoor
open Go.RowKit
def Blk(w:World)(b:Nat)(t:TypeId)(l:List Value):Prop:=w.heap[b]? =some (.cells l.toArray t (0,0))
section
variable {w:World} {b:Nat} {t:TypeId} {l:List Value}
theorem Blk.cell(h:Blk w b t l)(i:Nat):w.cell? ⟨b,i,none⟩=l[i]? :=by
 unfold Blk at h;simp[World.cell?,h]
theorem Blk.frozen(h:Blk w b t l)(i:Nat):w.frozen? ⟨b,i,none⟩=false:=by
 unfold Blk at h;simp[World.frozen?,h]
theorem Blk.lt(h:Blk w b t l):b<w.heap.size:=(qL.1 h).1
theorem Blk.of_same{w' :World}(h:Blk w b t l)(e:w'.heap[b]? =w.heap[b]?):Blk w' b t l:=e.trans h
theorem Blk.alloc(h:Blk w b t l)(o:Obj):Blk (w.alloc o) b t l:=h.of_same (Below.heap_alloc w o b h.lt)
theorem Blk.drew(h:Blk w b t l):Blk w.drew b t l:=h
theorem Blk.other(h:Blk w b t l)(a:Addr)(u:Value)(hne:b≠a.block):Blk (w.setCell a u) b t l:=
  h.of_same (Below.heap_setCell w a u b hne)
theorem Blk.set(h:Blk w b t l)(i:Nat)(u:Value):Blk (w.setCell ⟨b,i,none⟩ u) b t (l.set i u):=by
 have hb:=h.lt;unfold Blk at *;simp only[World.setCell,Array.getElem?_modify];simp[h]
theorem Blk.new(w:World)(l:List Value)(t:TypeId):Blk (w.alloc (.cells l.toArray t)) w.heap.size t l:=by
 show(w.heap.push _)[w.heap.size]? =_
 simp
theorem Blk.eq{l' :List Value}{t' :TypeId}(h:Blk w b t l)(h' :Blk w b t' l'):l=l' :=by
 unfold Blk at *;rw[h]at h'; simp at h'; exact h'.1
end
structure Fr (S:List Nat) (w w' :World):Prop where
  os:w'.os=w.os
  tape:w'.tape=w.tape
  output:w'.output=w.output
  size:w.heap.size<=w'.heap.size
  keep:∀k,k<w.heap.size->k∉S->w'.heap[k]? =w.heap[k]?
section
variable {S:List Nat} {w w' w'' :World}
theorem Fr.refl(S:List Nat)(w:World):Fr S w w:=⟨rfl,rfl,rfl,qJ _,fun _ _ _=>rfl⟩
theorem Fr.trans{S' :List Nat}(h:Fr S w w')(k:Fr S' w' w'')(hs:∀b∈S', b∈S∨w.heap.size<=b):Fr S w w'' :=
  ⟨k.os.trans h.os,k.tape.trans h.tape,k.output.trans h.output,zG h.size k.size,fun i hi hn=>
    (k.keep i (Nat.lt_of_lt_of_le hi h.size) (fun hm=>(hs i hm).elim hn (fun h=>by omega))).trans (h.keep i hi hn)⟩
theorem Fr.trans' (h:Fr S w w')(k:Fr S w' w''):Fr S w w'' :=h.trans k (fun _ hb=>.inl hb)
theorem Fr.mono{S' :List Nat}(h:Fr S w w')(hs:∀b∈S,b∈S' ∨ w.heap.size<=b):Fr S' w w' :=
  ⟨h.os,h.tape,h.output,h.size,fun k hk hn=>h.keep k hk (fun hm=>(hs k hm).elim hn (fun h=>by omega))⟩
theorem Fr.drew(h:Fr S w w'):Fr S w w'.drew:=⟨h.os,h.tape,h.output,h.size,h.keep⟩
theorem Fr.drewN(h:Fr S w w')(n:Nat):Fr S w (w'.drewN n):=⟨h.os,h.tape,h.output,h.size,h.keep⟩
theorem Fr.alloc(h:Fr S w w')(o:Obj):Fr S w (w'.alloc o):=
  h.trans' ⟨rfl,rfl,rfl,by simp,fun k hk _=>Below.heap_alloc _ _ _ hk⟩
theorem Fr.setCell(h:Fr S w w')(a:Addr)(u:Value)(ha:a.block∈S∨w.heap.size<=a.block):Fr S w (w'.setCell a u):=
  h.trans (S' := [a.block]) ⟨rfl, rfl, rfl, by simp [World.setCell], fun k _ hn => Below.heap_setCell _ _ _ _ (by simpa using hn)⟩
    (fun b hb=>by simp at hb;subst hb;exact ha)
theorem Fr.grown{row:Option Nat}(h:Fr S w w')(hg:w'.grownBy w'' row)(hr:∀k,row=some k->k∈S∨w.heap.size<=k):Fr S w w'' :=
  h.trans (S' := row.toList) ⟨hg.os, hg.tape, hg.output, hg.size, fun k hk hn => hg.block k hk (fun e => hn (by simp [<- e]))⟩
    (fun b hb=>hr b (by simpa using hb))
theorem Fr.below(h:Fr S w w')(hs:∀b∈S,w.heap.size<=b):Below w.heap.size w w' :=
  ⟨h.os,h.tape,h.output,h.size,fun k hk=>h.keep k hk (fun hm=>by have:=hs k hm;omega)⟩
theorem Fr.of_below(h:Below w.heap.size w w'):Fr [] w w' :=⟨h.os,h.tape,h.output,h.size,fun k hk _=>h.block k hk⟩
theorem Fr.blk{b:Nat}{t:TypeId}{l:List Value}(h:Fr S w w')(hb:Blk w b t l)(hn:b∉S):Blk w' b t l:=
  hb.of_same (h.keep b hb.lt hn)
end
theorem iE{w:World}{a:Addr}{v:Value}(h:w.cell? a=some v):a.block<w.heap.size:=by
 by_cases hb:a.block<w.heap.size
 · exact hb
 {
 have:w.heap[a.block]? =none:=Array.getElem?_eq_none (by omega);simp[World.cell?,this]at h}
theorem Fr.cell{S:List Nat}{w w' :World}{a:Addr}{v:Value}(h:Fr S w w')(hc:w.cell? a=some v)(hn:a.block∉S):w'.cell? a=some v:=
  (World.cell?_of_block (w:=w) (h.keep _ (iE hc) hn)).trans hc
structure Eqv (w' w:World):Prop where
  heap:w'.heap=w.heap
  os:w'.os=w.os
  tape:w'.tape=w.tape
  output:w'.output=w.output
theorem Eqv.refl(w:World):Eqv w w:=⟨rfl,rfl,rfl,rfl⟩
theorem Eqv.drewN(w:World)(n:Nat):Eqv (w.drewN n) w:=⟨rfl,rfl,rfl,rfl⟩
theorem Eqv.blk{w' w:World}(h:Eqv w' w){b:Nat}{t:TypeId}{l:List Value}(hb:Blk w b t l):Blk w' b t l:=by
 unfold Blk at *;rw[h.heap];exact hb
theorem Eqv.fr{w' w w0:World}(h:Eqv w' w){S:List Nat}(hf:Fr S w0 w):Fr S w0 w' :=
  ⟨h.os.trans hf.os,h.tape.trans hf.tape,h.output.trans hf.output,by rw[h.heap];exact hf.size,by rw[h.heap];exact hf.keep⟩
theorem Eqv.cell{w' w:World}(h:Eqv w' w)(a:Addr):w'.cell? a=w.cell? a:=by simp[World.cell?,h.heap]
theorem Eqv.owns{w' w:World}(h:Eqv w' w){base:Nat}{e:TypeId}{size:Nat}{v:Value}{n:Nat}{xs:List Value}
    (k:w.ownsRow base e size v n xs):w'.ownsRow base e size v n xs:=by unfold World.ownsRow at *;rw[h.heap];exact k
theorem aQ{w w' :World}{base:Nat}{e:TypeId}{size:Nat}{v:Value}{n:Nat}{xs:List Value}
    (h:w.ownsRow base e size v n xs) (hs:∀k,v.ownBlock=some k->w'.heap[k]? =w.heap[k]?):w'.ownsRow base e size v n xs:=by
 obtain⟨h1,h2⟩:=h;refine⟨h1,?_⟩;rcases h2 with h2|⟨g,cap,cur,rfl,hg,hh,r⟩
 · exact Or.inl h2
 · exact Or.inr ⟨g,cap,cur,rfl,hg,by rw[hs g rfl];exact hh,r⟩
theorem cL{w:World}{base:Nat}{e:TypeId}{v:Value}{n:Nat}{xs:List Value}(h:w.ownsRow base e 1 v n xs){i:Nat}(hi:i<n):
    ∃g cap,v=.slice (some ⟨g,0,none⟩) n cap/\n<=cap/\g<w.heap.size/\w.cell? ⟨g,i,none⟩=xs[i]? /\ (∀j,w.frozen? ⟨g,j,none⟩=false):=by
 obtain⟨h1,h2⟩:=h;rcases h2 with⟨_,h2⟩|⟨g,cap,cur,rfl,_,hh,hn,hm,hsz,hxs⟩
 · omega
 {
 refine⟨g,cap,rfl,hn,(qL.1 hh).1,?_,fun j=>by simp[World.frozen?,hh]⟩;subst hxs;simp only[World.cell?,hh];simp[hi]}
theorem aT{w:World}{base:Nat}{e:TypeId}{size:Nat}{v:Value}{n:Nat}{xs:List Value}(h:w.ownsRow base e size v n xs):∃a cap,v=.slice a n cap:=by
 rcases h.2 with⟨rfl,rfl⟩|⟨g,cap,cur,rfl,_⟩
 · exact⟨_,_,rfl⟩
 · exact⟨_,_,rfl⟩
theorem iF{w:World}{e:TypeId}{g n cap i:Nat}{xs:List Value}(h:w.ownsRow 0 e 1 (.slice (some ⟨g,0,none⟩) n cap) n xs)(_hi:i<n)(u:Value):
    (w.setCell ⟨g,i,none⟩ u).ownsRow 0 e 1 (.slice (some ⟨g,0,none⟩) n cap) n (xs.set i u):=by
 obtain⟨h1,h2⟩:=h;refine⟨by simpa using h1,?_⟩;rcases h2 with⟨h2,_⟩|⟨g', cap', cur,e1,_,hh,hn,hm,hsz,hxs⟩
 · cases h2
 {
 simp only[qO,qI,Addr.mk.injEq,and_true,true_and]at e1;obtain⟨rfl,rfl⟩:=e1;refine .inr ⟨g,cap,cur.setIfInBounds i u,rfl,qR _,?_,hn,hm,by simpa using hsz,?_⟩
 {
 simp only[World.setCell,Array.getElem?_modify];simp[hh]}
 · rw[<-hxs,Array.toList_setIfInBounds,Nat.mul_one,List.take_set]}
theorem bN{w:World}{base:Nat}{e:TypeId}{size:Nat}{v:Value}{n:Nat}{xs:List Value}(h:w.ownsRow base e size v n xs)(a:Addr)(u:Value)(hn:v.ownBlock≠some a.block):
    (w.setCell a u).ownsRow base e size v n xs:=
  aQ h fun _k hk=>Below.heap_setCell _ _ _ _ (fun e=>hn (e▸hk))
theorem aDM{k:IntKind}{a b:Int}(h:a=b):Ending.returned (.int k a)=.returned (.int k b):=by rw[h]
theorem aC(W:World)(n:Nat)(u:Value)(t:TypeId)(h:W.heap.size=n):(W.alloc (.cells #[u] t)).cell? ⟨n,0,none⟩=some u:=by
 subst h;simp
theorem wJ{P:Program}(w:World)(t ty e:TypeId)(i:TypeInfo)(z:Value)(size bytes:Nat)(ht:P.underlying t=some (.slice e))(hi:P.info? e=some i)(hz:i.zero=some z)
    (hsize:i.size=size) (hby:i.bytes=bytes) (hzs:z.cells.size=size) (hsz:0<size)
    (v:Value) (n:Nat) (xs:List Value) (hown:w.ownsRow 0 e size v n xs)
    (a:Addr) (m c:Nat) (news:List Value) (hl:news.length=m*size) (hnews:∀j u,news[j]? =some u->w.cell? (a.add j)=some u) (h1:∀u∈news,u.oneCell' =true)
    (hm:0<m) (h63:n+m<=maxLen) (hbytes:(n+m)*bytes<=140737488355328):
    ∃g cap w', (Builtin.append_ #[t,t] ty #[v,.slice (some a) m c]).run P w=.ok (.slice (some ⟨g,0,none⟩) (n+m) cap) w' /\ w'.ownsRow 0 e size (.slice (some ⟨g,0,none⟩) (n+m) cap) (n+m) (xs++news) /\
      w.grownBy w' v.ownBlock/\(v.ownBlock=some g∨w.heap.size<=g):=by
 obtain⟨v', w', hr,h2,h3,_⟩:=run_append_own (P:=P) w 0 t ty e i z size bytes ht hi hz hsize hby hzs hsz v n xs hown a m c news hl hnews h1 h63 hbytes (qR _);rcases hown.2 with⟨rfl,rfl⟩|⟨g,cap,cur,rfl,_,hg,hnc,hcm,hcs,htake⟩
 {
 obtain⟨v2,w2,hr2,h22,_,_⟩:=run_append_own (P:=P) w w.heap.size t ty e i z size bytes ht hi hz hsize hby hzs hsz (.slice none 0 0) 0 xs ⟨hown.1,.inl ⟨rfl,rfl⟩⟩ a m c news hl hnews h1 h63 hbytes (qJ _);rw[hr]at hr2;simp only[Result.ok.injEq]at hr2;obtain⟨rfl,rfl⟩:=hr2;rcases h22.2 with⟨_,h0⟩|⟨g,cap,cur,rfl,hgb,_⟩
 · omega
 · exact⟨g,cap,_,hr,h2,h3,.inr hgb⟩}
 {
 by_cases hroom:n+m<=cap
 {
 have hfit:n*i.size+news.length<=cur.size:=by rw[hl,hcs,hsize,<-Nat.add_mul];exact Nat.mul_le_mul_right _ hroom
 have hr2:=run_append_room (P:=P) w t ty e i ht hi g n cap cur hg a m c news (by rw[hsize];exact hl) hnews h1 hroom hfit;rw[hr]at hr2;simp only[Result.ok.injEq]at hr2;obtain⟨rfl,rfl⟩:=hr2;exact⟨g,cap,_,hr,h2,h3,.inl rfl⟩}
 {
 have holds:∀j u,xs[j]? =some u->w.cell? ((⟨g,0,none⟩:Addr).add j)=some u:=hown.cells (g:=g) rfl;obtain⟨v2,w2,hr2,h22,_⟩:=run_append_arg_grows (P:=P) w t ty e i z size bytes ht hi hz hsize hby hzs hsz ⟨g,0,none⟩ n cap xs hown.1 holds a m c news hl hnews (by omega) h63 hbytes;rw[hr]at hr2;simp only[Result.ok.injEq]at hr2;obtain⟨rfl,rfl⟩:=hr2;rcases h22.2 with⟨_,h0⟩|⟨g', cap', cur', rfl,hgb,_⟩
 · omega
 · exact⟨g', cap', _,hr,h2,h3,.inr hgb⟩}}
theorem aBN{P:Program}{w:World}{ops:Array Oper}{rest:List Oper}{o:Oper}{a:Act}{Q:Exit->Act->World->Prop}(hgd:o.guard=none)(s x:Operand)(t:TypeId)
    (ho:o.op=.call { callee:=.builtin .append,args:=#[s,x],argTypes:=#[t,t] })
    (e:TypeId) (i:TypeInfo) (z:Value) (size bytes:Nat) (ht:P.underlying t=some (.slice e)) (hi:P.info? e=some i) (hz:i.zero=some z)
    (hsize:i.size=size) (hby:i.bytes=bytes) (hzs:z.cells.size=size) (hsz:0<size)
    (v:Value) (n:Nat) (xs:List Value) (hs:a.eval s=v) (hown:w.ownsRow 0 e size v n xs)
    (ad:Addr) (m c:Nat) (news:List Value) (hx:a.eval x=.slice (some ad) m c) (hl:news.length=m*size) (hnews:∀j u,news[j]? =some u->w.cell? (ad.add j)=some u) (h1:∀u∈news,u.oneCell' =true)
    (hm:0<m) (h63:n+m<=maxLen) (hbytes:(n+m)*bytes<=140737488355328)
    (h:∀g cap w', w'.ownsRow 0 e size (.slice (some ⟨g,0,none⟩) (n+m) cap) (n+m) (xs++news)->w.grownBy w' v.ownBlock->(v.ownBlock=some g∨w.heap.size<=g) ->
      wpList P ops Q rest (a.put o.dst (.slice (some ⟨g,0,none⟩) (n+m) cap)) w'):wpList P ops Q (o::rest) a w:=by
 refine wpList_plain hgd fun K hK=>?_;obtain⟨g,cap,w', hr,h2,h3,h4⟩:=wJ (P:=P) w t o.type e i z size bytes ht hi hz hsize hby hzs hsz v n xs hown ad m c news hl hnews h1 hm h63 hbytes;unfold Oper.wp execOp;simp only[ho,resolve,invoke,builtin,Sem.run_bind,Sem.run_pure,Result.andThen_ok,List.map_toArray,List.map_cons,List.map_nil,hs,hx,hr];exact hK _ _ (h g cap w' h2 h3 h4)
theorem aB{P:Program}{w:World}{ops:Array Oper}{rest:List Oper}{o:Oper}{a:Act}{Q:Exit->Act->World->Prop}(hgd:o.guard=none)(s x:Operand)(t:TypeId)
    (ho:o.op=.call { callee:=.builtin .append,args:=#[s,x],argTypes:=#[t,t] })
    (e:TypeId) (z:Value) (bytes:Nat) (ht:P.underlying t=some (.slice e)) (hinfo:(P.info? e).map (fun i=>(i.zero,i.size,i.bytes))=some (some z,1,bytes)) (hzs:z.cells.size=1)
    (v:Value) (n:Nat) (xs:List Value) (hs:a.eval s=v) (hown:w.ownsRow 0 e 1 v n xs)
    (b:Nat) (u:Value) (hx:a.eval x=.slice (some ⟨b,0,none⟩) 1 1) (hu:w.cell? ⟨b,0,none⟩=some u) (hu1:u.oneCell' =true)
    (hn:n+1<=4294967296) (hby:bytes<=1024)
    (h:∀g cap w', w'.ownsRow 0 e 1 (.slice (some ⟨g,0,none⟩) (n+1) cap) (n+1) (xs++[u])->w.grownBy w' v.ownBlock->(v.ownBlock=some g∨w.heap.size<=g) ->
      wpList P ops Q rest (a.put o.dst (.slice (some ⟨g,0,none⟩) (n+1) cap)) w'):wpList P ops Q (o::rest) a w:=by
 obtain⟨i0,hi,hz0,hz1,hz2⟩:=info_parts hinfo;refine aBN hgd s x t ho e i0 z 1 bytes ht hi hz0 hz1 hz2 hzs (by decide) v n xs hs hown ⟨b,0,none⟩ 1 1 [u] hx rfl ?_ ?_ (by decide) (by unfold maxLen;omega) ?_ h
 {
 intro j x hj;cases j with
 | zero=>simp at hj;subst hj;exact hu
 | succ j=>simp at hj}
 · simp[hu1]
 {
 have:(n+1)*bytes<=4294967296*1024:=Nat.mul_le_mul hn hby;omega}
def yH(r:Nat):Nat:=if r%2=1 then r/2 ^^^ 3988292384 else r/2
def aFB:Nat->Nat->Nat
  | 0,r=>r
  | n+1,r=>aFB n (yH r)
def aPL(r b:Nat):Nat:=aFB 8 (r ^^^ b)
def uE(r:Nat)(l:List Nat):Nat:=l.foldl aPL r
def crc(l:List Nat):Nat:=uE 4294967295 l ^^^ 4294967295
def Byt(l:List Nat):Prop:=∀b∈l,b<256
theorem yI{a b:Nat}(ha:a<4294967296)(hb:b<4294967296):a ^^^ b<4294967296:=Nat.xor_lt_two_pow (n:=32) ha hb
theorem aDN{r:Nat}(h:r<4294967296):yH r<4294967296:=by
 unfold yH;split
 · exact yI (by omega) (by decide)
 · omega
theorem aDO:∀(n:Nat) {r:Nat},r<4294967296->aFB n r<4294967296
  | 0,_,h=>h
  | n+1,_,h=>aDO n (aDN h)
theorem aLS{r b:Nat}(h:r<4294967296)(hb:b<256):aPL r b<4294967296:=aDO 8 (yI h (by omega))
theorem aDP:∀{l:List Nat} {r:Nat},r<4294967296->Byt l->uE r l<4294967296
  | [],_,h,_=>h
  | b::l,r,h,hb=>aDP (l:=l) (aLS h (hb b List.mem_cons_self)) (fun x hx=>hb x (List.mem_cons_of_mem _ hx))
theorem oY{l:List Nat}(h:Byt l):crc l<4294967296:=yI (aDP (by decide) h) (by decide)
theorem aFC(r:Nat)(l:List Nat)(b:Nat):uE r (l++[b])=aPL (uE r l) b:=by unfold uE;rw[List.foldl_append];rfl
end Go.Proofs.YtjdgpcjbgjnahaaGreatDoor
namespace Go.Proofs.YtjdgpcjbgjnahaaGreatDoor
open Go Go.RowKit
theorem wrap_u32{n:Nat}(h:n<4294967296):IntKind.u32.wrap (n:Int)=n:=by rw[IntKind.wrap_u32];omega
theorem rS{a b:Nat}(ha:a<4294967296)(hb:b<4294967296):bits .xor .u32 (a:Int) (b:Int)=((a ^^^ b:Nat):Int):=by
 have ha' :a%2 ^ IntKind.u32.bits=a:=Nat.mod_eq_of_lt ha;have hb' :b%2 ^ IntKind.u32.bits=b:=Nat.mod_eq_of_lt hb;have k:(BitVec.ofNat IntKind.u32.bits a ^^^ BitVec.ofNat IntKind.u32.bits b).toNat=a ^^^ b:=by rw[BitVec.toNat_xor,BitVec.toNat_ofNat,BitVec.toNat_ofNat,ha', hb']
 simp only[bits,BitVec.ofInt_natCast];rw[k];exact wrap_u32 (yI ha hb)
theorem aHJ{r:Nat}(h:r<4294967296):bits .and .u32 (r:Int) 1=((r%2:Nat):Int):=by
 have k:=bits_mask .u32 32 (by decide) (fun n h0 h1=>by rw[IntKind.wrap_u32];omega) 1 (by decide) (r:Int) (by omega) (by omega);rw[show((2:Int) ^ 1-1)=1 by decide]at k;rw[k];omega
theorem aLT{r:Nat}(h:r<4294967296):bits .xor .u32 ((r/2:Nat):Int) (bits .and .u32 3988292384 (IntKind.u32.wrap (-((r%2:Nat):Int))))=((yH r:Nat):Int):=by
 unfold yH;by_cases h1:r%2=1
 {
 rw[qD h1,h1];have e:bits .and .u32 3988292384 (IntKind.u32.wrap (-((1:Nat):Int)))=((3988292384:Nat):Int):=by decide +kernel
 rw[e];exact rS (by omega) (by decide)}
 {
 have h0:r%2=0:=by omega
 rw[qC h1,h0];have e:bits .and .u32 3988292384 (IntKind.u32.wrap (-((0:Nat):Int)))=((0:Nat):Int):=by decide +kernel
 rw[e,rS (by omega) (by decide),Nat.xor_zero]}
theorem aHK{r:Nat}(h:r<4294967296):bits .xor .u32 ((r:Int)/2) (bits .and .u32 3988292384 (-((r:Int)%2)%4294967296))=((yH r:Nat):Int):=by
 have k:=aLT h;rw[IntKind.wrap_u32,Int.natCast_ediv,Int.natCast_emod]at k;exact k
theorem aLU{r:Nat}(h:r<4294967296):bits .xor .u32 IntKind.u32.max (r:Int)=((r ^^^ 4294967295:Nat):Int):=by
 have k:=rS (a:=4294967295) (b:=r) (by decide) h;rw[Nat.xor_comm]at k;exact k
end Go.Proofs.YtjdgpcjbgjnahaaGreatDoor
namespace Go.Proofs.YtjdgpcjbgjnahaaGreatDoor
open Go.RowKit
def fD(w:World):Prop:=∃a b c d,w.cell? ⟨0,0,none⟩=some (.string a)/\w.cell? ⟨0,1,none⟩=some (.int .i64 1)/\w.cell? ⟨0,2,none⟩=some (.int .i64 9223372036854775807)/\w.cell? ⟨0,3,none⟩=some (.string b)/\w.cell? ⟨0,4,none⟩=some (.int .i64 1)/\w.cell? ⟨0,5,none⟩=some (.int .i64 16384) /\
  w.cell? ⟨0,6,none⟩=some (.string c)/\w.cell? ⟨0,7,none⟩=some (.int .i64 2)/\w.cell? ⟨0,8,none⟩=some (.int .i64 4096)/\w.cell? ⟨0,9,none⟩=some (.string d)/\w.cell? ⟨0,10,none⟩=some (.int .i64 0)/\w.cell? ⟨0,11,none⟩=some (.int .i64 16384)
theorem fD.fr{w w' :World}{S:List Nat}(h:fD w)(hf:Fr S w w')(hs:0∉S):fD w' :=by
 obtain⟨a,b,c,d,h0,h1,h2,h3,h4,h5,h6,h7,h8,h9,h10,h11⟩:=h;exact⟨a,b,c,d,hf.cell h0 hs,hf.cell h1 hs,hf.cell h2 hs,hf.cell h3 hs,hf.cell h4 hs,hf.cell h5 hs,hf.cell h6 hs,hf.cell h7 hs,hf.cell h8 hs,hf.cell h9 hs,hf.cell h10 hs,hf.cell h11 hs⟩
@[go_sem] theorem aSI(a b c d:ByteArray)(w:World):(Instr.index 172 (.agg #[.string a,.int .i64 1,.int .i64 9223372036854775807,.string b,.int .i64 1,.int .i64 16384,.string c,.int .i64 2,.int .i64 4096,.string d,.int .i64 0,.int .i64 16384]) (.int .i64 0)).run Tryz.prog w=.ok (.agg #[.string a,.int .i64 1,.int .i64 9223372036854775807]) w:=by kernel_rfl
@[go_sem] theorem aSJ(a b c d:ByteArray)(w:World):(Instr.index 172 (.agg #[.string a,.int .i64 1,.int .i64 9223372036854775807,.string b,.int .i64 1,.int .i64 16384,.string c,.int .i64 2,.int .i64 4096,.string d,.int .i64 0,.int .i64 16384]) (.int .i64 1)).run Tryz.prog w=.ok (.agg #[.string b,.int .i64 1,.int .i64 16384]) w:=by kernel_rfl
@[go_sem] theorem aSK(a b c d:ByteArray)(w:World):(Instr.index 172 (.agg #[.string a,.int .i64 1,.int .i64 9223372036854775807,.string b,.int .i64 1,.int .i64 16384,.string c,.int .i64 2,.int .i64 4096,.string d,.int .i64 0,.int .i64 16384]) (.int .i64 2)).run Tryz.prog w=.ok (.agg #[.string c,.int .i64 2,.int .i64 4096]) w:=by kernel_rfl
@[go_sem] theorem aSL(a b c d:ByteArray)(w:World):(Instr.index 172 (.agg #[.string a,.int .i64 1,.int .i64 9223372036854775807,.string b,.int .i64 1,.int .i64 16384,.string c,.int .i64 2,.int .i64 4096,.string d,.int .i64 0,.int .i64 16384]) (.int .i64 3)).run Tryz.prog w=.ok (.agg #[.string d,.int .i64 0,.int .i64 16384]) w:=by kernel_rfl
def cM(m E V D:Int):Int:=if m<1 then 0 else if E<1∨16384<E then 1 else if V<2∨4096<V then 2 else if D<0∨16384<D then 3 else -1
theorem wK{w:World}(hL:fD w)(m E V D:Int)(hm:m<=9223372036854775807):
    Calls Tryz.prog 74 #[.agg #[.int .i64 m,.int .i64 E,.int .i64 V,.int .i64 D]] w fun e w' =>e=.returned (.int .i64 (cM m E V D))/\Fr [] w w' :=by
 have hb:=Blk.new w [.int .i64 m,.int .i64 E,.int .i64 V,.int .i64 D] 115;have hF:Fr [] w (w.alloc (.cells #[.int .i64 m,.int .i64 E,.int .i64 V,.int .i64 D] 115)):=(Fr.refl [] w).alloc _;obtain⟨a,b,c,d,h0,h1,h2,h3,h4,h5,h6,h7,h8,h9,h10,h11⟩:=hL.fr hF (by simp);have HB:=qA (zH hb hF);clear hb hF hL;go_enter Tryz.func74,Tryz.ntmps74
 go_wp2_with fail
 clear h0 h1 h2 h3 h4 h5 h6 h7 h8 h9 h10 h11;go_loopw [6] (fun i wr=>∃k:Nat,k<=4/\i=.int .i64 k/\Hid (Fr [] (w.alloc (.cells #[.int .i64 m,.int .i64 E,.int .i64 V,.int .i64 D] 115)) wr/\(0<k->1<=m)/\(1<k->1<=E/\E<=16384)/\(2<k->2<=V/\V<=4096)/\(3<k->0<=D/\D<=16384))) (fun i _=>4-(intOf i).toNat)
 case atStart=>exact⟨0,by omega,rfl,qA ⟨Fr.refl _ _,by omega,by omega,by omega,by omega⟩⟩
 case round=>
  obtain⟨k,hk,rfl,HP⟩:=hrel;by_cases hlt:k<4
  {
  have hb:=HP.out.1.blk HB.out.1 (by simp);have r0:=hb.cell 0;have r1:=hb.cell 1;have r2:=hb.cell 2;have r3:=hb.cell 3;simp only[zI,zJ]at r0 r1 r2 r3;have hk4:k=0∨k=1∨k=2∨k=3:=by omega
  rcases hk4 with rfl|rfl|rfl|rfl
  {
  have hF1:Fr [] wr (wr.alloc (.cells #[.string a,.int .i64 1,.int .i64 9223372036854775807] 171)):=(Fr.refl [] wr).alloc _;have hb1:=Blk.new wr [.string a,.int .i64 1,.int .i64 9223372036854775807] 171;have q1:=hb1.cell 1;have q2:=hb1.cell 2;simp only[zI,zJ]at q1 q2;have v0:=hF1.cell r0 (by simp);have HF1:=qA (HP.out.1.trans' hF1);have HG:=qA HP.out.2;clear hF1 hb1 hb r0 r1 r2 r3 HP;rcases(show m<1∨1<=m/\(9223372036854775807<m∨m<=9223372036854775807) by omega) with hd|⟨hd,he|he⟩
  {
  have d1:decide (m<1)=true:=qG hd;have e:cM m E V D=0:=by have hp:=HG.out;unfold cM;repeat (first|rw[qD (by omega)]|rw[qC (by omega)])
  clear HG;go_wp2_with fail
  go_quiet (fail)
  go_wp2_with fail
  go_ret;exact⟨by rw[e];rfl,HB.out.2.trans' (HF1.out.drewN _)⟩}
  · omega
  {
  have d1:decide (m<1)=false:=qF (by omega);have d2:decide (m>9223372036854775807)=false:=qF (by omega);go_wp2_with fail
  go_quiet (fail)
  go_wp2_with fail
  have HN:=qA (HF1.out.drewN nq);have hp:=HG.out;go_roundw
  case rel=>exact⟨1,by omega,rfl,qA ⟨HN.out,by omega,by omega,by omega,by omega⟩⟩
  case measure=>simp[intOf]}}
  {
  have hF1:Fr [] wr (wr.alloc (.cells #[.string b,.int .i64 1,.int .i64 16384] 171)):=(Fr.refl [] wr).alloc _;have hb1:=Blk.new wr [.string b,.int .i64 1,.int .i64 16384] 171;have q1:=hb1.cell 1;have q2:=hb1.cell 2;simp only[zI,zJ]at q1 q2;have v0:=hF1.cell r1 (by simp);have HF1:=qA (HP.out.1.trans' hF1);have HG:=qA HP.out.2;clear hF1 hb1 hb r0 r1 r2 r3 HP;rcases(show E<1∨1<=E/\(16384<E∨E<=16384) by omega) with hd|⟨hd,he|he⟩
  {
  have d1:decide (E<1)=true:=qG hd;have e:cM m E V D=1:=by have hp:=HG.out;unfold cM;repeat (first|rw[qD (by omega)]|rw[qC (by omega)])
  clear HG;go_wp2_with fail
  go_quiet (fail)
  go_wp2_with fail
  go_ret;exact⟨by rw[e];rfl,HB.out.2.trans' (HF1.out.drewN _)⟩}
  {
  have d1:decide (E<1)=false:=qF (by omega);have d2:decide (E>16384)=true:=qG he;have e:cM m E V D=1:=by have hp:=HG.out;unfold cM;repeat (first|rw[qD (by omega)]|rw[qC (by omega)])
  clear HG;go_wp2_with fail
  go_quiet (fail)
  go_wp2_with fail
  go_ret;exact⟨by rw[e];rfl,HB.out.2.trans' (HF1.out.drewN _)⟩}
  {
  have d1:decide (E<1)=false:=qF (by omega);have d2:decide (E>16384)=false:=qF (by omega);go_wp2_with fail
  go_quiet (fail)
  go_wp2_with fail
  have HN:=qA (HF1.out.drewN nq);have hp:=HG.out;go_roundw
  case rel=>exact⟨2,by omega,rfl,qA ⟨HN.out,by omega,by omega,by omega,by omega⟩⟩
  case measure=>simp[intOf]}}
  {
  have hF1:Fr [] wr (wr.alloc (.cells #[.string c,.int .i64 2,.int .i64 4096] 171)):=(Fr.refl [] wr).alloc _;have hb1:=Blk.new wr [.string c,.int .i64 2,.int .i64 4096] 171;have q1:=hb1.cell 1;have q2:=hb1.cell 2;simp only[zI,zJ]at q1 q2;have v0:=hF1.cell r2 (by simp);have HF1:=qA (HP.out.1.trans' hF1);have HG:=qA HP.out.2;clear hF1 hb1 hb r0 r1 r2 r3 HP;rcases(show V<2∨2<=V/\(4096<V∨V<=4096) by omega) with hd|⟨hd,he|he⟩
  {
  have d1:decide (V<2)=true:=qG hd;have e:cM m E V D=2:=by have hp:=HG.out;unfold cM;repeat (first|rw[qD (by omega)]|rw[qC (by omega)])
  clear HG;go_wp2_with fail
  go_quiet (fail)
  go_wp2_with fail
  go_ret;exact⟨by rw[e];rfl,HB.out.2.trans' (HF1.out.drewN _)⟩}
  {
  have d1:decide (V<2)=false:=qF (by omega);have d2:decide (V>4096)=true:=qG he;have e:cM m E V D=2:=by have hp:=HG.out;unfold cM;repeat (first|rw[qD (by omega)]|rw[qC (by omega)])
  clear HG;go_wp2_with fail
  go_quiet (fail)
  go_wp2_with fail
  go_ret;exact⟨by rw[e];rfl,HB.out.2.trans' (HF1.out.drewN _)⟩}
  {
  have d1:decide (V<2)=false:=qF (by omega);have d2:decide (V>4096)=false:=qF (by omega);go_wp2_with fail
  go_quiet (fail)
  go_wp2_with fail
  have HN:=qA (HF1.out.drewN nq);have hp:=HG.out;go_roundw
  case rel=>exact⟨3,by omega,rfl,qA ⟨HN.out,by omega,by omega,by omega,by omega⟩⟩
  case measure=>simp[intOf]}}
  {
  have hF1:Fr [] wr (wr.alloc (.cells #[.string d,.int .i64 0,.int .i64 16384] 171)):=(Fr.refl [] wr).alloc _;have hb1:=Blk.new wr [.string d,.int .i64 0,.int .i64 16384] 171;have q1:=hb1.cell 1;have q2:=hb1.cell 2;simp only[zI,zJ]at q1 q2;have v0:=hF1.cell r3 (by simp);have HF1:=qA (HP.out.1.trans' hF1);have HG:=qA HP.out.2;clear hF1 hb1 hb r0 r1 r2 r3 HP;rcases(show D<0∨0<=D/\(16384<D∨D<=16384) by omega) with hd|⟨hd,he|he⟩
  {
  have d1:decide (D<0)=true:=qG hd;have e:cM m E V D=3:=by have hp:=HG.out;unfold cM;repeat (first|rw[qD (by omega)]|rw[qC (by omega)])
  clear HG;go_wp2_with fail
  go_quiet (fail)
  go_wp2_with fail
  go_ret;exact⟨by rw[e];rfl,HB.out.2.trans' (HF1.out.drewN _)⟩}
  {
  have d1:decide (D<0)=false:=qF (by omega);have d2:decide (D>16384)=true:=qG he;have e:cM m E V D=3:=by have hp:=HG.out;unfold cM;repeat (first|rw[qD (by omega)]|rw[qC (by omega)])
  clear HG;go_wp2_with fail
  go_quiet (fail)
  go_wp2_with fail
  go_ret;exact⟨by rw[e];rfl,HB.out.2.trans' (HF1.out.drewN _)⟩}
  {
  have d1:decide (D<0)=false:=qF (by omega);have d2:decide (D>16384)=false:=qF (by omega);go_wp2_with fail
  go_quiet (fail)
  go_wp2_with fail
  have HN:=qA (HF1.out.drewN nq);have hp:=HG.out;go_roundw
  case rel=>exact⟨4,by omega,rfl,qA ⟨HN.out,by omega,by omega,by omega,by omega⟩⟩
  case measure=>simp[intOf]}}}
  {
  obtain rfl:k=4:=by omega
  have hp:=HP.out;have e:cM m E V D=-1:=by {
  unfold cM;rw[qC (by omega),qC (by omega),qC (by omega),qC (by omega)]};have HF:=qA (HB.out.2.trans' hp.1);clear hp HP HB;go_wp2
  go_ret;exact⟨by rw[e];rfl,HF.out⟩}
end Go.Proofs.YtjdgpcjbgjnahaaGreatDoor
namespace Go.Proofs.YtjdgpcjbgjnahaaGreatDoor
open Go.ChangeShapes Go.WideShapes Go.ChangeAt Go.RowKit
def aHL : List (String × DataW Unit) := [("seepage/config.rows", Rows.laid_seepage_config_rows)]
theorem aLV : Tryz.prog.globalNamed "seepage/config.rows" = some 0 := by kernel_rfl
theorem aLW:(Tryz.prog.globals[0]?).map (·.type)=some 172:=by kernel_rfl
set_option maxRecDepth 100000 in
theorem door43(os:Os)(args:Array Value):laidMetH Tryz.prog aHL ((World.doorLaid Tryz.prog 18 os).forCall (fun _ _=>0) ⟨#[],args,[]⟩).memory:=
  laidMetH_of_parts3 (fuel:=8) (laidMet_of_run' 8 (by kernel_rfl) (by kernel_rfl)) (by kernel_rfl) (by kernel_rfl)
theorem aHM:Tryz.prog.cellsOf 171=3:=by kernel_rfl
theorem aPM:Tryz.prog.cellsOf 9=1:=by kernel_rfl
theorem aPN:Tryz.prog.cellsOf 2=1:=by kernel_rfl
theorem lV{W:World}{base:Nat}{sp:Nat->Bool}{held:Bool}{m:Nat}{cs:List Value}{x:DataW Unit×List MemPlace}{enc:TypeId×Value->Unit}{s:List UInt8}{lo hi:Int}
    (h:DataW.trod enc Tryz.prog W base sp held m 171 cs=some x) (hx:x.1=.agg [.lit (.string s),.lit (.int .i64 lo),.lit (.int .i64 hi)]):∃a,cs=[.string a,.int .i64 lo,.int .i64 hi]:=by
 obtain⟨y0,y1,y2,n,rfl,hl,h0,h1,h2⟩:=Deep.trod_struct3 Tryz.underlying171 h;simp only[DataW.agg.injEq,List.cons.injEq,and_true]at hx;obtain⟨e0,e1,e2⟩:=hx;rw[aHM]at hl;match cs,hl with
 | [c0,c1,c2],_=>{
 rw[aPM]at h0;rw[aPN]at h1 h2;obtain⟨a,k0,_,_⟩:=DataW.trod_string Tryz.underlying9 h0;obtain⟨p,k1,q1,_⟩:=DataW.trod_int Tryz.underlying2 h1;obtain⟨q,k2,q2,_⟩:=DataW.trod_int Tryz.underlying2 h2;rw[q1]at e1;rw[q2]at e2;simp at k0 k1 k2 e1 e2;exact⟨a,by rw[k0,k1,k2,e1,e2]⟩}
theorem aSM{W:World}(h:laidMetH Tryz.prog aHL W):fD W:=by
 rw[MakeChecks.laidMetH_plain _ _ _ (by kernel_rfl)]at h;obtain⟨ps,⟨g0,t0,cs0,f0,p0,q0,hg0,ht0,hv0,hd0,_,_⟩,_,_⟩:=h;obtain rfl:=Option.some.inj (aLV.symm.trans hg0);obtain rfl:=Option.some.inj (aLW.symm.trans ht0);obtain⟨xs,m1,rfl,hx1,hlen,hn,hel⟩:=DataW.trod_array Tryz.underlying172 hd0;rw[aHM]at hel;have c12:Tryz.prog.cellsOf 172=12:=by kernel_rfl
 rw[c12]at hlen;have k0:=hel 0 (by decide);have k1:=hel 1 (by decide);have k2:=hel 2 (by decide);have k3:=hel 3 (by decide);have hc:=fun j=>World.var?_cell hg0 hv0 j;obtain⟨cl⟩:=cs0;match xs,hn,hx1,k0,k1,k2,k3 with
 | [x0,x1,x2,x3],_,hx1,k0,k1,k2,k3=>{
 simp only[zD]at hx1;have hx:=hx1.1;unfold Rows.laid_seepage_config_rows at hx;simp only[DataW.agg.injEq,List.map_cons,List.map_nil,List.cons.injEq,and_true]at hx;obtain⟨e0,e1,e2,e3⟩:=hx;obtain⟨a,r0⟩:=lV k0 e0.symm;obtain⟨b,r1⟩:=lV k1 e1.symm;obtain⟨c,r2⟩:=lV k2 e2.symm;obtain⟨d,r3⟩:=lV k3 e3.symm;match cl,hlen with
 | [z0,z1,z2,z3,z4,z5,z6,z7,z8,z9,z10,z11],_=>{
 simp at r0 r1 r2 r3;have q:=fun j=>hc j;refine⟨a,b,c,d,?_⟩;obtain⟨rfl,rfl,rfl⟩:=r0;obtain⟨rfl,rfl,rfl⟩:=r1;obtain⟨rfl,rfl,rfl⟩:=r2;obtain⟨rfl,rfl,rfl⟩:=r3;exact⟨by simpa using q 0,by simpa using q 1,by simpa using q 2,by simpa using q 3,by simpa using q 4,by simpa using q 5,by simpa using q 6,by simpa using q 7,by simpa using q 8,by simpa using q 9,by simpa using q 10,by simpa using q 11⟩}}
end Go.Proofs.YtjdgpcjbgjnahaaGreatDoor
namespace Go.Proofs.YtjdgpcjbgjnahaaGreatDoor
open Go.RowKit
def beN:Nat->Nat->List Nat
  | 0,_=>[]
  | n+1,x=>x/256 ^ n%256::beN n x
def aI(l:List Nat):Nat:=l.foldl (fun x y=>x*256+y) 0
theorem aH:∀(n x:Nat),(beN n x).length=n
  | 0,_=>rfl
  | n+1,x=>by show(beN n x).length+1=n+1;rw[aH]
theorem cP:∀(n x:Nat),Byt (beN n x)
  | 0,_,b,h=>by cases h
  | n+1,x,b,h=>by
    rcases qB.1 h with rfl|h
    · exact Nat.mod_lt _ (by decide)
    · exact cP n x b h
theorem iM:∀(n x:Nat) {i:Nat} (hi:i<(beN n x).length),(beN n x)[i]=x/256 ^ (n-1-i)%256
  | 0,_,i,hi=>absurd hi (Nat.not_lt_zero _)
  | n+1,x,0,_=>rfl
  | n+1,x,i+1,hi=>by
    have hi' :i<(beN n x).length:=Nat.lt_of_succ_lt_succ hi;show(beN n x)[i]=_
    rw[iM n x hi', show n+1-1-(i+1)=n-1-i by omega]
theorem rZ(l:List Nat)(b:Nat):aI (l++[b])=aI l*256+b:=by unfold aI;rw[List.foldl_append];rfl
theorem sA:∀(l:List Nat) (x:Nat),l.foldl (fun x y=>x*256+y) x=x*256 ^ l.length+aI l
  | [],x=>by show x=x*1+0;omega
  | b::l,x=>by
    show l.foldl (fun x y=>x*256+y) (x*256+b)=x*256 ^ (l.length+1)+l.foldl (fun x y=>x*256+y) (0*256+b)
    rw[sA l,sA l (0*256+b),Nat.pow_succ,Nat.add_mul,Nat.zero_mul,Nat.zero_add,Nat.mul_assoc,Nat.mul_comm 256,Nat.add_assoc]
theorem sB(b:Nat)(l:List Nat):aI (b::l)=b*256 ^ l.length+aI l:=by
 show l.foldl (fun x y=>x*256+y) (0*256+b)=_
 rw[sA,Nat.zero_mul,Nat.zero_add]
theorem gB:∀{l:List Nat},Byt l->aI l<256 ^ l.length
  | [],_=>by decide
  | b::l,h=>by
    rw[sB,qY,Nat.pow_succ];have h1:=h b List.mem_cons_self;have h2:=gB (l:=l) fun x hx=>h x (List.mem_cons_of_mem _ hx);have h3:b*256 ^ l.length<=255*256 ^ l.length:=Nat.mul_le_mul_right _ (by omega);omega
theorem wL:∀(n x:Nat),aI (beN n x)=x%256 ^ n
  | 0,x=>by show 0=x%1;omega
  | n+1,x=>by
    show aI (x/256 ^ n%256::beN n x)=_
    rw[sB,aH,wL n x,Nat.pow_succ,Nat.mod_mul,Nat.mul_comm,Nat.add_comm]
theorem aDQ:∀(n x y:Nat),x%256 ^ n=y%256 ^ n->beN n x=beN n y
  | 0,_,_,_=>rfl
  | n+1,x,y,h=>by
    have h1:x%256 ^ n=y%256 ^ n:=by
      have:=congrArg (· % 256 ^ n) h;simpa only[Nat.pow_succ,Nat.mod_mul_right_mod] using this
    have h2:x/256 ^ n%256=y/256 ^ n%256:=by
      have k:=congrArg (· / 256 ^ n) h;simp only[Nat.pow_succ,Nat.mod_mul_right_div_self]at k;exact k
    show _::_=_::_
    rw[h2,aDQ n x y h1]
theorem aHN:∀{l:List Nat},Byt l->beN l.length (aI l)=l
  | [],_=>rfl
  | b::l,h=>by
    have h1:=h b List.mem_cons_self;have hl:Byt l:=fun x hx=>h x (List.mem_cons_of_mem _ hx);have h2:=gB hl;have h3:0<256 ^ l.length:=by omega
    show aI (b::l)/256 ^ l.length%256::beN l.length (aI (b::l))=b::l
    rw[sB];have e1:(b*256 ^ l.length+aI l)/256 ^ l.length=b:=by
      rw[Nat.mul_comm,Nat.mul_add_div h3,Nat.div_eq_of_lt h2,Nat.add_zero]
    have e2:beN l.length (b*256 ^ l.length+aI l)=beN l.length (aI l):=aDQ _ _ _ (by rw[Nat.mul_comm,Nat.mul_add_mod]);rw[e1,Nat.mod_eq_of_lt h1,e2,aHN hl]
theorem Byt.app{l m:List Nat}(h:Byt l)(k:Byt m):Byt (l++m):=fun b hb=>(qE.1 hb).elim (h b) (k b)
theorem Byt.take{l:List Nat}(h:Byt l)(n:Nat):Byt (l.take n):=fun b hb=>h b (List.mem_of_mem_take hb)
theorem Byt.drop{l:List Nat}(h:Byt l)(n:Nat):Byt (l.drop n):=fun b hb=>h b (List.mem_of_mem_drop hb)
def bG(l:List Nat):List Value:=l.map fun b:Nat=>.int .u8 (b:Int)
theorem iS(l:List Nat):(bG l).length=l.length*1:=by simp[bG]
theorem iT(l m:List Nat):bG (l++m)=bG l++bG m:=List.map_append
theorem aDR{l:List Nat}{i:Nat}(hi:i<l.length):(bG l)[i]? =some (.int .u8 (l[i]'hi:Nat)):=by
 unfold bG;rw[List.getElem?_map,qK hi];rfl
theorem yJ(l:List Nat):∀u∈bG l,u.oneCell' =true:=fun u hu=>by
 obtain⟨b,_,rfl⟩:=qV.1 hu;rfl
def RdB(w:World)(a:Option Addr)(l:List Nat):Prop:=
  ∀i (hi:i<l.length),∃b off,a=some ⟨b,off,none⟩/\b<w.heap.size/\w.cell? ⟨b,off+i,none⟩=some (.int .u8 (l[i]'hi:Nat))
section
variable {w w' :World} {v:Value} {l:List Nat} {a:Option Addr} {b off:Nat}
theorem RdB.fr(h:RdB w a l)(hf:Fr [] w w'):RdB w' a l:=fun i hi=>by
 obtain⟨b,off,e,hb,h0⟩:=h i hi;exact⟨b,off,e,Nat.lt_of_lt_of_le hb hf.size,hf.cell h0 (by simp)⟩
theorem RdB.frS{S:List Nat}(h:RdB w a l)(hf:Fr S w w')(hs:∀b off,a=some ⟨b,off,none⟩->b∉S):RdB w' a l:=fun i hi=>by
 obtain⟨b,off,e,hb,h0⟩:=h i hi;exact⟨b,off,e,Nat.lt_of_lt_of_le hb hf.size,hf.cell h0 (hs b off e)⟩
theorem RdB.take(h:RdB w a l)(n:Nat):RdB w a (l.take n):=fun i hi=>by
 have hi' :i<l.length:=by rw[List.length_take]at hi;omega
 obtain⟨b,off,e,hb,h0⟩:=h i hi';exact⟨b,off,e,hb,by rw[List.getElem_take];exact h0⟩
theorem RdB.drop(h:RdB w (some ⟨b,off,none⟩) l)(n:Nat):RdB w (some ⟨b,off+n,none⟩) (l.drop n):=fun i hi=>by
 rw[List.length_drop]at hi;obtain⟨b', off', e,hb,h0⟩:=h (n+i) (by omega);simp only[qI,Addr.mk.injEq,and_true]at e;obtain⟨rfl,rfl⟩:=e;exact⟨b,off+n,rfl,hb,by rw[List.getElem_drop,Nat.add_assoc];exact h0⟩
theorem RdB.cells{ad:Addr}(h:RdB w (some ad) l):∀j u,(bG l)[j]? =some u->w.cell? (ad.add j)=some u:=by
 intro j u hj;have hlt:j<(bG l).length:=(qS.1 hj).1;rw[iS,Nat.mul_one]at hlt;obtain⟨b,off,e,_,h0⟩:=h j hlt;obtain rfl:=Option.some.inj e;rw[Addr.add_lit,h0,<-aDR hlt,hj]
end
end Go.Proofs.YtjdgpcjbgjnahaaGreatDoor
namespace Go.Proofs.YtjdgpcjbgjnahaaGreatDoor
open Go.ChangeShapes Go.WideShapes Go.ChangeAt Go.RowKit Go.Deep
inductive FK where
  | i (k:IntKind)
  | b
def FK.ok:FK->Value->Prop
  | .i k,v=>∃n:Int,v=.int k n/\(Lit.int k n).wf=true
  | .b,v=>∃x:Bool,v=.bool x
def rJ(P:Program)(t:TypeId)(ks:List FK):Prop:=
  P.cellsOf t=ks.length/\∀{H:Type} {enc:TypeId×Value->H} {w:World} {base:Nat} {spare:Nat->Bool} {held:Bool} {fuel:Nat} {cs:List Value} {x:DataW H×List MemPlace},
    DataW.trod enc P w base spare held fuel t cs=some x->∀(j:Nat) (k:FK),ks[j]? =some k->∃v,cs[j]? =some v/\k.ok v
theorem rJ.int{P:Program}{t:TypeId}{k:IntKind}(ht:P.underlying t=some (.int k))(hc:P.cellsOf t=1):rJ P t [.i k]:=by
 refine⟨hc,fun h j k' hj=>?_⟩;obtain⟨n,rfl,_,hw⟩:=DataW.trod_int ht h;cases j with
 | zero=>simp at hj;subst hj;exact⟨_,rfl,n,rfl,hw⟩
 | succ j=>simp at hj
theorem rJ.struct{P:Program}{t:TypeId}{fs:Array Field}{ks:List FK}(ht:P.underlying t=some (.struct fs))(hc:P.cellsOf t=ks.length)
    (hcov:∀(j:Nat) (k:FK),ks[j]? =some k->∃(i:Nat) (f:Field) (fk:List FK),fs[i]? =some f/\rJ P f.type fk/\f.offset<=j/\fk[j-f.offset]? =some k):rJ P t ks:=by
 refine⟨hc,fun h j k hj=>?_⟩;obtain⟨xs,n,_,_,hl,hlen,hf⟩:=DataW.trod_struct ht h;obtain⟨i,f,fk,hi,hfl,hoff,hk⟩:=hcov j k hj;have h1:=hf i f hi;have hil:i<xs.length:=by rw[hlen];exact(qL.1 hi).1
 rw[qK hil]at h1;obtain⟨v,hv,hok⟩:=hfl.2 h1 (j-f.offset) k hk;refine⟨v,?_,hok⟩;rw[List.getElem?_take]at hv;split at hv
 {
 rw[List.getElem?_drop]at hv;rw[<-hv];congr 1;omega}
 · cases hv
theorem cell_no_spot' {W:World}{y:Addr}{v:Value}(h:W.cell? y=some v):y.spot=none:=by
 unfold World.cell? at h;split at h
 {
 by_cases hs:y.spot.isSome=true
 · rw[qD hs]at h;cases h
 {
 cases hy:y.spot with
 | none=>rfl
 | some s=>rw[hy]at hs;exact absurd rfl hs}}
 · cases h
def aSN(w:World)(a:Option Addr)(len:Nat)(ks:List FK)(z:Nat->Nat->Value):Prop:=
  len<=9223372036854775807/\∀i,i<len->∃b off,a=some ⟨b,off,none⟩/\b<w.heap.size/\∀(j:Nat) (k:FK),ks[j]? =some k->w.cell? ⟨b,off+i*ks.length+j,none⟩=some (z i j)/\k.ok (z i j)
theorem aFD{H:Type}{enc:TypeId×Value->H}{W:World}{P:Program}{t e:TypeId}{ks:List FK}(ht:P.underlying t=some (.slice e))(he:rJ P e ks)(hks:0<ks.length){a:Option Addr}{len cap:Nat}{d:DataW H}{p:List MemPlace}
    (h:DataW.Trod enc P W 0 (fun _=>true) true t (.slice a len cap) d p):∃z,aSN W a len ks z:=by
 obtain⟨fuel,hf⟩:=h;rcases open_slice ht hf with⟨hcs,_⟩|⟨x,l,c,m,n,D,Pl,hcs,_,hl,hm,hmm,_,hel⟩
 {
 simp[Value.cells]at hcs;obtain⟨rfl,rfl,rfl⟩:=hcs;exact⟨fun _ _=>undef,by omega,fun i hi=>absurd hi (Nat.not_lt_zero _)⟩}
 {
 simp[Value.cells]at hcs;obtain⟨rfl,rfl,rfl⟩:=hcs;have hml:len<=m:=by rw[hmm];simpa using hl
 have key:∀i,∃u:Nat->Value,i<len->∀(j:Nat) (k:FK),ks[j]? =some k->W.cell? ((x.add (i*ks.length)).add j)=some (u j)/\k.ok (u j):=by {
 intro i;by_cases hi:i<len
 {
 obtain⟨cs', hc,ht⟩:=hel i (by omega);rw[he.1]at hc;obtain⟨_,_,hat⟩:=World.cells?_some hc;refine⟨fun j=>cs'.getD j undef,fun _ j k hj=>?_⟩;obtain⟨v,hv,hok⟩:=he.2 ht j k hj;have hjl:j<ks.length:=(qS.1 hj).1;have e1:cs'.getD j undef=v:=by rw[List.getD_eq_getElem?_getD,hv];rfl
 show W.cell? ((x.add (i*ks.length)).add j)=some (cs'.getD j undef)/\k.ok (cs'.getD j undef)
 rw[e1];exact⟨(hat j hjl).trans hv,hok⟩}
 · exact⟨fun _=>undef,fun h=>absurd h hi⟩};obtain⟨F,hF⟩:=Classical.axiomOfChoice key;refine⟨F,by unfold maxLen at hm;omega,fun i hi=>?_⟩;have hne:∃k,ks[0]? =some k:=⟨_,qK hks⟩;obtain⟨k0,hk0⟩:=hne;have hsp:=cell_no_spot' (hF 0 (by omega) 0 k0 hk0).1;have z0:(x.add (0*ks.length)).add 0=x:=by simp[Addr.add]
 rw[z0]at hsp;obtain⟨b,off,sp⟩:=x;simp only at hsp;subst hsp;have h1:=hF i hi;simp only[Addr.add_lit]at h1;exact⟨b,off,rfl,iE (h1 0 k0 hk0).1,h1⟩}
end Go.Proofs.YtjdgpcjbgjnahaaGreatDoor
namespace Go.Proofs.YtjdgpcjbgjnahaaGreatDoor
open Go.RowKit
@[go_sem] theorem aSO(a:Addr)(w:World):(binOp .eql 141 (.pointer (some a)) (.pointer (some a))).run Tryz.prog w=.ok (.bool true) w:=by
 obtain⟨j,hj⟩:=qU.1 (show(Tryz.prog.info? 214).isSome=true by kernel_rfl);exact run_eql_ptr_same w a Tryz.underlying141 hj
theorem cD(pa:Nat)(w:World)(hc:w.cell? ⟨pa,0,none⟩=some (.pointer (some ⟨pa,0,none⟩))):
    Calls Tryz.prog 144 #[.pointer (some ⟨pa,0,none⟩)] w fun e w' =>e=.returned (.bool true)/\w=w' :=by
 go_enter Tryz.func144,Tryz.ntmps144
 go_wp2
 go_ret;exact⟨rfl,rfl⟩
theorem gU(pa g n cap b i:Nat)(w:World)(h1:w.cell? ⟨pa,1,none⟩=some (.slice (some ⟨g,0,none⟩) n cap))(hn:i/64<n)(hi:i<65536)
    (h2:w.cell? ⟨g,i/64,none⟩=some (.pointer (some ⟨b,0,none⟩))):
    Calls Tryz.prog 184 #[.pointer (some ⟨pa,0,none⟩),.int .i64 i] w fun e w' =>e=.returned (.pointer (some ⟨b,i%64*3,none⟩))/\w=w' :=by
 go_enter Tryz.func184,Tryz.ntmps184
 go_wp2
 go_ret;exact⟨rfl,rfl⟩
theorem aBO(pa g n cap b i r:Nat)(w:World)(h1:w.cell? ⟨pa,1,none⟩=some (.slice (some ⟨g,0,none⟩) n cap))(hn:i/64<n)(hi:i<65536)
    (h2:w.cell? ⟨g,i/64,none⟩=some (.pointer (some ⟨b,0,none⟩))) (hr:i%64*3=r):
    Calls Tryz.prog 184 #[.pointer (some ⟨pa,0,none⟩),.int .i64 i] w fun e w' =>e=.returned (.pointer (some ⟨b,r,none⟩))/\w=w' :=by
 subst hr;exact gU pa g n cap b i w h1 hn hi h2
theorem mT(pa g n cap b i begun:Nat)(st:Int)(w:World)(h1:w.cell? ⟨pa,1,none⟩=some (.slice (some ⟨g,0,none⟩) n cap))(hn:i/64<n)(hi:i<65536)
    (h3:w.cell? ⟨pa,3,none⟩=some (.int .i64 begun)) (hb:i<begun)
    (h2:w.cell? ⟨g,i/64,none⟩=some (.pointer (some ⟨b,0,none⟩))) (hs:w.cell? ⟨b,i%64*3,none⟩=some (.int .i64 st)):
    Calls Tryz.prog 145 #[.pointer (some ⟨pa,0,none⟩),.int .i64 i] w fun e w' =>e=.returned (.int .i64 st)/\w=w' :=by
 go_enter Tryz.func145,Tryz.ntmps145
 go_wp2_with (go_at_call 184;refine(gU pa g n cap b i _ h1 hn hi h2).mono ?_;rintro e w' ⟨rfl,rfl⟩)
 go_ret;exact⟨rfl,rfl⟩
theorem rK(pa k:Nat)(w:World)(h0:w.cell? ⟨pa,0,none⟩=some (.pointer (some ⟨pa,0,none⟩)))(h5:w.cell? ⟨pa,5,none⟩=some (.int .i64 k)):
    Calls Tryz.prog 207 #[.pointer (some ⟨pa,0,none⟩)] w fun e w' =>e=.returned (.tuple #[.int .i64 k,.bool true])/\w=w' :=by
 have hk:((k:Int) != -1)=true:=by rw[bne_iff_ne];omega
 go_enter Tryz.func207,Tryz.ntmps207
 go_wp2_with (go_at_call 144;refine(cD pa _ h0).mono ?_;rintro e w' ⟨rfl,rfl⟩)
 go_ret2;exact⟨rfl,rfl⟩
theorem iU(pa begun slots:Nat)(w:World)(h0:w.cell? ⟨pa,0,none⟩=some (.pointer (some ⟨pa,0,none⟩)))(h5:w.cell? ⟨pa,5,none⟩=some (.int .i64 (-1)))
    (h3:w.cell? ⟨pa,3,none⟩=some (.int .i64 begun)) (h2:w.cell? ⟨pa,2,none⟩=some (.int .i64 slots)) (hlt:begun<slots):
    Calls Tryz.prog 207 #[.pointer (some ⟨pa,0,none⟩)] w fun e w' =>e=.returned (.tuple #[.int .i64 begun,.bool true])/\∃n,w' =w.drewN n:=by
 go_enter Tryz.func207,Tryz.ntmps207
 go_wp2_with (go_at_call 144;refine(cD pa _ h0).mono ?_;rintro e w' ⟨rfl,rfl⟩)
 go_quiet (fail)
 go_wp2
 go_ret2;exact⟨rfl,_,rfl⟩
theorem rL(pa begun slots:Nat)(w:World)(h0:w.cell? ⟨pa,0,none⟩=some (.pointer (some ⟨pa,0,none⟩)))(h5:w.cell? ⟨pa,5,none⟩=some (.int .i64 (-1)))
    (h3:w.cell? ⟨pa,3,none⟩=some (.int .i64 begun)) (h2:w.cell? ⟨pa,2,none⟩=some (.int .i64 slots)) (hlt:slots<=begun):
    Calls Tryz.prog 207 #[.pointer (some ⟨pa,0,none⟩)] w fun e w' =>e=.returned (.tuple #[.int .i64 0,.bool false])/\∃n,w' =w.drewN n:=by
 go_enter Tryz.func207,Tryz.ntmps207
 go_wp2_with (go_at_call 144;refine(cD pa _ h0).mono ?_;rintro e w' ⟨rfl,rfl⟩)
 go_quiet (fail)
 go_wp2
 go_ret2;exact⟨rfl,_,rfl⟩
theorem oZ(pa begun slots:Nat)(w:World)(h0:w.cell? ⟨pa,0,none⟩=some (.pointer (some ⟨pa,0,none⟩)))(h5:w.cell? ⟨pa,5,none⟩=some (.int .i64 (-1)))
    (h3:w.cell? ⟨pa,3,none⟩=some (.int .i64 begun)) (h2:w.cell? ⟨pa,2,none⟩=some (.int .i64 slots)) (hlt:slots<=begun):
    Calls Tryz.prog 172 #[.pointer (some ⟨pa,0,none⟩)] w fun e w' =>e=.returned (.tuple #[.int .i64 0,.int .i64 4])/\∃n,w' =w.drewN n:=by
 go_enter Tryz.func172,Tryz.ntmps172
 go_wp2_with (first|(go_at_call 144;refine(cD pa _ h0).mono ?_;rintro e w' ⟨rfl,rfl⟩)|(go_at_call 207;refine(rL pa begun slots _ h0 h5 h3 h2 hlt).mono ?_;rintro e w' ⟨rfl,nq,rfl⟩))
 go_ret2;exact⟨rfl,_,rfl⟩
theorem pA(pa g n cap b k used:Nat)(aft tm st:Int)(w:World)(hne:b≠pa)(h0:w.cell? ⟨pa,0,none⟩=some (.pointer (some ⟨pa,0,none⟩)))(h5:w.cell? ⟨pa,5,none⟩=some (.int .i64 k))
    (h1:w.cell? ⟨pa,1,none⟩=some (.slice (some ⟨g,0,none⟩) n cap)) (hn:k/64<n) (hi:k<65536)
    (hga:g≠pa) (hgb:g≠b) (hf:∀j,w.frozen? ⟨pa,j,none⟩=false) (hfb:∀j,w.frozen? ⟨b,j,none⟩=false)
    (h2:w.cell? ⟨g,k/64,none⟩=some (.pointer (some ⟨b,0,none⟩))) (h4:w.cell? ⟨pa,4,none⟩=some (.int .i64 used)) (hu:used<65536)
    (hs0:w.cell? ⟨b,k%64*3,none⟩=some (.int .i64 st)) (hs1:w.cell? ⟨b,k%64*3+1,none⟩=some (.int .i64 aft)) (hs2:w.cell? ⟨b,k%64*3+2,none⟩=some (.int .u64 tm)):
    Calls Tryz.prog 172 #[.pointer (some ⟨pa,0,none⟩)] w fun e w' =>e=.returned (.tuple #[.int .i64 k,.int .i64 0])/\∃tm', Eqv w' (((((w.setCell ⟨pa,5,none⟩ (.int .i64 aft)).setCell ⟨b,k%64*3,none⟩ (.int .i64 1)).setCell ⟨b,k%64*3+1,none⟩ (.int .i64 (-1))).setCell ⟨b,k%64*3+2,none⟩ (.int .u64 tm')).setCell ⟨pa,4,none⟩ (.int .i64 (used+1))):=by
 go_enter Tryz.func172,Tryz.ntmps172
 go_wp2_with (first|(go_at_call 144;refine(cD pa _ h0).mono ?_;rintro e w' ⟨rfl,rfl⟩)|(go_at_call 207;refine(rK pa k _ h0 h5).mono ?_;rintro e w' ⟨rfl,rfl⟩)|(go_at_call 184;refine(gU pa g n cap b k _ ?_ hn hi ?_).mono ?_;go_simp;go_simp;rintro e w' ⟨rfl,rfl⟩))
 go_ret2;exact⟨rfl,_,rfl,rfl,rfl,rfl⟩
theorem nU(pa g n cap b k slots used:Nat)(aft tm st:Int)(w:World)(hne:b≠pa)(h0:w.cell? ⟨pa,0,none⟩=some (.pointer (some ⟨pa,0,none⟩)))(h5:w.cell? ⟨pa,5,none⟩=some (.int .i64 (-1)))
    (h1:w.cell? ⟨pa,1,none⟩=some (.slice (some ⟨g,0,none⟩) n cap)) (hn:k/64<n) (hi:k<65536) (hk:0<k%64)
    (h3:w.cell? ⟨pa,3,none⟩=some (.int .i64 k)) (h2s:w.cell? ⟨pa,2,none⟩=some (.int .i64 slots)) (hlt:k<slots)
    (hga:g≠pa) (hgb:g≠b) (hf:∀j,w.frozen? ⟨pa,j,none⟩=false) (hfb:∀j,w.frozen? ⟨b,j,none⟩=false)
    (h2:w.cell? ⟨g,k/64,none⟩=some (.pointer (some ⟨b,0,none⟩))) (h4:w.cell? ⟨pa,4,none⟩=some (.int .i64 used)) (hu:used<65536)
    (hs0:w.cell? ⟨b,k%64*3,none⟩=some (.int .i64 st)) (hs1:w.cell? ⟨b,k%64*3+1,none⟩=some (.int .i64 aft)) (hs2:w.cell? ⟨b,k%64*3+2,none⟩=some (.int .u64 tm)):
    Calls Tryz.prog 172 #[.pointer (some ⟨pa,0,none⟩)] w fun e w' =>e=.returned (.tuple #[.int .i64 k,.int .i64 0])/\∃tm', Eqv w' (((((w.setCell ⟨pa,3,none⟩ (.int .i64 (k+1))).setCell ⟨b,k%64*3,none⟩ (.int .i64 1)).setCell ⟨b,k%64*3+1,none⟩ (.int .i64 (-1))).setCell ⟨b,k%64*3+2,none⟩ (.int .u64 tm')).setCell ⟨pa,4,none⟩ (.int .i64 (used+1))):=by
 have hm:((k:Int) == -1)=false:=qQ.2 (by omega);have hm2:((k:Int)%64 == 0)=false:=qQ.2 (by omega);go_enter Tryz.func172,Tryz.ntmps172
 go_wp2_with (first|(go_at_call 144;refine(cD pa _ h0).mono ?_;rintro e w' ⟨rfl,rfl⟩)|(go_at_call 207;refine(iU pa k slots _ h0 h5 h3 h2s hlt).mono ?_;rintro e w' ⟨rfl,nq,rfl⟩)|(go_at_call 184;refine(gU pa g n cap b k _ ?_ hn hi ?_).mono ?_;go_simp;go_simp;rintro e w' ⟨rfl,rfl⟩))
 go_ret2;exact⟨rfl,_,rfl,rfl,rfl,rfl⟩
theorem Tryz.info232:(Tryz.prog.info? 232).map (fun i=>(i.zero,i.size,i.bytes))=some (some (.pointer none),1,8):=by kernel_rfl
theorem aFE:(Tryz.zeroCells236[0]? =some (.int .i64 0))/\(Tryz.zeroCells236[1]? =some (.int .i64 0))/\(Tryz.zeroCells236[2]? =some (.int .u64 0)):=⟨by kernel_rfl,by kernel_rfl,by kernel_rfl⟩
theorem kN:Tryz.zeroCells236.toList.length=192:=by kernel_rfl
theorem sC:(List.range 64).all (fun r=>match Tryz.zeroCells236.toList[r*3]?,Tryz.zeroCells236.toList[r*3+1]?,Tryz.zeroCells236.toList[r*3+2]? with
    | some (.int .i64 0),some (.int .i64 0),some (.int .u64 0)=>true
    | _,_,_=>false)=true:=by kernel_rfl
theorem aBP(r:Nat)(hr:r<64):Tryz.zeroCells236.toList[r*3]? =some (.int .i64 0)/\Tryz.zeroCells236.toList[r*3+1]? =some (.int .i64 0)/\Tryz.zeroCells236.toList[r*3+2]? =some (.int .u64 0):=by
 have h:=List.all_eq_true.1 sC r (by simpa using hr);split at h
 · rename_i a b c;exact⟨a,b,c⟩
 · cases h
theorem aBQ(pa bl:Nat)(v:Value)(xs:List Value)(w w0 w1:World)(g' cap' :Nat)(he:Eqv w0 w)(hga:v.ownBlock≠some pa)(hpa:pa<w.heap.size)(hxs:xs.length=bl)(hf:∀j,w.frozen? ⟨pa,j,none⟩=false)(hv:∀g,v.ownBlock=some g->g<w.heap.size)
    (hown1:w1.ownsRow 0 232 1 (.slice (some ⟨g', 0,none⟩) (bl+1) cap') (bl+1) (xs++[.pointer (some ⟨w.heap.size,0,none⟩)]))
    (hgrow1:((w0.alloc (.cells Tryz.zeroCells236 236)).alloc (.cells #[.pointer (some ⟨w.heap.size,0,none⟩)] 232)).grownBy w1 v.ownBlock)
    (hg1:v.ownBlock=some g' ∨ ((w0.alloc (.cells Tryz.zeroCells236 236)).alloc (.cells #[.pointer (some ⟨w.heap.size,0,none⟩)] 232)).heap.size<=g'):
    (∀j,w1.cell? ⟨pa,j,none⟩=w.cell? ⟨pa,j,none⟩)/\(∀j,w1.frozen? ⟨pa,j,none⟩=false)/\Blk w1 w.heap.size 236 Tryz.zeroCells236.toList/\g' ≠ pa/\g' ≠ w.heap.size /\
      w1.cell? ⟨g', bl,none⟩=some (.pointer (some ⟨w.heap.size,0,none⟩))/\Fr v.ownBlock.toList w w1/\(v.ownBlock=some g' ∨ w.heap.size<g')/\w.heap.size<w1.heap.size:=by
 have hsz:w0.heap.size=w.heap.size:=by rw[he.heap]
 have hb0:∀k,k<w.heap.size->((w0.alloc (.cells Tryz.zeroCells236 236)).alloc (.cells #[.pointer (some ⟨w.heap.size,0,none⟩)] 232)).heap[k]? =w.heap[k]? :=by {
 intro k hk;rw[Below.heap_alloc _ _ _ (by simp[hsz];omega),Below.heap_alloc _ _ _ (by omega),he.heap]};have hp:w1.heap[pa]? =w.heap[pa]? :=by rw[hgrow1.block pa (by simp[hsz];omega) (fun e=>hga e.symm)];exact hb0 pa hpa
 have hg2:v.ownBlock=some g' ∨ w.heap.size+1<g' :=by {
 rcases hg1 with h|h
 · exact .inl h
 · refine .inr ?_;simp[hsz]at h;omega};have hnew:w1.heap[w.heap.size]? =some (.cells Tryz.zeroCells236 236 (0,0)):=by {
 rw[hgrow1.block _ (by simp[hsz];omega) (fun e=>by have:=hv _ e.symm;omega),Below.heap_alloc _ _ _ (by simp[hsz])];show(w0.heap.push _)[w.heap.size]? =_
 rw[<-hsz];simp};refine⟨fun j=>World.cell?_of_block (w:=w) hp,fun j=>(World.frozen?_of_block (w:=w) hp).trans (hf j),?_,?_,?_,?_,?_,?_,?_⟩
 · unfold Blk;rw[hnew]
 {
 rcases hg2 with h|h
 · intro e;subst e;exact hga h
 · omega}
 {
 rcases hg2 with h|h
 · have:=hv _ h;omega
 · omega}
 {
 obtain⟨g,cap,e,_,_,hc,_⟩:=cL hown1 (Nat.lt_succ_self bl);simp only[qO,qI,Addr.mk.injEq,and_true,true_and]at e;obtain⟨rfl,_⟩:=e;rw[hc];simp[<-hxs]}
 {
 refine⟨hgrow1.os.trans he.os,hgrow1.tape.trans he.tape,hgrow1.output.trans he.output,by have:=hgrow1.size;simp[hsz]at this;omega,fun k hk hn=>?_⟩;rw[hgrow1.block k (by simp[hsz];omega) (fun e=>hn (by simp[<-e]))];exact hb0 k hk}
 {
 rcases hg2 with h|h
 · exact .inl h
 · exact .inr (by omega)}
 · have:=hgrow1.size;simp[hsz]at this;omega
theorem pB(pa bl k slots used:Nat)(v:Value)(xs:List Value)(w:World)(h0:w.cell? ⟨pa,0,none⟩=some (.pointer (some ⟨pa,0,none⟩)))(h5:w.cell? ⟨pa,5,none⟩=some (.int .i64 (-1)))
    (h1:w.cell? ⟨pa,1,none⟩=some v) (hi:k<65536) (hk:k%64=0) (hbl:k/64=bl) (hown:w.ownsRow 0 232 1 v bl xs)
    (h3:w.cell? ⟨pa,3,none⟩=some (.int .i64 k)) (h2s:w.cell? ⟨pa,2,none⟩=some (.int .i64 slots)) (hlt:k<slots)
    (hga:v.ownBlock≠some pa) (hpa:pa<w.heap.size) (hf:∀j,w.frozen? ⟨pa,j,none⟩=false)
    (h4:w.cell? ⟨pa,4,none⟩=some (.int .i64 used)) (hu:used<65536):
    Calls Tryz.prog 172 #[.pointer (some ⟨pa,0,none⟩)] w fun e w' =>e=.returned (.tuple #[.int .i64 k,.int .i64 0]) /\
      ∃g' cap' w1 tm,w1.ownsRow 0 232 1 (.slice (some ⟨g', 0,none⟩) (bl+1) cap') (bl+1) (xs++[.pointer (some ⟨w.heap.size,0,none⟩)])/\Fr v.ownBlock.toList w w1/\Blk w1 w.heap.size 236 Tryz.zeroCells236.toList/\(v.ownBlock=some g' ∨ w.heap.size<g') /\
        Eqv w' ((((((w1.setCell ⟨pa,1,none⟩ (.slice (some ⟨g', 0,none⟩) (bl+1) cap')).setCell ⟨pa,3,none⟩ (.int .i64 (k+1))).setCell ⟨w.heap.size,0,none⟩ (.int .i64 1)).setCell ⟨w.heap.size,1,none⟩ (.int .i64 (-1))).setCell ⟨w.heap.size,2,none⟩ (.int .u64 tm)).setCell ⟨pa,4,none⟩ (.int .i64 (used+1))):=by
 have hm:((k:Int) == -1)=false:=qQ.2 (by omega);have hm2:((k:Int)%64 == 0)=true:=beq_iff_eq.2 (by omega);have H1:=qA hbl;clear hbl;have H2:=qA hk;clear hk;have Hg:=qA hga;clear hga;have Hx:=qA (show xs.length=bl by have:=hown.1;omega);have hv:∀g,v.ownBlock=some g->g<w.heap.size:=fun g e=>(hown.lt g e).2;obtain⟨z0,z1,z2⟩:=aFE;simp only[<-Array.getElem?_toList]at z0 z1 z2;have hne1:¬pa=w.heap.size:=by omega
 have hne2:¬w.heap.size=pa:=by omega
 have hblm:bl<=1024:=by have:=H1.out;omega
 go_enter Tryz.func172,Tryz.ntmps172
 go_wp2_with (first|(go_at_call 144;refine(cD pa _ h0).mono ?_;rintro e w' ⟨rfl,rfl⟩)|(go_at_call 207;refine(iU pa k slots _ h0 h5 h3 h2s hlt).mono ?_;rintro e w' ⟨rfl,nq,rfl⟩)|(at_builtin;(refine aB rfl _ _ 212 rfl 232 (.pointer none) 8 Tryz.underlying212 Tryz.info232 rfl v bl xs rfl (((Eqv.drewN w nq).owns hown).alloc _ |>.alloc _) (w.heap.size+1) (.pointer (some ⟨w.heap.size,0,none⟩)) rfl (aC _ _ _ _ (by simp)) rfl (by omega) (by decide) ?_);intro g' cap' w1 hown1 hgrow1 hg1;(obtain⟨f1,f2,f3,f4,f5,f6,f7,f8,f9⟩:=aBQ pa bl v xs w _ w1 g' cap' (Eqv.drewN w nq) Hg.out hpa Hx.out hf hv hown1 hgrow1 hg1);clear hg1 hgrow1;have c0:=(f3.cell 0).trans z0;have c1:=(f3.cell 1).trans z1;have c2:=(f3.cell 2).trans z2;have c3:=f3.frozen;have F8:=qA f8;clear f8)|(go_at_call 184;refine(aBO pa g' (bl+1) cap' w.heap.size k 0 _ ?_ (by have:=H1.out;omega) hi ?_ (by have:=H2.out;omega)).mono ?_;go_simp;rw[H1.out];go_simp;rintro e w' ⟨rfl,rfl⟩))
 go_ret2;exact⟨rfl,g', cap', w1,_,hown1,f7,f3,F8.out,Eqv.refl _⟩
theorem wM(pa g n cap b k used slots begun:Nat)(last aft tm:Int)(w:World)(hne:b≠pa)(h0:w.cell? ⟨pa,0,none⟩=some (.pointer (some ⟨pa,0,none⟩)))(h5:w.cell? ⟨pa,5,none⟩=some (.int .i64 last))
    (h1:w.cell? ⟨pa,1,none⟩=some (.slice (some ⟨g,0,none⟩) n cap)) (hn:k/64<n) (hi:k<65536) (h2s:w.cell? ⟨pa,2,none⟩=some (.int .i64 slots)) (hks:k<slots)
    (h3:w.cell? ⟨pa,3,none⟩=some (.int .i64 begun)) (hkb:k<begun)
    (hga:g≠pa) (hgb:g≠b) (hf:∀j,w.frozen? ⟨pa,j,none⟩=false) (hfb:∀j,w.frozen? ⟨b,j,none⟩=false)
    (h2:w.cell? ⟨g,k/64,none⟩=some (.pointer (some ⟨b,0,none⟩))) (h4:w.cell? ⟨pa,4,none⟩=some (.int .i64 used)) (hu:used<65537) (hu0:0<used)
    (hs0:w.cell? ⟨b,k%64*3,none⟩=some (.int .i64 1)) (hs1:w.cell? ⟨b,k%64*3+1,none⟩=some (.int .i64 aft)) (_hs2:w.cell? ⟨b,k%64*3+2,none⟩=some (.int .u64 tm)):
    Calls Tryz.prog 152 #[.pointer (some ⟨pa,0,none⟩),.int .i64 k] w fun e w' =>e=.returned (.int .i64 0)/\Eqv w' (((((w.setCell ⟨b,k%64*3,none⟩ (.int .i64 2)).setCell ⟨b,k%64*3+1,none⟩ (.int .i64 last)).setCell ⟨pa,5,none⟩ (.int .i64 k))).setCell ⟨pa,4,none⟩ (.int .i64 (used-1))):=by
 go_enter Tryz.func152,Tryz.ntmps152
 go_wp2_with (first|(go_at_call 144;refine(cD pa _ h0).mono ?_;rintro e w' ⟨rfl,rfl⟩)|(go_at_call 145;refine(mT pa g n cap b k begun 1 _ h1 hn hi h3 hkb h2 hs0).mono ?_;rintro e w' ⟨rfl,rfl⟩)|(go_at_call 184;refine(gU pa g n cap b k _ ?_ hn hi ?_).mono ?_;go_simp;go_simp;rintro e w' ⟨rfl,rfl⟩))
 go_ret;exact⟨rfl,rfl,rfl,rfl,rfl⟩
theorem yK(pa:Nat)(used:Int)(w:World)(h0:w.cell? ⟨pa,0,none⟩=some (.pointer (some ⟨pa,0,none⟩)))(h4:w.cell? ⟨pa,4,none⟩=some (.int .i64 used)):
    Calls Tryz.prog 98 #[.pointer (some ⟨pa,0,none⟩)] w fun e w' =>e=.returned (.int .i64 used)/\w=w' :=by
 go_enter Tryz.func98,Tryz.ntmps98
 go_wp2_with (go_at_call 144;refine(cD pa _ h0).mono ?_;rintro e w' ⟨rfl,rfl⟩)
 go_ret;exact⟨rfl,rfl⟩
theorem wN(slots:Int)(w:World)(h:slots<0∨65536<slots):
    Calls Tryz.prog 127 #[.int .i64 slots] w fun e w' =>e=.returned (.tuple #[.pointer none,.int .i64 2])/\w=w' :=by
 rcases h with h|h
 {
 have hd:decide (slots<0)=true:=qG (by omega);go_enter Tryz.func127,Tryz.ntmps127
 go_wp2
 go_ret2;exact⟨rfl,rfl⟩}
 {
 have hd:decide (slots<0)=false:=qF (by omega);have hd2:decide (65536<slots)=true:=qG (by omega);go_enter Tryz.func127,Tryz.ntmps127
 go_wp2
 go_ret2;exact⟨rfl,rfl⟩}
theorem yL(slots:Nat)(w:World)(h:slots<=65536):
    Calls Tryz.prog 127 #[.int .i64 slots] w fun e w' =>e=.returned (.tuple #[.pointer (some ⟨w.heap.size,0,none⟩),.int .i64 0]) /\
      Eqv w' (w.alloc (.cells #[.pointer (some ⟨w.heap.size,0,none⟩),.slice none 0 0,.int .i64 slots,.int .i64 0,.int .i64 0,.int .i64 (-1)] 214)):=by
 have hd:decide ((slots:Int)<0)=false:=qF (by omega);have hd2:decide (65536<(slots:Int))=false:=qF (by omega);go_enter Tryz.func127,Tryz.ntmps127
 go_wp2
 go_ret2;exact⟨rfl,rfl,rfl,rfl,rfl⟩
structure Ar where
  slots:Nat
  begun:Nat
  free:List Nat
def eH:List Nat->Int
  | []=>-1
  | k::_=>k
def yM(af:Nat->Int):List Nat->Prop
  | []=>True
  | k::r=>af k=eH r/\yM af r
structure Ar.ok (A:Ar):Prop where
  hs:A.slots<=65536
  hb:A.begun<=A.slots
  nd:A.free.Nodup
  lt:∀k∈A.free,k<A.begun
def Ar.used(A:Ar):Nat:=A.begun-A.free.length
def Ar.isUsed(A:Ar)(i:Nat):Prop:=i<A.begun/\i∉A.free
def Ar.next(A:Ar):Option Nat:=match A.free with
  | k::_=>some k
  | []=>if A.begun<A.slots then some A.begun else none
def Ar.alloc(A:Ar):Ar:=match A.free with
  | _::r=>{ A with free:=r }
  | []=>{ A with begun:=A.begun+1 }
def Ar.put(A:Ar)(k:Nat):Ar:={ A with free:=k::A.free }
def Ar.new(slots:Nat):Ar:={ slots:=slots,begun:=0,free:=[] }
def upd(f:Nat->Int)(i:Nat)(x:Int):Nat->Int:=fun j=>if j=i then x else f j
theorem jP{l:List Nat}{n:Nat}(nd:l.Nodup)(h:∀k∈l,k<n):l.length<=n:=by
 induction n generalizing l with
 | zero=>cases l with
   | nil=>simp
   | cons a r=>exact absurd (h a (by simp)) (by omega)
 | succ n ih=>{
 have h1:(l.filter (·≠ n)).length<=n:=by {
 refine ih (nd.filter _) ?_;intro k hk;simp only[qZ,decide_eq_true_eq,ne_eq]at hk;have:=h k hk.1;omega};have h2:l.length<=(l.filter (·≠ n)).length+1:=by {
 clear h h1 ih;induction l with
 | nil=>simp
 | cons a r ihr=>{
 simp only[qN]at nd;by_cases e:a=n
 {
 subst e;have:r.filter (·≠ a)=r:=List.filter_eq_self.2 (fun x hx=>by simp;intro e;subst e;exact nd.1 hx);simp only[List.filter_cons];simp only[ne_eq,not_true_eq_false,decide_false,Bool.false_eq_true,if_false]at *;rw[this];simp}
 {
 have:=ihr nd.2;simp only[List.filter_cons,ne_eq,e,not_false_eq_true,decide_true,if_true,qY]at *;omega}}};omega}
theorem Ar.ok.len{A:Ar}(h:A.ok):A.free.length<=A.begun:=jP h.nd h.lt
def cF(w:World)(bs:List Nat)(st af:Nat->Int):Prop:=
  ∀(j:Nat) (b:Nat),bs[j]? =some b->∃cs:List Value,Blk w b 236 cs/\∀r,r<64->cs[r*3]? =some (.int .i64 (st (64*j+r)))/\cs[r*3+1]? =some (.int .i64 (af (64*j+r)))/\(∃t:Int,cs[r*3+2]? =some (.int .u64 t))/\cs.length=192
theorem cF.same{w w' :World}{bs:List Nat}{st af:Nat->Int}(h:cF w bs st af)(hs:∀b∈bs,w'.heap[b]? =w.heap[b]?):cF w' bs st af:=by
 intro j b hj;obtain⟨cs,h1,h2⟩:=h j b hj;exact⟨cs,h1.of_same (hs b (List.mem_of_getElem? hj)),h2⟩
theorem cF.other{w:World}{bs:List Nat}{st af:Nat->Int}(h:cF w bs st af)(a:Addr)(u:Value)(hn:a.block∉bs):cF (w.setCell a u) bs st af:=
  h.same fun _b hb=>Below.heap_setCell _ _ _ _ (fun e=>hn (e▸hb))
theorem pC{l:List Nat}(nd:l.Nodup){i j:Nat}{b:Nat}(hi:l[i]? =some b)(hj:l[j]? =some b):i=j:=by
 obtain⟨h1,e1⟩:=qS.1 hi;obtain⟨h2,e2⟩:=qS.1 hj;rcases Nat.lt_trichotomy i j with h|h|h
 · exact absurd (e1.trans e2.symm) (List.pairwise_iff_getElem.1 nd i j h1 h2 h)
 · exact h
 · exact absurd (e2.trans e1.symm) (List.pairwise_iff_getElem.1 nd j i h2 h1 h)
section
variable {w:World} {bs:List Nat} {st af:Nat->Int} {b i:Nat}
theorem cF.set0(h:cF w bs st af)(nd:bs.Nodup)(hb:bs[i/64]? =some b)(x:Int):
    cF (w.setCell ⟨b,i%64*3,none⟩ (.int .i64 x)) bs (upd st i x) af:=by
 intro j b' hj;obtain⟨cs,h1,h2⟩:=h j b' hj;by_cases e:b' =b
 {
 subst e;obtain rfl:j=i/64:=pC nd hj hb;refine⟨_,h1.set _ _,fun r hr=>?_⟩;obtain⟨a1,a2,a3,a4⟩:=h2 r hr;have hi:=h2 (i%64) (by omega);have hlen:i%64*3<cs.length:=(qS.1 hi.1).1;refine⟨?_,?_,?_,by simpa using a4⟩
 {
 simp only[List.getElem?_set,upd];by_cases er:r=i%64
 · subst er;rw[qD rfl,qD hlen,qD (by omega)]
 · rw[qC (by omega),qC (by omega)];exact a1}
 · simp only[List.getElem?_set];rw[qC (by omega)];exact a2
 · simp only[List.getElem?_set];rw[qC (by omega)];exact a3}
 {
 refine⟨cs,h1.other _ _ e,fun r hr=>?_⟩;obtain⟨a1,a2,a3,a4⟩:=h2 r hr;refine⟨?_,a2,a3,a4⟩;rw[a1];simp only[upd];rw[qC];intro e2;apply e;have:j=i/64:=by omega
 rw[this,hb]at hj;simpa using hj.symm}
theorem cF.set1(h:cF w bs st af)(nd:bs.Nodup)(hb:bs[i/64]? =some b)(x:Int):
    cF (w.setCell ⟨b,i%64*3+1,none⟩ (.int .i64 x)) bs st (upd af i x):=by
 intro j b' hj;obtain⟨cs,h1,h2⟩:=h j b' hj;by_cases e:b' =b
 {
 subst e;obtain rfl:j=i/64:=pC nd hj hb;refine⟨_,h1.set _ _,fun r hr=>?_⟩;obtain⟨a1,a2,a3,a4⟩:=h2 r hr;have hi:=h2 (i%64) (by omega);have hlen:i%64*3+1<cs.length:=(qS.1 hi.2.1).1;refine⟨?_,?_,?_,by simpa using a4⟩
 · simp only[List.getElem?_set];rw[qC (by omega)];exact a1
 {
 simp only[List.getElem?_set,upd];by_cases er:r=i%64
 · subst er;rw[qD rfl,qD hlen,qD (by omega)]
 · rw[qC (by omega),qC (by omega)];exact a2}
 · simp only[List.getElem?_set];rw[qC (by omega)];exact a3}
 {
 refine⟨cs,h1.other _ _ e,fun r hr=>?_⟩;obtain⟨a1,a2,a3,a4⟩:=h2 r hr;refine⟨a1,?_,a3,a4⟩;rw[a2];simp only[upd];rw[qC];intro e2;apply e;have:j=i/64:=by omega
 rw[this,hb]at hj;simpa using hj.symm}
theorem cF.set2(h:cF w bs st af)(nd:bs.Nodup)(hb:bs[i/64]? =some b)(x:Int):
    cF (w.setCell ⟨b,i%64*3+2,none⟩ (.int .u64 x)) bs st af:=by
 intro j b' hj;obtain⟨cs,h1,h2⟩:=h j b' hj;by_cases e:b' =b
 {
 subst e;obtain rfl:j=i/64:=pC nd hj hb;refine⟨_,h1.set _ _,fun r hr=>?_⟩;obtain⟨a1,a2,a3,a4⟩:=h2 r hr;obtain⟨t,a3⟩:=a3;refine⟨?_,?_,?_,by simpa using a4⟩
 · simp only[List.getElem?_set];rw[qC (by omega)];exact a1
 · simp only[List.getElem?_set];rw[qC (by omega)];exact a2
 {
 simp only[List.getElem?_set];by_cases er:i%64*3+2=r*3+2
 · rw[qD er,qD (by have:=(qS.1 a3).1;omega)];exact⟨x,rfl⟩
 · rw[qC er];exact⟨t,a3⟩}}
 · exact⟨cs,h1.other _ _ e,h2⟩
end
abbrev ptr(b:Nat):Value:=.pointer (some ⟨b,0,none⟩)
def aU(w:World)(pa:Nat)(A:Ar)(l:List Nat):Prop:=
  ∃(v:Value) (bs:List Nat) (st af:Nat->Int),
    Blk w pa 214 [ptr pa,v,.int .i64 A.slots,.int .i64 A.begun,.int .i64 A.used,.int .i64 (eH A.free)] /\
    w.ownsRow 0 232 1 v bs.length (bs.map ptr)/\cF w bs st af/\l=pa::(v.ownBlock.toList++bs)/\l.Nodup /\
    bs.length=(A.begun+63)/64/\A.ok/\((∀i,i<A.begun->i∈A.free->st i=2)/\(∀i,i<A.begun->i∉A.free->st i=1))/\yM af A.free
theorem aU.ok{w:World}{pa:Nat}{A:Ar}{l:List Nat}(h:aU w pa A l):A.ok:=by
 obtain⟨_,_,_,_,_,_,_,_,_,_,h,_⟩:=h;exact h
theorem aU.same{w w' :World}{pa:Nat}{A:Ar}{l:List Nat}(h:aU w pa A l)(hs:∀b∈l,w'.heap[b]? =w.heap[b]?):aU w' pa A l:=by
 obtain⟨v,bs,st,af,h1,h2,h3,rfl,r⟩:=h;refine⟨v,bs,st,af,h1.of_same (hs pa (by simp)),aQ h2 (fun k hk=>hs k (by simp[hk])),h3.same (fun b hb=>hs b (by simp[hb])),rfl,r⟩
theorem aU.lt{w:World}{pa:Nat}{A:Ar}{l:List Nat}(h:aU w pa A l):∀b∈l,b<w.heap.size:=by
 obtain⟨v,bs,st,af,h1,h2,h3,rfl,r⟩:=h;intro b hb;simp only[qB,qE,Option.mem_toList]at hb;rcases hb with rfl|hb|hb
 · exact h1.lt
 · exact(h2.lt b hb).2
 {
 obtain⟨j,hj⟩:=List.getElem?_of_mem hb;obtain⟨cs,hc,_⟩:=h3 j b hj;exact hc.lt}
theorem aU.slot{w:World}{pa:Nat}{v:Value}{bs:List Nat}{st af:Nat->Int}{n k:Nat}(h2:w.ownsRow 0 232 1 v bs.length (bs.map ptr))(h3:cF w bs st af)
    (hnd:(pa::(v.ownBlock.toList++bs)).Nodup) (_hl:bs.length=(n+63)/64) (hk:k/64<bs.length):
    ∃g cap b tm,v=.slice (some ⟨g,0,none⟩) bs.length cap/\bs[k/64]? =some b/\g≠pa/\g≠b/\b≠pa/\w.cell? ⟨g,k/64,none⟩=some (.pointer (some ⟨b,0,none⟩)) /\
      w.cell? ⟨b,k%64*3,none⟩=some (.int .i64 (st k))/\w.cell? ⟨b,k%64*3+1,none⟩=some (.int .i64 (af k))/\w.cell? ⟨b,k%64*3+2,none⟩=some (.int .u64 tm)/\(∀j,w.frozen? ⟨b,j,none⟩=false):=by
 obtain⟨g,cap,rfl,_,_,hc,_⟩:=cL h2 hk;obtain⟨b,hb⟩:∃b,bs[k/64]? =some b:=⟨_,qK hk⟩;obtain⟨cs,hB,hr⟩:=h3 _ _ hb;obtain⟨r1,r2,⟨tm,r3⟩,_⟩:=hr (k%64) (by omega);have ek:64*(k/64)+k%64=k:=by omega
 rw[ek]at r1 r2;have hbm:=List.mem_of_getElem? hb;simp only[Value.ownBlock,Option.toList_some,zB,List.nil_append,qN,qB,not_or]at hnd;refine⟨g,cap,b,tm,rfl,hb,fun e=>hnd.1.1 e.symm,fun e=>hnd.2.1 (e▸hbm),fun e=>hnd.1.2 (e▸hbm),?_,?_,?_,?_,fun j=>hB.frozen j⟩
 · rw[hc];simp[hb,ptr]
 · rw[hB.cell];exact r1
 · rw[hB.cell];exact r2
 · rw[hB.cell];exact r3
theorem yM.other{af:Nat->Int}{l:List Nat}{k:Nat}{x:Int}(h:yM af l)(hk:k∉l):yM (upd af k x) l:=by
 induction l with
 | nil=>trivial
 | cons a r ih=>{
 simp only[qB,not_or]at hk;refine⟨?_,ih h.2 hk.2⟩;simp only[upd];rw[qC (fun e=>hk.1 e.symm)];exact h.1}
theorem pD{w:World}{pa:Nat}{A:Ar}{l:List Nat}(h:aU w pa A l)(hn:A.next=none):
    Calls Tryz.prog 172 #[ptr pa] w fun e w' =>e=.returned (.tuple #[.int .i64 0,.int .i64 4])/\Eqv w' w:=by
 obtain⟨v,bs,st,af,h1,h2,h3,rfl,hnd,hl,hok,hst,hch⟩:=h;obtain⟨slots,begun,free⟩:=A;cases free with
 | cons k r=>simp[Ar.next]at hn
 | nil=>{
 simp only[Ar.next]at hn;have hlt:slots<=begun:=by {
 by_cases hh:begun<slots
 · rw[qD hh]at hn;cases hn
 · omega};refine(oZ pa begun slots w (h1.cell 0) (h1.cell 5) (h1.cell 3) (h1.cell 2) hlt).mono ?_;rintro e w' ⟨rfl,n,rfl⟩;exact⟨rfl,Eqv.drewN w n⟩}
theorem iV{w:World}{pa:Nat}{A:Ar}{l:List Nat}{i:Nat}(h:aU w pa A l)(hn:A.next=some i):
    Calls Tryz.prog 172 #[ptr pa] w fun e w' =>e=.returned (.tuple #[.int .i64 i,.int .i64 0]) /\
      ∃l', aU w' pa A.alloc l' /\ Fr l w w' /\ ∀b∈l', b∈l∨w.heap.size<=b:=by
 have hlt:=h.lt;obtain⟨v,bs,st,af,h1,h2,h3,rfl,hnd,hl,hok,hst,hch⟩:=h;have hlen:=hok.len;obtain⟨slots,begun,free⟩:=A;have hs:=hok.hs;have hb:=hok.hb;dsimp only at *
 have hndb:bs.Nodup:=by simp only[qN,qM]at hnd;exact hnd.2.2.1
 have hpab:pa∉bs:=by intro hm;simp only[qN]at hnd;exact hnd.1 (by simp[hm])
 have hpav:v.ownBlock≠some pa:=by intro hm;simp only[qN]at hnd;exact hnd.1 (by simp[hm])
 cases free with
 | cons k r=>{
 obtain rfl:k=i:=by simpa[Ar.next] using hn
 have hkb:k<begun:=hok.lt k (by simp);obtain⟨g,cap,b,tm,rfl,hbk,hg1,hg2,hbp,c1,c2,c3,c4,hfz⟩:=aU.slot h2 h3 hnd hl (show k/64<bs.length by omega);have hbm:=List.mem_of_getElem? hbk;refine(pA pa g bs.length cap b k (Ar.used ⟨slots,begun,k::r⟩) (af k) tm (st k) w hbp (h1.cell 0) (h1.cell 5) (h1.cell 1) (by omega) (by omega) hg1 hg2 h1.frozen hfz c1 (h1.cell 4) (by simp only[Ar.used];simp at hlen;simp;omega) c2 c3 c4).mono ?_;rintro e w' ⟨rfl,tm', he⟩;refine⟨rfl,_,⟨_,bs,upd st k 1,upd af k (-1),?_,?_,?_,rfl,hnd,?_,?_,?_,?_⟩,?_,fun b hb=>.inl hb⟩
 {
 have hh:=he.blk (((((h1.set 5 (.int .i64 (af k))).other ⟨b,k%64*3,none⟩ (.int .i64 1) (fun e=>hbp e.symm)).other ⟨b,k%64*3+1,none⟩ (.int .i64 (-1)) (fun e=>hbp e.symm)).other ⟨b,k%64*3+2,none⟩ (.int .u64 tm') (fun e=>hbp e.symm)).set 4 (.int .i64 ((Ar.used ⟨slots,begun,k::r⟩:Nat)+1)));have e1:af k=eH r:=hch.1;have e2:(((Ar.used ⟨slots,begun,k::r⟩:Nat):Int)+1)=((Ar.used (Ar.alloc ⟨slots,begun,k::r⟩):Nat):Int):=by simp only[Ar.used,Ar.alloc,qY]at *;omega
 rw[e2,e1]at hh;exact hh}
 {
 refine he.owns (aQ h2 fun q hq=>?_);simp only[Value.ownBlock,qI]at hq;subst hq;rw[Below.heap_setCell _ _ _ _ hg1,Below.heap_setCell _ _ _ _ hg2,Below.heap_setCell _ _ _ _ hg2,Below.heap_setCell _ _ _ _ hg2,Below.heap_setCell _ _ _ _ hg1]}
 · exact cF.same (((((h3.other ⟨pa,5,none⟩ (.int .i64 (af k)) hpab).set0 hndb hbk 1).set1 hndb hbk (-1)).set2 hndb hbk tm').other ⟨pa,4,none⟩ _ hpab) (fun b _=>by rw[he.heap])
 · exact hl
 · exact⟨hs,hb,by have:=hok.nd;simp at this;exact this.2,fun x hx=>hok.lt x (by simp[Ar.alloc]at hx;simp[hx])⟩
 {
 have hnr:k∉r:=by have:=hok.nd;simp at this;exact this.1
 refine⟨fun j hj hm=>?_,fun j hj hm=>?_⟩<;>simp only[upd,Ar.alloc]at hj hm ⊢
 · rw[qC (show ¬j=k by rintro rfl;exact hnr hm)];exact hst.1 j hj (by simp[hm])
 {
 by_cases e:j=k
 · rw[qD e]
 · rw[qC e];exact hst.2 j hj (by simp[e,hm])}}
 {
 have hnr:k∉r:=by have:=hok.nd;simp at this;exact this.1
 exact hch.2.other hnr}
 · refine he.fr (((((Fr.refl _ _).setCell _ _ ?_).setCell _ _ ?_).setCell _ _ ?_).setCell _ _ ?_ |>.setCell _ _ ?_)<;>simp[hbm]}
 | nil=>{
 have hlt2:begun<slots:=by {
 simp only[Ar.next]at hn;by_cases hh:begun<slots
 · exact hh
 · rw[qC hh]at hn;cases hn};obtain rfl:begun=i:=by simpa[Ar.next,hlt2] using hn
 by_cases hk:begun%64=0
 {
 have hu:Ar.used ⟨slots,begun,[]⟩=begun:=by simp[Ar.used]
 have h4:=h1.cell 4;refine(pB pa bs.length begun slots (Ar.used ⟨slots,begun,[]⟩) v (bs.map ptr) w (h1.cell 0) (h1.cell 5) (h1.cell 1) (by omega) hk (by omega) h2 (h1.cell 3) (h1.cell 2) hlt2 hpav h1.lt h1.frozen h4 (by omega)).mono ?_;rintro e w' ⟨rfl,g', cap', w1,tm,hown1,hfr,hnb,hg', he⟩;have hpa:=h1.lt;have hvl:∀q,v.ownBlock=some q->q<w.heap.size:=fun q hq=>(h2.lt q hq).2;have hbl:∀q∈bs,q<w.heap.size:=fun q hq=>hlt q (by simp[hq]);have hne:g' ≠ pa:=by rcases hg' with hg' | hg'; exact fun e=>hpav (e▸hg');omega
 have hne2:g' ≠ w.heap.size:=by rcases hg' with hg' | hg'; have:=hvl _ hg'; omega;omega
 have hb1:Blk w1 pa 214 _:=hfr.blk h1 (by simpa using hpav);have hndr:∀q∈bs,v.ownBlock≠some q:=by {
 intro q hq e;simp only[qN,qM,e]at hnd;exact hnd.2.2.2 q (by simp) q hq rfl};refine⟨rfl,pa::([g']++(bs++[w.heap.size])),⟨.slice (some ⟨g', 0,none⟩) (bs.length+1) cap', bs++[w.heap.size],upd (fun j=>if j<begun then st j else 0) begun 1,upd (fun j=>if j<begun then af j else 0) begun (-1),?_,?_,?_,rfl,?_,?_,?_,?_,?_⟩,?_,?_⟩
 {
 have hh:=he.blk ((((((hb1.set 1 (.slice (some ⟨g', 0,none⟩) (bs.length+1) cap')).set 3 (.int .i64 (begun+1))).other ⟨w.heap.size,0,none⟩ (.int .i64 1) (by simp;omega)).other ⟨w.heap.size,1,none⟩ (.int .i64 (-1)) (by simp;omega)).other ⟨w.heap.size,2,none⟩ (.int .u64 tm) (by simp;omega)).set 4 (.int .i64 ((Ar.used ⟨slots,begun,[]⟩:Nat)+1)));have e2:(((Ar.used ⟨slots,begun,[]⟩:Nat):Int)+1)=((Ar.used (Ar.alloc ⟨slots,begun,[]⟩):Nat):Int):=by simp[Ar.used,Ar.alloc]
 rw[e2]at hh;exact hh}
 {
 refine he.owns (aQ (w:=w1) ?_ fun q hq=>?_)
 · simpa[ptr] using hown1
 {
 simp only[Value.ownBlock,qI]at hq;subst hq;rw[Below.heap_setCell _ _ _ _ hne,Below.heap_setCell _ _ _ _ hne2,Below.heap_setCell _ _ _ _ hne2,Below.heap_setCell _ _ _ _ hne2,Below.heap_setCell _ _ _ _ hne,Below.heap_setCell _ _ _ _ hne]}}
 {
 intro j b hj;have hjl:j<bs.length+1:=by have:=(qS.1 hj).1;simpa using this
 by_cases ej:j<bs.length
 {
 rw[List.getElem?_append_left ej]at hj;obtain⟨cs,a1,a2⟩:=h3 j b hj;have hbm:=List.mem_of_getElem? hj;have n1:b≠pa:=fun e=>hpab (e▸hbm);have n2:b≠w.heap.size:=by have:=hbl b hbm;omega
 have a1' :Blk w1 b 236 cs:=hfr.blk a1 (by simpa using hndr b hbm);refine⟨cs,he.blk ((((((a1'.other _ _ n1).other _ _ n1).other _ _ n2).other _ _ n2).other _ _ n2).other _ _ n1),fun r hr=>?_⟩;have hlt3:64*j+r<begun:=by omega
 obtain⟨b1,b2,b3⟩:=a2 r hr;have hne3:¬64*j+r=begun:=by omega
 simp only[upd,qC hne3,qD hlt3];exact⟨b1,b2,b3⟩}
 {
 obtain rfl:j=bs.length:=by omega
 simp at hj;subst hj;refine⟨_,he.blk ((((((hnb.other ⟨pa,1,none⟩ _ (by simp;omega)).other ⟨pa,3,none⟩ _ (by simp;omega)).set 0 (.int .i64 1)).set 1 (.int .i64 (-1))).set 2 (.int .u64 tm)).other ⟨pa,4,none⟩ _ (by simp;omega)),fun r hr=>?_⟩;obtain⟨z1,z2,z3⟩:=aBP r hr;have hl0:=kN;simp only[upd,List.getElem?_set,List.length_set];by_cases er:r=0
 {
 subst er;have e0:64*bs.length+0=begun:=by omega
 simp[e0,hl0]}
 {
 rw[qC (show ¬2=r*3 by omega),qC (show ¬1=r*3 by omega),qC (show ¬0=r*3 by omega),qC (show ¬2=r*3+1 by omega),qC (show ¬1=r*3+1 by omega),qC (show ¬0=r*3+1 by omega),
   qC (show ¬2=r*3+2 by omega),qC (show ¬1=r*3+2 by omega),qC (show ¬0=r*3+2 by omega)]
 have hne3:¬64*bs.length+r=begun:=by omega
 have hge3:¬64*bs.length+r<begun:=by omega
 simp only[qC hne3,qC hge3];exact⟨z1,z2,⟨_,z3⟩,hl0⟩}}}
 {
 simp only[qN,qM,qE,qB,List.not_mem_nil,or_false,not_or]at hnd ⊢;refine⟨⟨fun e=>hne e.symm,hpab,by omega⟩,by simp,⟨hndb,by simp,?_⟩,?_⟩
 · rintro a ha b rfl;have:=hbl a ha;omega
 {
 rintro a rfl b (hb|rfl)
 {
 rcases hg' with hg' | hg'
 · intro e;exact hndr b hb (e▸hg')
 · have:=hbl b hb;omega}
 · exact hne2}}
 · simp[Ar.alloc];omega
 · exact⟨hs,by simp[Ar.alloc];omega,by simp[Ar.alloc],by simp[Ar.alloc]⟩
 {
 refine⟨fun j hj hm=>by simp[Ar.alloc]at hm,fun j hj _=>?_⟩;simp only[Ar.alloc,upd]at hj ⊢;by_cases e:j=begun
 · rw[qD e]
 · rw[qC e,qD (by omega)];exact hst.2 j (by omega) (by simp)}
 · trivial
 {
 have f1:Fr (pa::(v.ownBlock.toList++bs)) w w1:=hfr.mono (fun b hb=>.inl (by simp at hb;simp[hb]));refine he.fr ((((((f1.setCell _ _ ?_).setCell _ _ ?_).setCell _ _ ?_).setCell _ _ ?_).setCell _ _ ?_).setCell _ _ ?_)<;>simp}
 {
 intro b hb;simp only[qB,qE,List.not_mem_nil,or_false]at hb ⊢;rcases hb with rfl|rfl|hb|rfl
 · exact .inl (.inl rfl)
 {
 rcases hg' with hg' | hg'
 · exact .inl (.inr (.inl (by simp[hg'])))
 · exact .inr (by omega)}
 · exact .inl (.inr (.inr hb))
 · exact .inr (qJ _)}}
 {
 obtain⟨g,cap,b,tm,rfl,hbk,hg1,hg2,hbp,c1,c2,c3,c4,hfz⟩:=aU.slot h2 h3 hnd hl (show begun/64<bs.length by omega);have hbm:=List.mem_of_getElem? hbk;refine(nU pa g bs.length cap b begun slots (Ar.used ⟨slots,begun,[]⟩) (af begun) tm (st begun) w hbp (h1.cell 0) (h1.cell 5) (h1.cell 1) (by omega) (by omega) (by omega) (h1.cell 3) (h1.cell 2) hlt2 hg1 hg2 h1.frozen hfz c1 (h1.cell 4) (by simp only[Ar.used];simp;omega) c2 c3 c4).mono ?_;rintro e w' ⟨rfl,tm', he⟩;refine⟨rfl,_,⟨_,bs,upd st begun 1,upd af begun (-1),?_,?_,?_,rfl,hnd,?_,?_,?_,?_⟩,?_,fun b hb=>.inl hb⟩
 {
 have hh:=he.blk (((((h1.set 3 (.int .i64 (begun+1))).other ⟨b,begun%64*3,none⟩ (.int .i64 1) (fun e=>hbp e.symm)).other ⟨b,begun%64*3+1,none⟩ (.int .i64 (-1)) (fun e=>hbp e.symm)).other ⟨b,begun%64*3+2,none⟩ (.int .u64 tm') (fun e=>hbp e.symm)).set 4 (.int .i64 ((Ar.used ⟨slots,begun,[]⟩:Nat)+1)));have e2:(((Ar.used ⟨slots,begun,[]⟩:Nat):Int)+1)=((Ar.used (Ar.alloc ⟨slots,begun,[]⟩):Nat):Int):=by simp[Ar.used,Ar.alloc]
 rw[e2]at hh;exact hh}
 {
 refine he.owns (aQ h2 fun q hq=>?_);simp only[Value.ownBlock,qI]at hq;subst hq;rw[Below.heap_setCell _ _ _ _ hg1,Below.heap_setCell _ _ _ _ hg2,Below.heap_setCell _ _ _ _ hg2,Below.heap_setCell _ _ _ _ hg2,Below.heap_setCell _ _ _ _ hg1]}
 · exact cF.same (((((h3.other ⟨pa,3,none⟩ _ hpab).set0 hndb hbk 1).set1 hndb hbk (-1)).set2 hndb hbk tm').other ⟨pa,4,none⟩ _ hpab) (fun b _=>by rw[he.heap])
 · simp[Ar.alloc];omega
 · exact⟨hs,by simp[Ar.alloc];omega,by simp[Ar.alloc],by simp[Ar.alloc]⟩
 {
 refine⟨fun j hj hm=>by simp[Ar.alloc]at hm,fun j hj _=>?_⟩;simp only[Ar.alloc,upd]at hj ⊢;by_cases e:j=begun
 · rw[qD e]
 · rw[qC e];exact hst.2 j (by omega) (by simp)}
 · trivial
 · refine he.fr (((((Fr.refl _ _).setCell _ _ ?_).setCell _ _ ?_).setCell _ _ ?_).setCell _ _ ?_ |>.setCell _ _ ?_)<;>simp[hbm]}}
theorem sD{w:World}{pa:Nat}{A:Ar}{l:List Nat}{k:Nat}(h:aU w pa A l)(hu:A.isUsed k):
    Calls Tryz.prog 152 #[ptr pa,.int .i64 k] w fun e w' =>e=.returned (.int .i64 0)/\aU w' pa (A.put k) l/\Fr l w w' :=by
 obtain⟨v,bs,st,af,h1,h2,h3,rfl,hnd,hl,hok,hst,hch⟩:=h;have hlen:=hok.len;obtain⟨slots,begun,free⟩:=A;have hs:=hok.hs;have hb:=hok.hb;obtain⟨hkb,hkf⟩:=hu;dsimp only at *
 have hndb:bs.Nodup:=by simp only[qN,qM]at hnd;exact hnd.2.2.1
 have hpab:pa∉bs:=by intro hm;simp only[qN]at hnd;exact hnd.1 (by simp[hm])
 obtain⟨g,cap,b,tm,rfl,hbk,hg1,hg2,hbp,c1,c2,c3,c4,hfz⟩:=aU.slot h2 h3 hnd hl (show k/64<bs.length by omega);have hbm:=List.mem_of_getElem? hbk;have hlen2:free.length+1<=begun:=by {
 have:=jP (l:=k::free) (n:=begun) (by simp[hkf,hok.nd]) (by intro x hx;simp at hx;rcases hx with rfl|hx;exact hkb;exact hok.lt x hx);simpa using this};rw[hst.2 k hkb hkf]at c2;refine(wM pa g bs.length cap b k (Ar.used ⟨slots,begun,free⟩) slots begun (eH free) (af k) tm w hbp (h1.cell 0) (h1.cell 5) (h1.cell 1) (by omega) (by omega) (h1.cell 2) (by omega) (h1.cell 3) hkb hg1 hg2 h1.frozen hfz c1 (h1.cell 4) (by simp only[Ar.used];omega) (by simp only[Ar.used];omega) c2 c3 c4).mono ?_;rintro e w' ⟨rfl,he⟩;refine⟨rfl,⟨_,bs,upd st k 2,upd af k (eH free),?_,?_,?_,rfl,hnd,hl,?_,?_,?_⟩,?_⟩
 {
 have hh:=he.blk (((((h1.other ⟨b,k%64*3,none⟩ (.int .i64 2) (fun e=>hbp e.symm)).other ⟨b,k%64*3+1,none⟩ (.int .i64 (eH free)) (fun e=>hbp e.symm)).set 5 (.int .i64 k)).set 4 (.int .i64 ((Ar.used ⟨slots,begun,free⟩:Nat)-1))));have e2:(((Ar.used ⟨slots,begun,free⟩:Nat):Int)-1)=((Ar.used (Ar.put ⟨slots,begun,free⟩ k):Nat):Int):=by simp only[Ar.used,Ar.put,qY]at *;omega
 rw[e2]at hh;exact hh}
 {
 refine he.owns (aQ h2 fun q hq=>?_);simp only[Value.ownBlock,qI]at hq;subst hq;rw[Below.heap_setCell _ _ _ _ hg1,Below.heap_setCell _ _ _ _ hg1,Below.heap_setCell _ _ _ _ hg2,Below.heap_setCell _ _ _ _ hg2]}
 · exact cF.same ((((h3.set0 hndb hbk 2).set1 hndb hbk (eH free)).other ⟨pa,5,none⟩ _ hpab).other ⟨pa,4,none⟩ _ hpab) (fun b _=>by rw[he.heap])
 · exact⟨hs,hb,by simp[Ar.put,hkf,hok.nd],fun x hx=>by simp[Ar.put]at hx;rcases hx with rfl|hx;exact hkb;exact hok.lt x hx⟩
 {
 refine⟨fun j hj hm=>?_,fun j hj hm=>?_⟩<;>simp only[upd,Ar.put,qB,not_or]at hj hm ⊢
 {
 by_cases e:j=k
 · rw[qD e]
 · rw[qC e];exact hst.1 j hj (hm.resolve_left e)}
 · rw[qC hm.1];exact hst.2 j hj hm.2}
 · exact⟨by simp[upd],hch.other hkf⟩
 · refine he.fr ((((Fr.refl _ _).setCell _ _ ?_).setCell _ _ ?_).setCell _ _ ?_ |>.setCell _ _ ?_)<;>simp[hbm]
theorem uZ{w:World}{pa:Nat}{A:Ar}{l:List Nat}(h:aU w pa A l):
    Calls Tryz.prog 98 #[ptr pa] w fun e w' =>e=.returned (.int .i64 A.used)/\w=w' :=by
 obtain⟨v,bs,st,af,h1,_⟩:=h;exact yK pa _ w (h1.cell 0) (h1.cell 4)
theorem vA(slots:Nat)(w:World)(h:slots<=65536):
    Calls Tryz.prog 127 #[.int .i64 slots] w fun e w' =>e=.returned (.tuple #[ptr w.heap.size,.int .i64 0])/\aU w' w.heap.size (Ar.new slots) [w.heap.size]/\Fr [] w w' :=by
 refine(yL slots w h).mono ?_;rintro e w' ⟨rfl,he⟩;refine⟨rfl,⟨_,[],fun _=>0,fun _=>0,he.blk (Blk.new w [ptr w.heap.size,.slice none 0 0,.int .i64 slots,.int .i64 0,.int .i64 0,.int .i64 (-1)] _),World.ownsRow_nil _ _ _ _,?_,rfl,by simp,by simp[Ar.new],⟨h,by simp[Ar.new],by simp[Ar.new],by simp[Ar.new]⟩,by simp[Ar.new],trivial⟩,he.fr ((Fr.refl _ _).alloc _)⟩;intro j b hj;simp at hj
theorem yN(j:Nat)(hj:j<63)(x:Int):((BitVec.ofInt 64 x &&& BitVec.ofInt 64 ((2:Int) ^ j-1)).toNat:Int)=x%(2:Int) ^ j:=by
 have hp:2 ^ j<2 ^ 63:=Nat.pow_lt_pow_right (by decide) hj;have hp0:0<2 ^ j:=Nat.two_pow_pos j;have hc:((2:Int) ^ j-1)=((2 ^ j-1:Nat):Int):=by rw[Int.natCast_sub hp0];simp
 have hd:((2:Int) ^ j)∣((2 ^ 64:Nat):Int):=⟨(2:Int) ^ (64-j),by rw[<-Int.pow_add];rw[show j+(64-j)=64 by omega];simp⟩;rw[hc,BitVec.toNat_and,BitVec.ofInt_natCast,BitVec.toNat_ofNat,Nat.mod_eq_of_lt (show 2 ^ j-1<2 ^ 64 by omega),Nat.and_two_pow_sub_one_eq_mod,BitVec.toNat_ofInt];rw[Int.natCast_emod,Int.toNat_of_nonneg (Int.emod_nonneg _ (by decide))];simp only[Int.natCast_pow,Int.cast_ofNat_Int]at *;exact Int.emod_emod_of_dvd x hd
theorem aHO(j:Nat)(hj:j<63)(x:Int):bits .and .i64 x ((2:Int) ^ j-1)=x%(2:Int) ^ j:=by
 have hp:(2:Int) ^ j<2 ^ 63:=by exact_mod_cast Nat.pow_lt_pow_right (by decide) hj
 have hp0:(0:Int)<2 ^ j:=by exact_mod_cast Nat.two_pow_pos j
 have h1:=Int.emod_nonneg x (show(2:Int) ^ j≠0 by omega);have h2:=Int.emod_lt_of_pos x hp0;show IntKind.i64.wrap ((BitVec.ofInt 64 x &&& BitVec.ofInt 64 ((2:Int) ^ j-1)).toNat:Int)=_
 rw[yN j hj,IntKind.wrap_i64];generalize (2:Int) ^ j=m at *;generalize x%m=y at *;omega
theorem aBR(j:Nat)(hj:j<63)(x:Int):bits .and .u64 x ((2:Int) ^ j-1)=x%(2:Int) ^ j:=by
 have hp:(2:Int) ^ j<2 ^ 63:=by exact_mod_cast Nat.pow_lt_pow_right (by decide) hj
 have hp0:(0:Int)<2 ^ j:=by exact_mod_cast Nat.two_pow_pos j
 have h1:=Int.emod_nonneg x (show(2:Int) ^ j≠0 by omega);have h2:=Int.emod_lt_of_pos x hp0;show IntKind.u64.wrap ((BitVec.ofInt 64 x &&& BitVec.ofInt 64 ((2:Int) ^ j-1)).toNat:Int)=_
 rw[yN j hj,IntKind.wrap_u64];generalize (2:Int) ^ j=m at *;generalize x%m=y at *;omega
structure uF (n:Nat):Prop where
  pos:1<n
  le:n<=131072
  i64:∀x:Int,bits .and .i64 x ((n:Int)-1)=x%n
  u64:∀x:Int,bits .and .u64 x ((n:Int)-1)=x%n
theorem uF.mk' (j:Nat)(h0:1<=j)(h1:j<=17):uF (2 ^ j):=by
 have hp:2 ^ j<=2 ^ 17:=Nat.pow_le_pow_right (by decide) h1;have hp0:2 ^ 1<=2 ^ j:=Nat.pow_le_pow_right (by decide) h0;refine⟨by omega,by omega,fun x=>?_,fun x=>?_⟩
 · have:=aHO j (by omega) x;simpa using this
 · have:=aBR j (by omega) x;simpa using this
def mix1(id:Int):Int:=IntKind.u64.wrap (bits BinOp.xor IntKind.u64 id (id/8589934592)*18397679294719823053)
def mix2(x:Int):Int:=IntKind.u64.wrap (bits BinOp.xor IntKind.u64 x (x/8589934592)*14181476777654086739)
def mix3(y:Int):Int:=bits BinOp.xor IntKind.u64 y (y/8589934592)
def hsh(id:Int):Int:=mix3 (mix2 (mix1 id))
def hm(n:Nat)(id:Nat):Nat:=(hsh id%n).toNat
theorem sE{n:Nat}(h:0<n)(id:Nat):hm n id<n:=by
 unfold hm;have:=Int.emod_lt_of_pos (hsh id) (show(0:Int)<n by omega);have:=Int.emod_nonneg (hsh id) (show(n:Int)≠0 by omega);omega
theorem aLX{n:Nat}(h:0<n)(id:Nat):(hsh id%n)=(hm n id:Int):=by
 unfold hm;have:=Int.emod_nonneg (hsh id) (show(n:Int)≠0 by omega);omega
theorem aBS(pt g n cap:Nat)(id:Nat)(w:World)(h3:w.cell? ⟨pt,3,none⟩=some (.slice (some ⟨g,0,none⟩) n cap))(_h1:id<18446744073709551616)(hM:uF n):
    Calls Tryz.prog 222 #[.pointer (some ⟨pt,0,none⟩),.int .u64 id] w fun e w' =>e=.returned (.int .i64 (hm n id))/\w=w' :=by
 have hn:=hM.pos;have hn2:=hM.le;have hu:=hM.u64;have hw:∀x:Int,wrap64 (x%n)=x%n:=fun x=>by
   have h1:=Int.emod_lt_of_pos x (show(0:Int)<n by omega);have h2:=Int.emod_nonneg x (show(n:Int)≠0 by omega);exact IntWalk.wrap64_in _ ⟨by omega,by omega⟩
 go_enter Tryz.func222,Tryz.ntmps222
 go_wp2
 go_ret;refine⟨aDM (k:=.i64) ?_,rfl⟩;rw[<-aLX (by omega)];unfold hsh mix3 mix2 mix1;first|exact hw _|exact rfl
end Go.Proofs.YtjdgpcjbgjnahaaGreatDoor
