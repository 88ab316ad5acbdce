/- The document's window: Copy. -/
import Derived.Test.YtjdgpcjbgjnahaaGreatDoorF16
import Derived.Test.YtjdgpcjbgjnahaaGreatDoorF4
import Derived.Test.YtjdgpcjbgjnahaaGreatDoorF17
import Derived.Test.YtjdgpcjbgjnahaaGreatDoorF13
import Derived.Laws.CopyRow
import Derived.Test.YtjdgpcjbgjnahaaGreatDoorF1
import Derived.Test.YtjdgpcjbgjnahaaGreatDoorF15
import Derived.Test.YtjdgpcjbgjnahaaGreatDoorF11
import Derived.Test.YtjdgpcjbgjnahaaGreatDoorF14
import Derived.Deep.CutBlock
set_option maxRecDepth 10000
set_option maxHeartbeats 4000000
set_option linter.unusedSimpArgs false
set_option linter.unusedVariables false
/- The document's window: rows of edges that are made within a region that draws its order. -/
namespace Go.Proofs.YtjdgpcjbgjnahaaGreatDoor
open Go.RowKit
theorem aQL{w:World}{v x:Value}{l m:List Lv}(hv:bH w v l)(hx:bH w x m)(hn:l.length+m.length<=65536)(ty:TypeId):
    ∃v' w', (Builtin.append_ #[59,59] ty #[v,x]).run Tryz.prog w=.ok v' w' /\ bH w' v' (l++m)/\Fr v.ownBlock.toList w w' /\ ∀q,v'.ownBlock=some q->v.ownBlock=some q∨w.heap.size<=q:=by
 obtain⟨i0,hi,hz0,hz1,hz2⟩:=info_parts Tryz.info74;have hx' :=hx;have hxl:=hx.1;rcases hx.2 with⟨rfl,h0⟩|⟨gx,cap,cur,rfl,_,hgx,hnc,hcm,hcs,htake⟩
 {
 obtain rfl:m=[]:=List.eq_nil_of_length_eq_zero h0;refine⟨v,w,run_append_owned_none w 0 59 ty 74 i0 7 Tryz.underlying59 hi v l.length (rowV l) hv,by rw[List.append_nil];exact hv,Fr.refl _ _,fun q e=>.inl e⟩}
 {
 obtain⟨v', w', hr,h2,h3,_,h5⟩:=run_append_own_at (P:=Tryz.prog) w 0 59 ty 74 i0 oY 7 56 Tryz.underlying59 hi hz0 hz1 hz2 rfl (by decide) v l.length (rowV l) hv ⟨gx,0,none⟩ m.length cap (rowV m) (mK m) (hx'.cells (g:=gx) rfl) (uY m) (by unfold maxLen;omega) (by omega) (qT _);refine⟨v', w', hr,?_,⟨h3.os,h3.tape,h3.output,h3.size,fun k hk hm=>h3.block k hk (fun e=>hm (by simp[e]))⟩,fun q hq=>?_⟩
 {
 unfold bH;rw[zG,aMQ];exact h2}
 {
 rcases h5 with h5|h5
 · rw[<-h5];exact .inl hq
 · rw[hq]at h5;simp at h5;exact .inr (by omega)}}
theorem aQM{w:World}{o:Oper}{a:Act}{K:Value->World->Prop}(s x:Operand)
    (ho:o.op=.call { callee:=.builtin .append,args:=#[s,x],argTypes:=#[59,59] }) {v y:Value} {l m:List Lv} (hs:a.eval s=v) (hx:a.eval x=y) (hv:bH w v l) (hy:bH w y m) (hn:l.length+m.length<=65536)
    (h:∀v' w', bH w' v' (l++m)->Fr v.ownBlock.toList w w' -> (∀q,v'.ownBlock=some q->v.ownBlock=some q∨w.heap.size<=q)->K v' w'):gM Tryz.prog K ((execOp a.eval o).run Tryz.prog w):=by
 obtain⟨v', w', hr,h1,h2,h3⟩:=aQL hv hy hn o.type;unfold execOp;simp only[ho,resolve,invoke,builtin,Sem.run_bind,Sem.run_pure,Result.andThen_ok,List.map_toArray,List.map_cons,List.map_nil,hs,hx,hr];exact h v' w' h1 h2 h3
theorem bH.mt(w:World):bH (w.alloc (.cells #[] 74)) (.slice (some ⟨w.heap.size,0,none⟩) 0 0) []:=
  ⟨by simp[rowV],.inr ⟨w.heap.size,0,#[],rfl,qT _,Blk.new w [] 74,qK _,qT _,by simp,by simp[rowV]⟩⟩
theorem bH.one(w:World)(x:Lv):bH (w.alloc (.cells (lvC x).toArray 74)) (.slice (some ⟨w.heap.size,0,none⟩) 1 1) [x]:=
  ⟨by simp[rowV,lvC],.inr ⟨w.heap.size,1,(lvC x).toArray,rfl,qT _,Blk.new w (lvC x) 74,qK _,by decide,by simp[lvC],by simp[rowV,lvC]⟩⟩
def nJ(w0 w:World)(f:Nat->Value)(g:Nat->Option (List Lv)):Prop:=
  Fr [] w0 w/\(∀k c,g k=some c->bH w (f k) c/\∀q,(f k).ownBlock=some q->w0.heap.size<=q) /\
    ∀j k c d,j≠k->g j=some c->g k=some d->∀q,(f j).ownBlock=some q->(f k).ownBlock≠some q
section
variable {w0 w w' :World} {f:Nat->Value} {g g' :Nat->Option (List Lv)} {i:Nat} {v:Value} {c:List Lv}
theorem nJ.pass(h:nJ w0 w f g)(hf:Fr [] w w')(hg:∀k c,g' k=some c->k≠i/\g k=some c):nJ w0 w' (cP f i v) g' :=by
 obtain⟨h1,h2,h3⟩:=h;refine⟨h1.trans' hf,fun k c hk=>?_,fun j k c d hjk hj hk=>?_⟩
 {
 obtain⟨k1,k2⟩:=hg k c hk;rw[aJ _ _ k1];exact⟨(h2 k c k2).1.fr0 hf,(h2 k c k2).2⟩}
 {
 obtain⟨j1,j2⟩:=hg j c hj;obtain⟨k1,k2⟩:=hg k d hk;rw[aJ _ _ j1,aJ _ _ k1];exact h3 j k c d hjk j2 k2}
theorem nJ.new(h:nJ w0 w f g)(hf:Fr [] w w')(hr:bH w' v c)(ho:∀q,v.ownBlock=some q->w.heap.size<=q)
    (hg:∀k c', g' k=some c' -> (k=i/\c' =c)∨(k≠i/\g k=some c')):nJ w0 w' (cP f i v) g' :=by
 obtain⟨h1,h2,h3⟩:=h;have hs:=h1.size;have hlt:∀{k d q},g k=some d->(f k).ownBlock=some q->q<w.heap.size:=fun hk hq=>(h2 _ _ hk).1.lt hq;refine⟨h1.trans' hf,fun k c' hk=>?_,fun j k c' d hjk hj hk q hqj hqk=>?_⟩
 {
 rcases hg k c' hk with⟨rfl,rfl⟩|⟨k1,k2⟩
 · rw[dB];exact⟨hr,fun q hq=>zI hs (ho q hq)⟩
 · rw[aJ _ _ k1];exact⟨(h2 k c' k2).1.fr0 hf,(h2 k c' k2).2⟩}
 {
 rcases hg j c' hj with⟨rfl,rfl⟩|⟨j1,j2⟩
 {
 rcases hg k d hk with⟨rfl,rfl⟩|⟨k1,k2⟩
 · exact hjk rfl
 {
 rw[dB]at hqj;rw[aJ _ _ k1]at hqk;have:=ho q hqj;have:=hlt k2 hqk;omega}}
 {
 rcases hg k d hk with⟨rfl,rfl⟩|⟨k1,k2⟩
 {
 rw[dB]at hqk;rw[aJ _ _ j1]at hqj;have:=ho q hqk;have:=hlt j2 hqj;omega}
 {
 rw[aJ _ _ j1]at hqj;rw[aJ _ _ k1]at hqk;exact h3 j k c' d hjk j2 k2 q hqj hqk}}}
theorem nJ.app{j0:Nat}{l:List Lv}(h:nJ w0 w f g)(hj:g j0=some l)(hf:Fr (f j0).ownBlock.toList w w')(hr:bH w' v c)(ho:∀q,v.ownBlock=some q->(f j0).ownBlock=some q∨w.heap.size<=q)
    (hg:∀k c', g' k=some c' -> (k=i/\c' =c)∨(k≠i/\k≠j0/\g k=some c')):nJ w0 w' (cP f i v) g' :=by
 obtain⟨h1,h2,h3⟩:=h;have hs:=h1.size;have hlt:∀{k d q},g k=some d->(f k).ownBlock=some q->q<w.heap.size:=fun hk hq=>(h2 _ _ hk).1.lt hq;refine⟨h1.trans hf (fun b hb=>.inr ((h2 j0 l hj).2 b (by simpa using hb))),fun k c' hk=>?_,fun j k c' d hjk hj' hk q hqj hqk=>?_⟩
 {
 rcases hg k c' hk with⟨rfl,rfl⟩|⟨k1,k3,k2⟩
 {
 rw[dB];exact⟨hr,fun q hq=>(ho q hq).elim (fun e=>(h2 j0 l hj).2 q e) (fun e=>zI hs e)⟩}
 {
 rw[aJ _ _ k1];exact⟨(h2 k c' k2).1.fr hf (fun q hq hm=>h3 k j0 c' l k3 k2 hj q hq (by simpa using hm)),(h2 k c' k2).2⟩}}
 {
 rcases hg j c' hj' with⟨rfl,rfl⟩|⟨j1,j3,j2⟩
 {
 rcases hg k d hk with⟨rfl,rfl⟩|⟨k1,k3,k2⟩
 · exact hjk rfl
 {
 rw[dB]at hqj;rw[aJ _ _ k1]at hqk;rcases ho q hqj with e|e
 · exact h3 k j0 d l k3 k2 hj q hqk e
 · have:=hlt k2 hqk;omega}}
 {
 rcases hg k d hk with⟨rfl,rfl⟩|⟨k1,k3,k2⟩
 {
 rw[dB]at hqk;rw[aJ _ _ j1]at hqj;rcases ho q hqk with e|e
 · exact h3 j j0 c' l j3 j2 hj q hqj e
 · have:=hlt j2 hqj;omega}
 {
 rw[aJ _ _ j1]at hqj;rw[aJ _ _ k1]at hqk;exact h3 j k c' d hjk j2 k2 q hqj hqk}}}
end
def lP(G:Nat->Value->Prop)(g:(Nat->Bool)->Nat->Option (List Lv))(w0:World)(f:Nat->Value)(L:Nat->Bool)(w:World):Prop:=(∀k,L k=true->G k (f k))/\nJ w0 w f (g L)
section
variable {G:Nat->Value->Prop} {g:(Nat->Bool)->Nat->Option (List Lv)} {w0 w w' :World} {f:Nat->Value} {L:Nat->Bool} {i:Nat} {v:Value} {c:List Lv}
theorem aQN(h:∀k,L k=true->G k (f k))(hG:G i v):∀k,cP L i true k=true->G k (cP f i v k):=fun k hk=>by
 by_cases e:k=i
 · subst e;rw[dB];exact hG
 · rw[aJ _ _ e]at hk ⊢;exact h k hk
theorem lP.pass(h:lP G g w0 f L w)(hG:G i v)(hf:Fr [] w w')(hg:∀k c,g (cP L i true) k=some c->k≠i/\g L k=some c):lP G g w0 (cP f i v) (cP L i true) w' :=⟨aQN h.1 hG,h.2.pass hf hg⟩
theorem lP.new(h:lP G g w0 f L w)(hG:G i v)(hf:Fr [] w w')(hr:bH w' v c)(ho:∀q,v.ownBlock=some q->w.heap.size<=q)
    (hg:∀k c', g (cP L i true) k=some c' -> (k=i/\c' =c)∨(k≠i/\g L k=some c')):lP G g w0 (cP f i v) (cP L i true) w' :=⟨aQN h.1 hG,h.2.new hf hr ho hg⟩
theorem lP.app{j0:Nat}{l:List Lv}(h:lP G g w0 f L w)(hG:G i v)(hj:g L j0=some l)(hf:Fr (f j0).ownBlock.toList w w')(hr:bH w' v c)(ho:∀q,v.ownBlock=some q->(f j0).ownBlock=some q∨w.heap.size<=q)
    (hg:∀k c', g (cP L i true) k=some c' -> (k=i/\c' =c)∨(k≠i/\k≠j0/\g L k=some c')):lP G g w0 (cP f i v) (cP L i true) w' :=⟨aQN h.1 hG,h.2.app hj hf hr ho hg⟩
theorem lP.row(h:lP G g w0 f L w){k:Nat}(hk:g L k=some c):bH w (f k) c:=(h.2.2.1 k c hk).1
theorem lP.fr(h:lP G g w0 f L w):Fr [] w0 w:=h.2.1
end
theorem cQ{md:Region.Mode}{o:Oper}{L:Nat->Bool}(h:∀j∈iO md o,L j=true)(j:Nat)(hj:(iO md o).contains j=true):L j=true:=h j (by simpa using hj)
theorem lP.start{G:Nat->Value->Prop}{g:(Nat->Bool)->Nat->Option (List Lv)}(w:World)(h:∀k,g (fun _=>false) k=none):lP G g w (fun _=>undef) (fun _=>false) w.drew:=
  ⟨fun k hk=>(by cases hk),show nJ w w.drew _ _ from⟨(Fr.refl [] w).drew,fun k c hk=>(by rw[h k]at hk;cases hk),fun j k c d _ hj=>(by rw[h j]at hj;cases hj)⟩⟩
theorem cR{b:Act}{d:Nat}{v:Value}(h:b.tmps[d]? =some v):∀h:d<b.tmps.size,b.tmps[d]'h=v:=fun hd=>by rw[Array.getElem?_eq_getElem hd]at h;exact Option.some.inj h
theorem aBQ{b:Act}{d:Nat}{v:Value}(h:b.tmps[d]? =some v):b.eval (.tmp d)=v:=by simp[Act.eval,h]
theorem aQO{n len cap:Nat}:∀q,(Value.slice (some ⟨n,0,none⟩) len cap).ownBlock=some q->n<=q:=fun q hq=>by
 simp[Value.ownBlock]at hq;omega
def Clo(ops:Array Oper)(L:Nat->Bool):Prop:=∀k o,ops[k]? =some o->L k=true->∀j∈iO .any o,L j=true
def aUN(ops:Array Oper)(I:(Nat->Value)->(Nat->Bool)->World->Prop)(f:Nat->Value)(L:Nat->Bool)(w:World):Prop:=Clo ops L/\I f L w
def aHE(ops:Array Oper):Nat->Nat->List Nat
  | 0,k=>[k]
  | n+1,k=>k::match ops[k]? with|none=>[]|some o=>(iO .any o).flatMap (aHE ops n)
theorem Clo.reach{ops:Array Oper}{L:Nat->Bool}(h:Clo ops L):∀n k,L k=true->∀j∈aHE ops n k,L j=true
  | 0,k,hk,j,hj=>by rw[qH.1 hj];exact hk
  | n+1,k,hk,j,hj=>by
    rcases qB.1 hj with rfl|hj
    · exact hk
    · cases ho:ops[k]? with
      | none=>rw[ho]at hj;cases hj
      | some o=>
        rw[ho]at hj;obtain⟨i,hi,hj⟩:=List.mem_flatMap.1 hj;exact h.reach n i (h k o ho hk i hi) j hj
theorem Clo.none{ops:Array Oper}:Clo ops fun _=>false:=fun _ _ _ h=>(by cases h)
theorem Clo.step{ops:Array Oper}{L:Nat->Bool}(h:Clo ops L){k:Nat}{o:Oper}(ho:ops[k]? =some o)(hd:∀j∈iO .any o,L j=true):Clo ops (cP L k true):=fun i o' ho' hi j hj=>by
 have up:∀m,L m=true->cP L k true m=true:=fun m hm=>by
   by_cases e:m=k
   · subst e;exact dB ..
   · rw[aJ _ _ e];exact hm
 by_cases e:i=k
 {
 subst e;obtain rfl:=Option.some.inj (ho.symm.trans ho');exact up _ (hd j hj)}
 {
 rw[aJ _ _ e]at hi;exact up _ (h i o' ho' hi j hj)}
theorem rU{P:Program}{K K' :Value->World->Prop}(h:∀v w,K v w->K' v w){r:Result Go.Next}(hr:gM P K r):gM P K' r:=by
 cases r with
 | halt x w' =>exact hr.elim
 | ok x w' =>{
 cases x with
 | value u=>exact h _ _ hr
 | skip=>exact h _ _ hr
 | enter f args=>exact Calls.mono hr fun e w'' ⟨v,he,hw''⟩=>⟨v,he,h _ _ hw''⟩
 | _=>exact hr.elim}
theorem bX{P:Program}{ops:Array Oper}{I:(Nat->Value)->(Nat->Bool)->World->Prop}{f:Nat->Value}{k:Nat}{o:Oper}{a:Act}(ho:ops[k]? =some o)(hg:o.guard=none)
    (h:∀L w,Clo ops L->(∀j∈iO .any o,L j=true)->L k=false->I f L w->gM P (fun v w' =>I (cP f k v) (cP L k true) w') ((execOp a.eval o).run P w)):tL P ops .any (aUN ops I) f k o a:=
  aEP hg fun L w hd hn hI=>rU (fun _ _ hk=>⟨hI.1.step ho hd,hk⟩) (h L w hI.1 hd hn hI.2)
theorem tM{P:Program}{id:Nat}{Q:Exit->Act->World->Prop}{a:Act}{w:World}{l:List Oper}(I:(Nat->Value)->(Nat->Bool)->World->Prop)(hm:P.follows .mixedOrders=true)(hB:aPX .any l.toArray=true)
    (h0:I (fun _=>undef) (fun _=>false) w.drew) (hstep:∀f,sT P l.toArray .any (aUN l.toArray I) f a 0 l)
    (hend:∀f L w', (∀k,k<l.length->L k=true)->I f L w' -> Q .normal (aGZ f 0 l a) w'):(Code.region id l.toArray true).wp P Q a w:=
  aEO (aUN l.toArray I) hm hB ⟨Clo.none,h0⟩ hstep fun f L w' hL hI=>hend f L w' hL hI.2
section
variable {W w:World} {ts:List Th}
theorem Hs.under43{n:Nat}{t:Th}{us:List Th}{K:List Nat}(h:Hs n w (t::ts) K)(hu:∀K,Hs n w ts K->∃K', Hs n w us K' /\ ∀q∈K', q∈K):∃K', Hs n w (t::us) K' /\ ∀q∈K', q∈K:=by
 obtain⟨K1,K2,h2,h3,h4,h5,rfl⟩:=h;obtain⟨K', k1,k2⟩:=hu K2 h4;exact⟨K1++K', ⟨K1,K', h2,h3,k1,fun q hq hm=>h5 q hq (k2 q hm),rfl⟩,fun q hq=>(qE.1 hq).elim (fun e=>qE.2 (.inl e)) (fun e=>qE.2 (.inr (k2 q e)))⟩
theorem Wd.fourth43{a b c d:Th}(h:Wd W w (a::b::c::d::ts)):Wd W w (d::a::b::c::ts):=
  (h.under fun _ hk=>by
 obtain⟨K1,k1,k2⟩:=Hs.under43 hk (fun _ hj=>Hs.swap hj);obtain⟨K2,k3,k4⟩:=Hs.swap k1;exact⟨K2,k3,fun q hq=>k2 q (k4 q hq)⟩).swap
end
theorem Wd.over{W w:World}{ts:List Th}{b cb n i:Nat}{l cs:List Nat}(h:Wd W w (thY (.slice (some ⟨b,0,none⟩) n cb) l::ts))(hn:l.length=n)(hi:i+cs.length<=n):
    ∃cur:Array Value,w.heap[b]? =some (.cells cur 5 (0,0))/\n<=cur.size/\Wd W (w.setRow b (cur.toList.take i++aS cs++cur.toList.drop (i+cs.length)).toArray) (thY (.slice (some ⟨b,0,none⟩) n cb) (l.take i++(cs++l.drop (i+cs.length)))::ts):=by
 obtain⟨K,⟨hv,rfl⟩,hs⟩:=h.open;obtain⟨h1,h2⟩:=hv;rcases h2 with⟨e,_⟩|⟨g', cap', cur,e,_,hh,hnc,hm,hsz,hxs⟩
 · cases e
 {
 simp only[qP,qJ,Addr.mk.injEq,and_true]at e;obtain⟨rfl,_,rfl⟩:=e;have hc8:(aS cs).length=cs.length:=by rw[gC,Nat.mul_one]
 have hcur:n<=cur.toList.length:=by rw[Array.length_toList];omega
 rw[hn,Nat.mul_one]at hxs;have hpl:(l.take i++(cs++l.drop (i+cs.length))).length=n:=by rw[zG,zG,List.length_take,List.length_drop];omega
 refine⟨cur,hh,by rw[Array.length_toList]at hcur;exact hcur,hs ⟨_,⟨?_,rfl⟩,⟨rfl,rfl,rfl,by simp[World.setRow],fun k hk hne=>setRow_other w b k _ (by simpa[Value.ownBlock] using hne)⟩,fun q hq=>.inl hq⟩⟩;unfold dF;rw[hpl];refine⟨by rw[gC,hpl],.inr ⟨b,cb,_,rfl,qT _,setRow_heap w b cur _ 5 (0,0) hh,by omega,hm,?_,?_⟩⟩
 · rw[List.size_toArray,zG,zG,List.length_take,List.length_drop,hc8,<-hsz,<-Array.length_toList];omega
 {
 have e1:aS (l.take i)=cur.toList.take i:=by rw[show aS (l.take i)=(aS l).take i by unfold aS;rw[List.map_take],<-hxs,List.take_take,Nat.min_eq_left (by omega)]
 have e2:aS (l.drop (i+cs.length))=(cur.toList.drop (i+cs.length)).take (n-(i+cs.length)):=by rw[show aS (l.drop (i+cs.length))=(aS l).drop (i+cs.length) by unfold aS;rw[List.map_drop],<-hxs,List.drop_take]
 have hl:(cur.toList.take i++aS cs).length=i+cs.length:=by rw[zG,List.length_take,hc8];omega
 rw[jF,jF,e1,e2,<-List.append_assoc,Nat.mul_one];show(cur.toList.take i++aS cs++cur.toList.drop (i+cs.length)).take n=_
 rw[List.take_append,hl,List.take_of_length_le (by rw[hl];omega)]}}
theorem aUO{W w:World}{ts:List Th}{g n cb m c:Nat}{ax:Option Addr}{l ns:List Nat}(h:Wd W w (thY (.slice (some ⟨g,0,none⟩) n cb) l::ts))(hn:l.length=n)(hr:RdB w ax ns)(hm:ns.length=m)(hle:m<=n):
    ∃w', (∀ty,(Builtin.copy_ #[22,22] ty #[.slice (some ⟨g,0,none⟩) n cb,.slice ax m c]).run Tryz.prog w=.ok (goInt m) w')/\Wd W w' (thY (.slice (some ⟨g,0,none⟩) n cb) (ns++l.drop m)::ts):=by
 by_cases h0:m=0
 {
 subst h0;obtain rfl:ns=[]:=List.eq_nil_of_length_eq_zero hm;exact⟨w,fun ty=>run_copy_none (P:=Tryz.prog) w 22 22 ty 5 _ _ _ _ _ _ Tryz.underlying22 (by kernel_rfl) (Nat.zero_min n),h⟩}
 {
 obtain⟨b0,off,rfl,_,_⟩:=hr 0 (by omega);obtain⟨cur,hh,hnc,hW⟩:=h.over (i:=0) (cs:=ns) hn (by omega);have hc8:(aS ns).length=m:=by rw[gC,Nat.mul_one,hm]
 have hrun:=fun ty=>run_copy_row (P:=Tryz.prog) w 22 22 ty 5 g 0 n cb ⟨b0,off,none⟩ m c cur 5 (aS ns) Tryz.underlying22 (by kernel_rfl) hh (by rw[hc8];exact(Nat.min_eq_left hle).symm) hr.cells (by rw[hc8];omega) (aBX _);rw[hc8]at hrun;rw[hm,Nat.zero_add]at hW;rw[Nat.zero_add]at hrun;exact⟨_,hrun,hW⟩}
theorem pP{W w:World}{ts:List Th}{g n cb m c:Nat}{ax:Option Addr}{l ns:List Nat}(h:Wd W w (thY (.slice (some ⟨g,0,none⟩) n cb) l::ts)){ops:Array Oper}{rest:List Oper}{o:Oper}{a:Act}{Q:Exit->Act->World->Prop}(hgd:o.guard=none)(d s:Operand)
    (ho:o.op=.call { callee:=.builtin .copy,args:=#[d,s],argTypes:=#[22,22] }) (hd:a.eval d=.slice (some ⟨g,0,none⟩) n cb) (hs:a.eval s=.slice ax m c) (hn:l.length=n) (hr:RdB w ax ns) (hm:ns.length=m) (hle:m<=n)
    (k:∀w', Wd W w' (thY (.slice (some ⟨g,0,none⟩) n cb) (ns++l.drop m)::ts)->wpList Tryz.prog ops Q rest (a.put o.dst (goInt m)) w'):wpList Tryz.prog ops Q (o::rest) a w:=by
 refine wpList_plain hgd fun K hK=>?_;obtain⟨w', hr2,h2⟩:=aUO (c:=c) h hn hr hm hle;unfold Oper.wp execOp;simp only[ho,resolve,invoke,builtin,Sem.run_bind,Sem.run_pure,Result.andThen_ok,List.map_toArray,List.map_cons,List.map_nil,hd,hs,hr2];exact hK _ _ (k w' h2)
def fD(n:Nat):List Nat:=List.replicate n 0
theorem dG(n:Nat):(fD n).length=n:=List.length_replicate
theorem sU(n:Nat):Byt (fD n):=fun b hb=>by rw[List.eq_of_mem_replicate hb];decide
theorem aHF(n:Nat):madeCells (Value.int .u8 0).cells n=(aS (fD n)).toArray:=by
 apply Array.ext
 · simp[madeCells,aS,fD]
 {
 intro i h1 h2;simp[madeCells,aS,fD,Value.cells,Nat.mod_one]}
theorem nZ(n:Nat)(w:World)(hn:n<=1048576):(Instr.makeSlice 22 (.int .i64 n) (.int .i64 n)).run Tryz.prog w=.ok (.slice (some ⟨w.heap.size,0,none⟩) n n) (w.alloc (.cells (aS (fD n)).toArray 5)):=by
 obtain⟨i0,hi,hz0,hz1,hz2⟩:=info_parts Tryz.info5;have h:=run_make (P:=Tryz.prog) w 22 5 i0 (.int .u8 0) Tryz.underlying22 hi hz0 .i64 .i64 n n (by omega) (by omega) (by rw[hz2];omega) (by omega);rw[hz1]at h;simp only[zE,Nat.mul_one]at h;rw[aHF]at h;exact h
theorem dF.made{w:World}{g n:Nat}(h:Blk w g 5 (aS (fD n)))(hn:n<=1048576):dF w (.slice (some ⟨g,0,none⟩) n n) (fD n):=by
 have hl:(aS (fD n)).length=n:=by rw[gC,dG,Nat.mul_one]
 refine⟨by rw[gC],.inr ⟨g,n,_,by rw[dG],qT _,h,by rw[dG];exact qK _,by unfold maxLen;omega,by simp[hl],?_⟩⟩;rw[dG,Nat.mul_one];exact List.take_of_length_le (by rw[hl];exact qK _)
def ZrB(n:Nat)(w0 w:World)(v:Value):Prop:=∃g,v=.slice (some ⟨g,0,none⟩) n n/\Blk w g 5 (aS (fD n))/\w0.heap.size<=g
def pQ(k:Nat):Prop:=k=1∨k=3∨k=5∨k=7
def ev8(k:Nat):Prop:=k=0∨k=2∨k=4∨k=6
def Mk4(n:Nat)(w0:World)(f:Nat->Value)(L:Nat->Bool)(w:World):Prop:=
  Fr [] w0 w/\(∀k,L k=true->ev8 k->f k=.int .i64 n)/\(∀k,L k=true->pQ k->ZrB n w0 w (f k))/\(∀j k,pQ j->pQ k->j≠k->L j=true->L k=true->(f j).ownBlock≠(f k).ownBlock) /\
    ∀k,L k=true->8<=k->L (2*(k-8)+1)=true/\f k=f (2*(k-8)+1)
section
variable {n i:Nat} {w0 w w' :World} {f:Nat->Value} {L:Nat->Bool} {v:Value}
theorem Mk4.start(w:World):Mk4 n w (fun _=>undef) (fun _=>false) w.drew:=
  ⟨(Fr.refl [] w).drew,fun _ h=>by(cases h),fun _ h=>by(cases h),fun _ _ _ _ _ h=>by(cases h),fun _ h=>by(cases h)⟩
theorem Mk4.num(h:Mk4 n w0 f L w)(hi:ev8 i)(hL:L i=false):Mk4 n w0 (cP f i (.int .i64 n)) (cP L i true) w:=by
 obtain⟨h1,h2,h3,h4,h5⟩:=h;have no:∀k,pQ k->k≠i:=fun k hk e=>by unfold pQ at hk;unfold ev8 at hi;omega
 refine⟨h1,fun k hk he=>?_,fun k hk ho=>?_,fun j k hj hk hjk lj lk=>?_,fun k hk h8=>?_⟩
 {
 by_cases e:k=i
 · subst e;rw[dB]
 · rw[aJ _ _ e]at hk ⊢;exact h2 k hk he}
 · rw[aJ _ _ (no k ho)]at hk ⊢;exact h3 k hk ho
 · rw[aJ _ _ (no j hj)]at lj ⊢;rw[aJ _ _ (no k hk)]at lk ⊢;exact h4 j k hj hk hjk lj lk
 {
 have e1:k≠i:=fun e=>by unfold ev8 at hi;omega
 have e2:2*(k-8)+1≠i:=fun e=>by unfold ev8 at hi;omega
 rw[aJ _ _ e1]at hk;rw[aJ _ _ e2,aJ _ _ e1,aJ _ _ e2];exact h5 k hk h8}
theorem Mk4.made(h:Mk4 n w0 f L w)(hi:pQ i)(hL:L i=false):Mk4 n w0 (cP f i (.slice (some ⟨w.heap.size,0,none⟩) n n)) (cP L i true) (w.alloc (.cells (aS (fD n)).toArray 5)):=by
 obtain⟨h1,h2,h3,h4,h5⟩:=h;have hF:Fr [] w (w.alloc (.cells (aS (fD n)).toArray 5)):=(Fr.refl [] w).alloc _;have old:∀k,L k=true->pQ k->∀q,(f k).ownBlock=some q->q<w.heap.size:=fun k hk ho q hq=>by
   obtain⟨g,e,hb,_⟩:=h3 k hk ho;rw[e]at hq;simp only[Value.ownBlock,qJ]at hq;rw[<-hq];exact hb.lt
 refine⟨h1.trans' hF,fun k hk he=>?_,fun k hk ho=>?_,fun j k hj hk hjk lj lk=>?_,fun k hk h8=>?_⟩
 {
 have e:k≠i:=fun e=>by unfold ev8 at he;unfold pQ at hi;omega
 rw[aJ _ _ e]at hk ⊢;exact h2 k hk he}
 {
 by_cases e:k=i
 · subst e;rw[dB];exact⟨_,rfl,Blk.new w _ _,h1.size⟩
 {
 rw[aJ _ _ e]at hk ⊢;obtain⟨g,e1,hb,hg⟩:=h3 k hk ho;exact⟨g,e1,hF.blk hb (by simp),hg⟩}}
 {
 by_cases ej:j=i
 {
 subst ej;have ek:k≠j:=fun e=>hjk e.symm;rw[aJ _ _ ek]at lk ⊢;rw[dB];intro e;have:=old k lk hk w.heap.size e.symm;omega}
 {
 rw[aJ _ _ ej]at lj ⊢;by_cases ek:k=i
 {
 subst ek;rw[dB];intro e;have:=old j lj hj w.heap.size e;omega}
 {
 rw[aJ _ _ ek]at lk ⊢;exact h4 j k hj hk hjk lj lk}}}
 {
 have e1:k≠i:=fun e=>by unfold pQ at hi;omega
 rw[aJ _ _ e1]at hk;obtain⟨h6,h7⟩:=h5 k hk h8;have e2:2*(k-8)+1≠i:=fun e=>by rw[e,hL]at h6;cases h6
 rw[aJ _ _ e2,aJ _ _ e1,aJ _ _ e2];exact⟨h6,h7⟩}
theorem Mk4.asg(h:Mk4 n w0 f L w)(hi:8<=i)(hd:L (2*(i-8)+1)=true)(h12:i<12):Mk4 n w0 (cP f i (f (2*(i-8)+1))) (cP L i true) w:=by
 obtain⟨h1,h2,h3,h4,h5⟩:=h;have no:∀k,k<8->k≠i:=fun k hk e=>by omega
 have o8:∀k,pQ k->k<8:=fun k hk=>by unfold pQ at hk;omega
 refine⟨h1,fun k hk he=>?_,fun k hk ho=>?_,fun j k hj hk hjk lj lk=>?_,fun k hk h8=>?_⟩
 · rw[aJ _ _ (no k (by unfold ev8 at he;omega))]at hk ⊢;exact h2 k hk he
 · rw[aJ _ _ (no k (o8 k ho))]at hk ⊢;exact h3 k hk ho
 · rw[aJ _ _ (no j (o8 j hj))]at lj ⊢;rw[aJ _ _ (no k (o8 k hk))]at lk ⊢;exact h4 j k hj hk hjk lj lk
 {
 by_cases e:k=i
 {
 subst e;rw[dB,aJ _ _ (no _ (by omega)),aJ _ _ (no _ (by omega))];exact⟨hd,rfl⟩}
 {
 rw[aJ _ _ e]at hk;obtain⟨h6,h7⟩:=h5 k hk h8;by_cases e2:2*(k-8)+1=i
 {
 rw[e2,dB,dB,aJ _ _ e];refine⟨rfl,?_⟩;rw[h7,e2];have:=(h5 i (by rw[<-e2];exact h6) hi).2;exact this}
 · rw[aJ _ _ e2,aJ _ _ e,aJ _ _ e2];exact⟨h6,h7⟩}}
theorem Mk4.all{W:World}(h:Mk4 n w0 f L w)(hn:n<=1048576)(hW:Wd W w0 [])(hL:∀k,k<12->L k=true):
    ∃g1 g2 g3 g4,f 8=.slice (some ⟨g1,0,none⟩) n n/\f 9=.slice (some ⟨g2,0,none⟩) n n/\f 10=.slice (some ⟨g3,0,none⟩) n n/\f 11=.slice (some ⟨g4,0,none⟩) n n /\
      Wd W w [thY (.slice (some ⟨g1,0,none⟩) n n) (fD n),thY (.slice (some ⟨g2,0,none⟩) n n) (fD n),thY (.slice (some ⟨g3,0,none⟩) n n) (fD n),thY (.slice (some ⟨g4,0,none⟩) n n) (fD n)]:=by
 obtain⟨h1,_,h3,h4,h5⟩:=h;obtain⟨g1,e1,b1,k1⟩:=h3 1 (hL 1 (by decide)) (.inl rfl);obtain⟨g2,e2,b2,k2⟩:=h3 3 (hL 3 (by decide)) (.inr (.inl rfl));obtain⟨g3,e3,b3,k3⟩:=h3 5 (hL 5 (by decide)) (.inr (.inr (.inl rfl)));obtain⟨g4,e4,b4,k4⟩:=h3 7 (hL 7 (by decide)) (.inr (.inr (.inr rfl)));have d12:=h4 1 3 (.inl rfl) (.inr (.inl rfl)) (by decide) (hL 1 (by decide)) (hL 3 (by decide));have d13:=h4 1 5 (.inl rfl) (.inr (.inr (.inl rfl))) (by decide) (hL 1 (by decide)) (hL 5 (by decide));have d14:=h4 1 7 (.inl rfl) (.inr (.inr (.inr rfl))) (by decide) (hL 1 (by decide)) (hL 7 (by decide));have d23:=h4 3 5 (.inr (.inl rfl)) (.inr (.inr (.inl rfl))) (by decide) (hL 3 (by decide)) (hL 5 (by decide));have d24:=h4 3 7 (.inr (.inl rfl)) (.inr (.inr (.inr rfl))) (by decide) (hL 3 (by decide)) (hL 7 (by decide));have d34:=h4 5 7 (.inr (.inr (.inl rfl))) (.inr (.inr (.inr rfl))) (by decide) (hL 5 (by decide)) (hL 7 (by decide));have a8:=(h5 8 (hL 8 (by decide)) (by decide)).2;have a9:=(h5 9 (hL 9 (by decide)) (by decide)).2;have a10:=(h5 10 (hL 10 (by decide)) (by decide)).2;have a11:=(h5 11 (hL 11 (by decide)) (by decide)).2;simp only[e1,e2,e3,e4,Value.ownBlock,ne_eq,qJ]at d12 d13 d14 d23 d24 d34;have hs:=hW.frm.size;refine⟨g1,g2,g3,g4,a8.trans e1,a9.trans e2,a10.trans e3,a11.trans e4,hW.frm.trans' h1,_,[g1],_,⟨dF.made b1 hn,rfl⟩,?_,⟨[g2],_,⟨dF.made b2 hn,rfl⟩,?_,⟨[g3],_,⟨dF.made b3 hn,rfl⟩,?_,⟨[g4],[],⟨dF.made b4 hn,rfl⟩,?_,rfl,?_,rfl⟩,?_,rfl⟩,?_,rfl⟩,?_,rfl⟩<;>simp<;>omega
end
theorem oA{l m:List Nat}(h:l.length=m.length):(gB l m).length=m.length:=by unfold gB;rw[List.length_zipWith,h,Nat.min_self]
theorem wS:∀{l q:List Nat},Byt l->Byt q->Byt (gB l q)
  | [],_,_,_,b,hb=>by cases hb
  | _::_,[],_,_,b,hb=>by cases hb
  | a::l,x::q,hl,hq,b,hb=>by
    rcases qB.1 (show b∈(a ^^^ x)::gB l q from hb) with rfl|hb
    · exact aUH (hl a List.mem_cons_self) (hq x List.mem_cons_self)
    · exact wS (fun y hy=>hl y (List.mem_cons_of_mem _ hy)) (fun y hy=>hq y (List.mem_cons_of_mem _ hy)) b hb
theorem aLU{P:Program}{ops:Array Oper}{Q:Exit->Act->World->Prop}{a:Act}{w:World}{rest:List Oper}{o:Oper}(hw:Region.wanted o (yielded ops a.tmps)=true)
    (h:∀K:Act->World->Prop,(∀a w,wpList P ops Q rest a w->K a w)->o.wp P a w K Q):wpList P ops Q (o::rest) a w:=by
 unfold wpList;rw[qD hw];exact .inl (h _ fun _ _ h=>h)
theorem aBR{P:Program}{W w:World}{ts:List Th}{v:Value}{l ns:List Nat}(h:Wd W w (thY v l::ts)){ops:Array Oper}{rest:List Oper}{o:Oper}{a:Act}{Q:Exit->Act->World->Prop}(hw:Region.wanted o (yielded ops a.tmps)=true)(s x:Operand)(t:TypeId)
    (ho:o.op=.call { callee:=.builtin .append,args:=#[s,x],argTypes:=#[t,t] }) (z:Value) (ht:P.underlying t=some (.slice 5)) (hinfo:(P.info? 5).map (fun i=>(i.zero,i.size,i.bytes))=some (some z,1,1)) (hzs:z.cells.size=1)
    (ax:Option Addr) (m c:Nat) (hsv:a.eval s=v) (hx:a.eval x=.slice ax m c) (hr:RdB w ax ns) (hm:ns.length=m) (hc:ax=none->c=0) (hl:l.length+m<=1073741824)
    (k:∀v' w', Wd W w' (thY v' (l++ns)::ts)->wpList P ops Q rest (a.put o.dst v') w'):wpList P ops Q (o::rest) a w:=by
 obtain⟨i0,hi,hz0,hz1,hz2⟩:=info_parts hinfo;refine aLU hw fun K hK=>?_;obtain⟨v', w', hr2,h2⟩:=aEM (P:=P) h t o.type i0 z ht hi hz0 hz1 hz2 hzs ax m c hr hm hc hl;unfold Oper.wp execOp;simp only[ho,resolve,invoke,builtin,Sem.run_bind,Sem.run_pure,Result.andThen_ok,List.map_toArray,List.map_cons,List.map_nil,hsv,hx,hr2];exact hK _ _ (k v' w' h2)
theorem aQP{P:Program}(ts:Array TypeId)(t:TypeId)(x y z:Nat)(w:World):(Builtin.max_ ts t #[.int .i64 x,.int .i64 y,.int .i64 z]).run P w=.ok (.int .i64 (max (max x y) z:Nat)) w:=by
 have e:∀a b:Nat,(if (b:Int)>(a:Int) then(b:Int) else(a:Int))=((max a b:Nat):Int):=fun a b=>by split<;>omega
 simp only[Builtin.max_,List.foldlM,Builtin.max2,Sem.run_bind,Sem.run_pure,Result.andThen_ok,e]
theorem aLV(w:World)(a b c d:Nat){u1 u2 u3 u4:Int}(h1:u1=a)(h2:u2=b)(h3:u3=c)(h4:u4=d):RdB (w.alloc (.cells #[.int .u8 u1,.int .u8 u2,.int .u8 u3,.int .u8 u4] 5)) (some ⟨w.heap.size,0,none⟩) [a,b,c,d]:=fun i hi=>by
 subst h1 h2 h3 h4;refine⟨w.heap.size,0,rfl,by simp,?_⟩;have hb:=Blk.new w [.int .u8 (a:Int),.int .u8 (b:Int),.int .u8 (c:Int),.int .u8 (d:Int)] 5;have h0:=hb.cell 0;have h1:=hb.cell 1;have h2:=hb.cell 2;have h3:=hb.cell 3;simp only[zK,zL]at h0 h1 h2 h3;rw[Nat.zero_add];have:i=0∨i=1∨i=2∨i=3:=by simp at hi;omega
 rcases this with rfl|rfl|rfl|rfl<;>assumption
theorem aQQ{x:Nat}(hx:x<4294967296):x%256 ^^^ x/256%256*2 ^ 8 ^^^ x/65536%256*2 ^ 16 ^^^ x/16777216%256*2 ^ 24=x:=by
 apply Nat.eq_of_testBit_eq;intro i;rw[show(256:Nat)=2 ^ 8 by rfl,show(65536:Nat)=2 ^ 16 by rfl,show(16777216:Nat)=2 ^ 24 by rfl];simp only[Nat.testBit_xor,Nat.testBit_mul_two_pow,Nat.testBit_mod_two_pow,Nat.testBit_div_two_pow];by_cases h8:i<8
 · simp[h8,show ¬8<=i by omega,show ¬16<=i by omega,show ¬24<=i by omega]
 {
 by_cases h16:i<16
 · simp[h8,show 8<=i by omega,show ¬16<=i by omega,show ¬24<=i by omega,show i-8<8 by omega]
 {
 by_cases h24:i<24
 · simp[h8,show 8<=i by omega,show 16<=i by omega,show ¬24<=i by omega,show ¬i-8<8 by omega,show i-16<8 by omega]
 {
 by_cases h32:i<32
 · simp[h8,show 8<=i by omega,show 16<=i by omega,show 24<=i by omega,show ¬i-8<8 by omega,show ¬i-16<8 by omega,show i-24<8 by omega]
 {
 have hz:x.testBit i=false:=Nat.testBit_lt_two_pow (Nat.lt_of_lt_of_le hx (Nat.pow_le_pow_right (n:=2) (by decide) (show 32<=i by omega)));simp[h8,show ¬i-8<8 by omega,show ¬i-16<8 by omega,show ¬i-24<8 by omega,hz]}}}}
def xrT(n:Nat)(X Y Z:List Nat)(i:Nat):List Nat:=(gB (gB X Y) Z).take i++(fD n).drop i
section
variable {n i:Nat} {X Y Z:List Nat}
theorem aQR:xrT n X Y Z 0=fD n:=by unfold xrT;simp
theorem aBS(hX:X.length=n)(hY:Y.length=n)(hZ:Z.length=n):(gB (gB X Y) Z).length=n:=by rw[oA (by rw[oA (by rw[hX,hY]),hY,hZ]),hZ]
theorem aUP(hX:X.length=n)(hY:Y.length=n)(hZ:Z.length=n)(hi:i<=n):(xrT n X Y Z i).length=n:=by
 unfold xrT;rw[zG,List.length_take,List.length_drop,aBS hX hY hZ,dG];omega
theorem aUQ(hX:X.length=n)(hY:Y.length=n)(hZ:Z.length=n):xrT n X Y Z n=gB (gB X Y) Z:=by
 unfold xrT;rw[List.take_of_length_le (by rw[aBS hX hY hZ];exact qK _),List.drop_eq_nil_of_le (by rw[dG];exact qK _),List.append_nil]
theorem aUR(hX:X.length=n)(hY:Y.length=n)(hZ:Z.length=n)(hx:i<X.length)(hy:i<Y.length)(hz:i<Z.length):(xrT n X Y Z i).set i (X[i] ^^^ Y[i] ^^^ Z[i])=xrT n X Y Z (i+1):=by
 have hl:=aBS hX hY hZ;have h1:((gB (gB X Y) Z).take i).length=i:=by rw[List.length_take,hl];omega
 have h2:i<(fD n).length:=by rw[dG];omega
 have h3:(gB (gB X Y) Z)[i]? =some (X[i] ^^^ Y[i] ^^^ Z[i]):=by {
 unfold gB;rw[List.getElem?_zipWith,List.getElem?_zipWith,qL hx,qL hy,qL hz]};unfold xrT;rw[List.set_append_right _ _ (by omega),h1,Nat.sub_self,List.drop_eq_getElem_cons h2,qZ,List.take_add_one,h3];simp only[List.append_assoc,Option.toList_some,List.singleton_append]
end
theorem walk_imageMixes(W:World)(a0:Option Addr)(n0 c0:Nat)(z0:List Int)(r0:uD .u8 W a0 n0 c0 z0)(a1:Option Addr)(n1 c1:Nat)(z1:List Int)(r1:uD .u8 W a1 n1 c1 z1)(a2:Option Addr)(n2 c2:Nat)(z2:List Int)(r2:uD .u8 W a2 n2 c2 z2)(hL:dV W):
    Calls Tryz.prog 4 #[.slice a0 n0 c0,.slice a1 n1 c1,.slice a2 n2 c2] W fun e W' =>e=.returned (.bool true)/\Below W.heap.size W W' :=by
 have HL:=qA hL;obtain⟨A,hA⟩:∃A,A=iF n0 z0:=⟨_,rfl⟩;obtain⟨B,hB⟩:∃B,B=iF n1 z1:=⟨_,rfl⟩;obtain⟨C,hC⟩:∃C,C=iF n2 z2:=⟨_,rfl⟩;have HA:=qA (show RdB W a0 A/\Byt A/\A.length=n0 from by rw[hA];exact⟨wL r0,nX r0,(nW r0).1⟩);have HB:=qA (show RdB W a1 B/\Byt B/\B.length=n1 from by rw[hB];exact⟨wL r1,nX r1,(nW r1).1⟩);have HC:=qA (show RdB W a2 C/\Byt C/\C.length=n2 from by rw[hC];exact⟨wL r2,nX r2,(nW r2).1⟩);have hmax:=fun ts t w=>aQP (P:=Tryz.prog) ts t n0 n1 n2 w;have hn0:n0<=max (max n0 n1) n2:=by omega
 have hn1:n1<=max (max n0 n1) n2:=by omega
 have hn2:n2<=max (max n0 n1) n2:=by omega
 generalize max (max n0 n1) n2=n at *;have HM:=qA (zJ hn0 (zJ hn1 hn2));clear hA hB hC r0 r1 r2 hL hn0 hn1 hn2;by_cases hbig:300<n
 {
 have HW:=qA (iB (Wd.begin W) HL.out);have d1:decide ((n:Int)>300)=true:=qG (by omega);have d2:decide (300<n)=true:=qG hbig;go_enter Tryz.func4,Tryz.ntmps4
 go_wp2_with fail
 refine HW.out.mono ?_;rintro _ w1 ⟨rfl,hW⟩;have hB:=hW.below;clear HW hW;go_wp2
 go_ret;exact⟨rfl,hB⟩}
 {
 have d1:decide ((n:Int)>300)=false:=qF (by omega);have d2:decide (300<n)=false:=qF hbig;go_enter Tryz.func4,Tryz.ntmps4
 go_wp2_with fail
 clear d1 d2 hmax;refine tM (Mk4 n W) (by kernel_rfl) (by kernel_rfl) (Mk4.start W) ?_ ?_
 {
 refine(fun(H:∀a:Act,a.tmps.size=97->a.tmps[7]? =some (.int .i64 n)->∀f,sT _ _ _ _ f a 0 _)=>H _ rfl rfl) fun a hsz t7 f=>?_;refine⟨?_,?_,?_,?_,?_,?_,?_,?_,?_,?_,?_,?_,trivial⟩
 {
 intro b hb hf hg;have hbs:b.tmps.size=97:=hb.trans hsz;have T7:=cR ((hg 7 (by kernel_rfl)).trans t7);clear hf hg hb;refine bX rfl rfl fun L w _ hd hnL hI=>?_;go_simp;exact hI.num (by unfold ev8;decide) hnL}
 {
 intro b hb hf hg;have hbs:b.tmps.size=97:=hb.trans hsz;have t24:b.tmps[24]? =some (f 0):=hf 0 24 (by decide) (by kernel_rfl) (by rw[hsz];decide);have T24:=cR t24;clear hf hg hb;refine bX rfl rfl fun L w _ hd hnL hI=>?_;have e0:f 0=.int .i64 n:=hI.2.1 0 (cQ hd 0 (by decide)) (by unfold ev8;decide);rw[e0]at T24;have hmk:=nZ n w (by omega);go_simp;exact hI.made (by unfold pQ;decide) hnL}
 {
 intro b hb hf hg;have hbs:b.tmps.size=97:=hb.trans hsz;have T7:=cR ((hg 7 (by kernel_rfl)).trans t7);clear hf hg hb;refine bX rfl rfl fun L w _ hd hnL hI=>?_;go_simp;exact hI.num (by unfold ev8;decide) hnL}
 {
 intro b hb hf hg;have hbs:b.tmps.size=97:=hb.trans hsz;have t26:b.tmps[26]? =some (f 2):=hf 2 26 (by decide) (by kernel_rfl) (by rw[hsz];decide);have T26:=cR t26;clear hf hg hb;refine bX rfl rfl fun L w _ hd hnL hI=>?_;have e0:f 2=.int .i64 n:=hI.2.1 2 (cQ hd 2 (by decide)) (by unfold ev8;decide);rw[e0]at T26;have hmk:=nZ n w (by omega);go_simp;exact hI.made (by unfold pQ;decide) hnL}
 {
 intro b hb hf hg;have hbs:b.tmps.size=97:=hb.trans hsz;have T7:=cR ((hg 7 (by kernel_rfl)).trans t7);clear hf hg hb;refine bX rfl rfl fun L w _ hd hnL hI=>?_;go_simp;exact hI.num (by unfold ev8;decide) hnL}
 {
 intro b hb hf hg;have hbs:b.tmps.size=97:=hb.trans hsz;have t28:b.tmps[28]? =some (f 4):=hf 4 28 (by decide) (by kernel_rfl) (by rw[hsz];decide);have T28:=cR t28;clear hf hg hb;refine bX rfl rfl fun L w _ hd hnL hI=>?_;have e0:f 4=.int .i64 n:=hI.2.1 4 (cQ hd 4 (by decide)) (by unfold ev8;decide);rw[e0]at T28;have hmk:=nZ n w (by omega);go_simp;exact hI.made (by unfold pQ;decide) hnL}
 {
 intro b hb hf hg;have hbs:b.tmps.size=97:=hb.trans hsz;have T7:=cR ((hg 7 (by kernel_rfl)).trans t7);clear hf hg hb;refine bX rfl rfl fun L w _ hd hnL hI=>?_;go_simp;exact hI.num (by unfold ev8;decide) hnL}
 {
 intro b hb hf hg;have hbs:b.tmps.size=97:=hb.trans hsz;have t30:b.tmps[30]? =some (f 6):=hf 6 30 (by decide) (by kernel_rfl) (by rw[hsz];decide);have T30:=cR t30;clear hf hg hb;refine bX rfl rfl fun L w _ hd hnL hI=>?_;have e0:f 6=.int .i64 n:=hI.2.1 6 (cQ hd 6 (by decide)) (by unfold ev8;decide);rw[e0]at T30;have hmk:=nZ n w (by omega);go_simp;exact hI.made (by unfold pQ;decide) hnL}
 {
 intro b hb hf hg;have hbs:b.tmps.size=97:=hb.trans hsz;have t25:b.tmps[25]? =some (f 1):=hf 1 25 (by decide) (by kernel_rfl) (by rw[hsz];decide);have T25:=cR t25;clear hf hg hb;refine bX rfl rfl fun L w _ hd hnL hI=>?_;have hdj:=cQ hd 1 (by decide);go_simp;exact hI.asg (i:=8) (by decide) hdj (by decide)}
 {
 intro b hb hf hg;have hbs:b.tmps.size=97:=hb.trans hsz;have t27:b.tmps[27]? =some (f 3):=hf 3 27 (by decide) (by kernel_rfl) (by rw[hsz];decide);have T27:=cR t27;clear hf hg hb;refine bX rfl rfl fun L w _ hd hnL hI=>?_;have hdj:=cQ hd 3 (by decide);go_simp;exact hI.asg (i:=9) (by decide) hdj (by decide)}
 {
 intro b hb hf hg;have hbs:b.tmps.size=97:=hb.trans hsz;have t29:b.tmps[29]? =some (f 5):=hf 5 29 (by decide) (by kernel_rfl) (by rw[hsz];decide);have T29:=cR t29;clear hf hg hb;refine bX rfl rfl fun L w _ hd hnL hI=>?_;have hdj:=cQ hd 5 (by decide);go_simp;exact hI.asg (i:=10) (by decide) hdj (by decide)}
 {
 intro b hb hf hg;have hbs:b.tmps.size=97:=hb.trans hsz;have t31:b.tmps[31]? =some (f 7):=hf 7 31 (by decide) (by kernel_rfl) (by rw[hsz];decide);have T31:=cR t31;clear hf hg hb;refine bX rfl rfl fun L w _ hd hnL hI=>?_;have hdj:=cQ hd 7 (by decide);go_simp;exact hI.asg (i:=11) (by decide) hdj (by decide)}}
 {
 rintro f L wt hLL hI;obtain⟨g1,g2,g3,g4,e8,e9,e10,e11,hW⟩:=hI.all (by omega) (Wd.begin W) (fun k hk=>hLL k (by simpa using hk));simp only[aGZ,e8,e9,e10,e11];go_simp;have HW:=qA hW;clear hW hI hLL e8 e9 e10 e11;obtain⟨X,hX⟩:∃X,X=A++(fD n).drop n0:=⟨_,rfl⟩;obtain⟨Y,hY⟩:∃Y,Y=B++(fD n).drop n1:=⟨_,rfl⟩;obtain⟨Z,hZ⟩:∃Z,Z=C++(fD n).drop n2:=⟨_,rfl⟩;have HX:=qA (show X.length=n/\Byt X by
   rw[hX];have:=HM.out.1;have:=HA.out.2.2;exact⟨by rw[zG,List.length_drop,dG];omega,HA.out.2.1.app ((sU n).drop _)⟩)
 have HY:=qA (show Y.length=n/\Byt Y by
   rw[hY];have:=HM.out.2.1;have:=HB.out.2.2;exact⟨by rw[zG,List.length_drop,dG];omega,HB.out.2.1.app ((sU n).drop _)⟩)
 have HZ:=qA (show Z.length=n/\Byt Z by
   rw[hZ];have:=HM.out.2.2;have:=HC.out.2.2;exact⟨by rw[zG,List.length_drop,dG];omega,HC.out.2.1.app ((sU n).drop _)⟩)
 have HE:=qA (zJ hX (zJ hY hZ));clear hX hY hZ;go_wp2_with (first|(refine pP HW.out rfl (.tmp 32) (.tmp 33) rfl rfl rfl (dG n) (HA.out.1.fr HW.out.frm) HA.out.2.2 HM.out.1 ?_;intro w2 hW2;rw[<-HE.out.1]at hW2;have HW2:=qA hW2.swap;clear hW2)|(refine pP HW2.out rfl (.tmp 35) (.tmp 36) rfl rfl rfl (dG n) (HB.out.1.fr HW2.out.frm) HB.out.2.2 HM.out.2.1 ?_;intro w3 hW3;rw[<-HE.out.2.1]at hW3;have HW3:=qA hW3.third;clear hW3)|(refine pP HW3.out rfl (.tmp 38) (.tmp 39) rfl rfl rfl (dG n) (HC.out.1.fr HW3.out.frm) HC.out.2.2 HM.out.2.2 ?_;intro w4 hW4;rw[<-HE.out.2.2]at hW4;have HW4:=qA hW4.fourth43;clear hW4)|fail)
 have HP0:=qA (show Wd W w4 (thY (.slice (some ⟨g4,0,none⟩) n n) (xrT n X Y Z 0)::thY (.slice (some ⟨g3,0,none⟩) n n) Z::thY (.slice (some ⟨g2,0,none⟩) n n) Y::[thY (.slice (some ⟨g1,0,none⟩) n n) X]) from by rw[aQR];exact HW4.out);clear HW HW2 HW3 HW4;go_loopw [12,43] (fun _ c wr=>∃i:Nat,i<=n/\c=.int .i64 i/\Hid (Wd W wr (thY (.slice (some ⟨g4,0,none⟩) n n) (xrT n X Y Z i)::thY (.slice (some ⟨g3,0,none⟩) n n) Z::thY (.slice (some ⟨g2,0,none⟩) n n) Y::[thY (.slice (some ⟨g1,0,none⟩) n n) X]))) (fun _ c _=>n-(intOf c).toNat)
 case atStart=>exact⟨0,by omega,rfl,HP0⟩
 case round=>
  clear HP0;obtain⟨i,hi,rfl,HP⟩:=hrel;rename World=>wr
  by_cases hlt:i<n
  {
  have hi1:(i:Int)<n:=by omega
  have hi0:(0:Int)<=i:=by omega
  have hwi:IntKind.i64.wrap ((i:Int)+1)=((i+1:Nat):Int):=by rw[show(i:Int)+1=((i+1:Nat):Int) by omega];exact zH _ (by omega)
  have hx:i<X.length:=by rw[HX.out.1];exact hlt
  have hy:i<Y.length:=by rw[HY.out.1];exact hlt
  have hz:i<Z.length:=by rw[HZ.out.1];exact hlt
  have htl:=aUP HX.out.1 HY.out.1 HZ.out.1 hi;have hset:=aUR HX.out.1 HY.out.1 HZ.out.1 hx hy hz;obtain⟨_,_,ev,_,_,_,cx⟩:=HP.out.fourth43.rowB.at hx;simp only[qP,qJ,Addr.mk.injEq,and_true]at ev;obtain⟨rfl,_,rfl⟩:=ev;obtain⟨_,_,ev,_,_,_,cy⟩:=HP.out.third.rowB.at hy;simp only[qP,qJ,Addr.mk.injEq,and_true]at ev;obtain⟨rfl,_,rfl⟩:=ev;obtain⟨_,_,ev,_,_,_,cz⟩:=HP.out.swap.rowB.at hz;simp only[qP,qJ,Addr.mk.injEq,and_true]at ev;obtain⟨rfl,_,rfl⟩:=ev;obtain⟨_,_,ev,_,_,hfz,ca⟩:=HP.out.rowB.at (i:=i) (by rw[htl];exact hlt);simp only[qP,qJ,Addr.mk.injEq,and_true]at ev;obtain⟨rfl,_,rfl⟩:=ev;have hzi:=hfz i;have hxb:=HX.out.2 _ (List.getElem_mem hx);have hyb:=HY.out.2 _ (List.getElem_mem hy);have hzb:=HZ.out.2 _ (List.getElem_mem hz);have h2:=Wd.setB (w:=wr.drew) (cap:=n) (l:=xrT n X Y Z i) (by rw[htl];exact HP.out.fr0 (Fr.refl [] wr).drew) (i:=i) (by rw[htl];exact hlt) (X[i]'hx ^^^ Y[i]'hy ^^^ Z[i]'hz);rw[htl,hset]at h2;have HN:=qA h2;generalize (xrT n X Y Z i)[i]'_=old at *;generalize X[i]'hx=x at *;generalize Y[i]'hy=y at *;generalize Z[i]'hz=z at *;have q1:=aGX hxb hyb;have q2:=aGX (aUH hxb hyb) hzb;generalize x ^^^ y ^^^ z=xyz at *;generalize x ^^^ y=xy at *;clear hx hy hz htl hset hfz hxb hyb hzb h2 HP;go_wp2_with fail
  go_region
  go_wp2_with fail
  go_roundw
  case rel=>exact⟨i+1,by omega,by go_num,HN⟩
  case measure=>simp[intOf];omega}
  {
  obtain rfl:i=n:=by omega
  have HQ:=qA (show Wd W wr (thY (.slice (some ⟨g1,0,none⟩) i i) X::thY (.slice (some ⟨g4,0,none⟩) i i) (gB (gB X Y) Z)::thY (.slice (some ⟨g3,0,none⟩) i i) Z::[thY (.slice (some ⟨g2,0,none⟩) i i) Y]) from by
    rw[<-aUQ HX.out.1 HY.out.1 HZ.out.1];exact HP.out.fourth43)
  have hq1:=HQ.out.rowB.rd2;have hq4:=HQ.out.swap.rowB.rd2;have hq3:=HQ.out.third.rowB.rd2;have hq2:=HQ.out.fourth43.rowB.rd2;have hbt:Byt (gB (gB X Y) Z):=wS (wS HX.out.2 HY.out.2) HZ.out.2;have hlx:(gB (gB X Y) Z).length=i:=by rw[oA (by rw[oA (by rw[HX.out.1,HY.out.1]),HY.out.1,HZ.out.1]),HZ.out.1]
  have s1:=tG (cap:=i) hq1 HX.out.2 (by rw[HX.out.1];omega);have s2:=tG (cap:=i) hq2 HY.out.2 (by rw[HY.out.1];omega);have s3:=tG (cap:=i) hq3 HZ.out.2 (by rw[HZ.out.1];omega);have s4:=tG (cap:=i) hq4 hbt (by rw[hlx];omega);rw[HX.out.1]at s1;rw[HY.out.1]at s2;rw[HZ.out.1]at s3;rw[hlx,aJI (by rw[HX.out.1,HY.out.1]) (by rw[HX.out.1,HZ.out.1])]at s4;have hx:=oT HX.out.2;have hy:=oT HY.out.2;have hz:=oT HZ.out.2;have hxy:crc X ^^^ crc Y<4294967296:=Nat.xor_lt_two_pow (n:=32) hx hy;have q1:=iT hx hy;have q2:=iT hxy hz;have hown:=aRH HX.out.2 (aQQ hx);have hby4:Byt (X++[crc X%256,crc X/256%256,crc X/65536%256,crc X/16777216%256]):=HX.out.2.app (fun b hb=>by
    simp only[qB,List.not_mem_nil,or_false]at hb;rcases hb with rfl|rfl|rfl|rfl<;>exact Nat.mod_lt _ (by decide))
  have HO:=qA (zJ hown hby4);clear hown hby4;generalize crc X ^^^ crc Y ^^^ crc Z=cxyz at *;generalize crc X ^^^ crc Y=cxy at *;generalize crc X=sx at *;generalize crc Y=sy at *;generalize crc Z=sz at *;have S1:=qA s1;have S2:=qA s2;have S3:=qA s3;have S4:=qA s4;have y1:(sx:Int)%256=((sx%256:Nat):Int):=by omega
  have y2:(sx:Int)/256%256=((sx/256%256:Nat):Int):=by omega
  have y3:(sx:Int)/65536%256=((sx/65536%256:Nat):Int):=by omega
  have y4:(sx:Int)/16777216%256=((sx/16777216%256:Nat):Int):=by omega
  have HYs:=qA (zJ y1 (zJ y2 (zJ y3 y4)));clear s1 s2 s3 s4 y1 y2 y3 y4 hq1 hq2 hq3 hq4 hbt hlx hx hy hz hxy HP;go_wp2_with fail
  refine S1.out.mono ?_;rintro _ w5 ⟨rfl,rfl⟩;go_wp2_with fail
  refine S4.out.mono ?_;rintro _ w5 ⟨rfl,rfl⟩;go_wp2_with fail
  refine S2.out.mono ?_;rintro _ w5 ⟨rfl,rfl⟩;go_wp2_with fail
  refine S3.out.mono ?_;rintro _ w5 ⟨rfl,rfl⟩;clear S1 S2 S3 S4;have HA4:=qA (fun(u:Obj)=>HQ.out.fr0 ((Fr.refl [] w5).alloc u));go_wp2_with (first|(at_builtin;go_loud (refine aBR (HA4.out _) (by rfl) (.tmp 77) (.tmp 89) 22 rfl (.int .u8 0) Tryz.underlying22 Tryz.info5 rfl (some ⟨w5.heap.size,0,none⟩) 4 4 rfl rfl (aLV w5 _ _ _ _ HYs.out.1 HYs.out.2.1 HYs.out.2.2.1 HYs.out.2.2.2) rfl (by simp) (by rw[HX.out.1];omega) ?_);intro v9 w9 hW9;have HW9:=qA hW9;clear hW9)|fail)
  have hsm:=aPO HW9.out HO.out.2 (by rw[zG,HX.out.1];simp;omega);rw[HO.out.1]at hsm;have HSm:=qA hsm;clear hsm;refine HSm.out.mono ?_;rintro _ w10 ⟨rfl,rfl⟩;have HWk:=qA (iB HW9.out HL.out);clear HSm;go_wp2_with fail
  refine HWk.out.mono ?_;rintro _ w11 ⟨rfl,hW⟩;have hB:=hW.below;clear hW HWk;go_wp2_with fail
  go_ret;exact⟨rfl,hB⟩}}}
section
variable {m E V D now:Int} {a g:Nat} {l:List R4}
end
section
variable {o:Ob} {s:Nat}
variable (hB:Bp s 80 o) (hok:o.Ok)
include hB hok
end
def jM(w:World)(v:Value):Prop:=v=.pointer none∨∃b,v=cE b/\w.cell? ⟨b,4,none⟩=some (.pointer none)
theorem jM.fr{w w' :World}{v:Value}{S:List Nat}(h:jM w v)(hf:Fr S w w')(hs:∀b,v=cE b->b∉S):jM w' v:=by
 rcases h with h|⟨b,h,c⟩
 · exact .inl h
 · exact .inr ⟨b,h,hf.cell c (hs b h)⟩
theorem jM.fr0{w w' :World}{v:Value}(h:jM w v)(hf:Fr [] w w'):jM w' v:=h.fr hf (by simp)
theorem jM.none(w:World):jM w (.pointer none):=.inl rfl
section
variable {w:World} {v:Value}
theorem sV(h:jM w v):Calls Tryz.prog 57 #[v] w fun e w' =>e=.returned (.bool false)/\w' =w:=by
 rcases h with rfl|⟨b,rfl,c4⟩
 {
 go_enter Tryz.func57,Tryz.ntmps57
 go_wp2
 go_ret;exact⟨rfl,rfl⟩}
 {
 go_enter Tryz.func57,Tryz.ntmps57
 go_wp2
 go_ret;exact⟨rfl,rfl⟩}
theorem aQS(h:jM w v)(t:Int):Calls Tryz.prog 67 #[v,.int .i64 t] w fun e w' =>e=.returned (.int .i64 1)/\w' =w:=by
 have HV:=qA (sV h);clear h;go_enter Tryz.func67,Tryz.ntmps67
 go_wp2_with fail
 refine HV.out.mono ?_;rintro _ w ⟨rfl,rfl⟩;go_wp2
 go_ret;exact⟨rfl,rfl⟩
theorem aUS(h:jM w v)(u x:Nat)(wt t:Int):Calls Tryz.prog 69 #[v,lU u x wt t] w fun e w' =>e=.returned (.int .i64 1)/\Fr [] w w' :=by
 have HV:=qA (sV (h.fr0 ((Fr.refl [] w).alloc (.cells #[.int .u64 u,.int .u64 x,.int .i64 wt,.int .i64 t] 72))));clear h;have HF:=qA ((Fr.refl [] w).alloc (.cells #[.int .u64 u,.int .u64 x,.int .i64 wt,.int .i64 t] 72));go_enter Tryz.func69,Tryz.ntmps69
 go_wp2_with fail
 refine HV.out.mono ?_;rintro _ w1 ⟨rfl,rfl⟩;go_wp2
 go_ret;exact⟨rfl,HF.out⟩
theorem aHG(h:jM w v):Calls Tryz.prog 31 #[v] w fun e w' =>e=.returned (.agg #[.int .i64 0,.int .i64 0,.int .i64 0,.int .i64 0])/\Fr [] w w' :=by
 have HV:=qA (sV (h.fr0 ((Fr.refl [] w).alloc (.cells #[.int .i64 0,.int .i64 0,.int .i64 0,.int .i64 0] 31))));clear h;have HF:=qA ((Fr.refl [] w).alloc (.cells #[.int .i64 0,.int .i64 0,.int .i64 0,.int .i64 0] 31));have hb:=Blk.new w [.int .i64 0,.int .i64 0,.int .i64 0,.int .i64 0] 31;have r0:=hb.cell 0;have r1:=hb.cell 1;have r2:=hb.cell 2;have r3:=hb.cell 3;simp only[zK,zL]at r0 r1 r2 r3;clear hb;go_enter Tryz.func31,Tryz.ntmps31
 go_wp2_with fail
 refine HV.out.mono ?_;rintro _ w1 ⟨rfl,rfl⟩;go_wp2
 exact bodyPost_ret (v:=.agg #[.int .i64 0,.int .i64 0,.int .i64 0,.int .i64 0]) (by simp[results,Tryz.results31,go_sem,r0,r1,r2,r3]) rfl ⟨rfl,HF.out⟩
end
theorem nK{w:World}{v:Value}(h:jM w v)(hL:dV w):Calls Tryz.prog 19 #[v] w fun e w' =>e=.returned (.tuple #[.slice none 0 0,.int .i64 1])/\Fr [] w w' :=by
 have HC:=qA (aHG h);have HL:=qA hL;obtain⟨pv,rfl⟩:∃pv,v=.pointer pv:=by rcases h with rfl|⟨b,rfl,_⟩<;>exact⟨_,rfl⟩
 clear h hL;go_enter Tryz.func19,Tryz.ntmps19
 go_wp2_with fail
 refine HC.out.mono ?_;rintro _ w2 ⟨rfl,hF⟩;have HP:=qA (aXV (HL.out.fr hF (by simp)) 0 0 0 0 (by decide) rfl);have HF:=qA hF;clear hF HC;go_wp2_with fail
 refine HP.out.mono ?_;rintro _ w3 ⟨rfl,hF⟩;have HF:=qA (HF.out.trans' hF);clear hF HP;cases pv with
 | none=>{
 go_wp2_with fail
 go_ret2;exact⟨rfl,HF.out⟩}
 | some p=>{
 go_wp2_with fail
 go_ret2;exact⟨rfl,HF.out⟩}
section
variable {W w:World} {ts:List Th} {p:Nat} {o:Ob} {v:Value}
theorem aUT(h:Wd W w (thO p o::ts))(hL:dV W)(hp:o.Pc)(hb:jM w v):Calls Tryz.prog 20 #[v,cE p] w fun e w' =>e=.returned (.bool false)/\Wd W w' (thO p o::ts):=by
 have HS:=qA (nK hb (hL.fr h.frm (by simp)));have HW:=qA h;have HL:=qA hL;have HP:=qA hp;clear h hL hp hb;go_enter Tryz.func20,Tryz.ntmps20
 go_wp2_with fail
 refine HS.out.mono ?_;rintro _ w1 ⟨rfl,hF⟩;have HW1:=qA (HW.out.fr0 hF);clear hF HS HW;go_wp2_with fail
 refine(jU HW1.out HL.out HP.out).mono ?_;rintro _ w2 ⟨v', rfl,hW⟩;have HW2:=qA hW;clear hW HW1;go_wp2
 go_ret;exact⟨rfl,HW2.out.drop⟩
theorem aUU(h:Wd W w (thO p o::ts))(hL:dV W)(hp:o.Pc)(hb:∀w', Wd W w' (thO p o::ts)->jM w' v):Calls Tryz.prog 20 #[cE p,v] w fun e w' =>e=.returned (.bool false)/\Wd W w' (thO p o::ts):=by
 have HW:=qA h;have HL:=qA hL;have HP:=qA hp;have HB:=qA hb;clear h hL hp hb;go_enter Tryz.func20,Tryz.ntmps20
 go_wp2_with fail
 refine(jU HW.out HL.out HP.out).mono ?_;rintro _ w2 ⟨v', rfl,hW⟩;have HW2:=qA hW.drop;clear hW HW;go_wp2_with fail
 refine(nK (HB.out _ HW2.out) (HL.out.fr HW2.out.frm (by simp))).mono ?_;rintro _ w1 ⟨rfl,hF⟩;have HW1:=qA (HW2.out.fr0 hF);clear hF HW2;go_wp2
 go_ret;exact⟨rfl,HW1.out⟩
theorem aJF(hb:jM w v)(hL:dV w):Calls Tryz.prog 20 #[v,v] w fun e w' =>e=.returned (.bool false)/\Fr [] w w' :=by
 have HL:=qA hL;have HB:=qA hb;clear hL hb;go_enter Tryz.func20,Tryz.ntmps20
 go_wp2_with fail
 refine(nK HB.out HL.out).mono ?_;rintro _ w1 ⟨rfl,hF⟩;have HF:=qA hF;clear hF;go_wp2_with fail
 refine(nK (HB.out.fr0 HF.out) (HL.out.fr HF.out (by simp))).mono ?_;rintro _ w2 ⟨rfl,hF⟩;have HF2:=qA (HF.out.trans' hF);clear hF HF;go_wp2
 go_ret;exact⟨rfl,HF2.out⟩
end
def lX(l:List Nat):ByteArray:=strOfNums (l.map fun x:Nat=>(x:Int))
theorem aEW{l m:List Nat}(hl:Byt l)(hm:Byt m):lX l=lX m↔l=m:=by
 constructor
 {
 intro h;have e:(lX l).data.toList=(lX m).data.toList:=by rw[h]
 unfold lX at e;rw[strOfNums_data,strOfNums_data,List.map_map,List.map_map]at e;have k:=congrArg (List.map UInt8.toNat) e;rw[List.map_map,List.map_map]at k;have key:∀(l:List Nat),Byt l->l.map (UInt8.toNat ∘ ((fun n:Int=>UInt8.ofNat n.toNat) ∘ fun x:Nat=>(x:Int)))=l:=fun l hl=>by
   (conv=>rhs;rw[<-List.map_id l])
   refine List.map_congr_left fun x hx=>?_;show(UInt8.ofNat ((x:Int).toNat)).toNat=x
   rw[zE,UInt8.toNat_ofNat', Nat.mod_eq_of_lt];exact hl x hx
 rw[key l hl,key m hm]at k;exact k}
 · rintro rfl;rfl
theorem aBT{w:World}{a:Option Addr}{l:List Nat}{n c:Nat}(hr:RdB w a l)(hn:l.length=n)(hp:0<n):(convert 22 9 (.slice a n c)).run Tryz.prog w=.ok (.string (lX l)) w:=by
 obtain⟨b,off,rfl,_⟩:=hr 0 (by omega);refine run_convert_bytes_arg (P:=Tryz.prog) w 22 5 Tryz.underlying22 Tryz.underlying5 b off n c (l.map fun x:Nat=>(x:Int)) (by rw[List.length_map,hn]) (fun i hi=>?_) 9 Tryz.underlying9;obtain⟨b', off', e,_,hc⟩:=hr i (by omega);simp only[qJ,Addr.mk.injEq,and_true]at e;obtain⟨rfl,rfl⟩:=e;rw[hc];have hg:(l.map fun x:Nat=>(x:Int)).getD i 0=((l[i]'(by omega):Nat):Int):=by rw[List.getD_eq_getElem?_getD,List.getElem?_map,qL (by omega)];rfl
 rw[hg]
theorem aVW{w:World}{a1 a2:Option Addr}{l1 l2:List Nat}{n1 n2 c1 c2:Nat}(h1:RdB w a1 l1)(h2:RdB w a2 l2)(e1:l1.length=n1)(e2:l2.length=n2)(p1:0<n1)(p2:0<n2)(b1:Byt l1)(b2:Byt l2):
    Calls Tryz.prog 49 #[.slice a1 n1 c1,.slice a2 n2 c2] w fun e w' =>e=.returned (.bool (decide (l1=l2)))/\w' =w:=by
 have k1:=aBT (c:=c1) h1 e1 p1;have k2:=aBT (c:=c2) h2 e2 p2;have hi:=aEW b1 b2;have hb:((lX l1).toList == (lX l2).toList)=decide (l1=l2):=by {
 rw[Bool.eq_iff_iff,beq_iff_eq,decide_eq_true_iff,ByteArray.toList_eq,ByteArray.toList_eq];constructor
 {
 intro h;refine hi.1 ?_;have e:(lX l1).data=(lX l2).data:=by rw[<-Array.toList_inj];exact h
 generalize lX l1=s1 at *;generalize lX l2=s2 at *;cases s1;cases s2;simp only at e;rw[e]}
 · rintro rfl;rfl};generalize lX l1=s1 at *;generalize lX l2=s2 at *;have HB:=qA hb;clear hb hi h1 h2 e1 e2 p1 p2 b1 b2;go_enter Tryz.func49,Tryz.ntmps49
 go_wp2_with fail
 go_ret;rw[HB.out];exact⟨rfl,rfl⟩
section
variable {W w:World} {ts:List Th} {p q:Nat} {o r:Ob}
theorem Wd.lenB{W w:World}{ts:List Th}{v:Value}{o:Ob}(h:Wd W w (thY v o.img::ts)):∃b cap,v=.slice (some ⟨b,0,none⟩) o.img.length cap/\RdB w (some ⟨b,0,none⟩) o.img:=by
 obtain⟨b,cap,e,_,hr⟩:=h.formB (by rw[Ob.img_len];omega);exact⟨b,cap,e,hr⟩
theorem aQT(h:Wd W w (thO p o::thO q r::ts))(hL:dV W)(hp:o.Pc)(hq:r.Pc):Calls Tryz.prog 20 #[cE p,cE q] w fun e w' =>∃x:Bool,e=.returned (.bool x)/\(x=true↔o=r)/\Wd W w' (thO p o::thO q r::ts):=by
 obtain⟨x,hx⟩:∃x,x=decide (o.img=r.img):=⟨_,rfl⟩;have hi:(x=decide (o.img=r.img))/\(x=true↔o=r):=⟨hx,by rw[hx,decide_eq_true_iff];exact aIY hp h.ob hq h.swap.ob⟩;have HI:=qA hi;have HW:=qA h;have HL:=qA hL;have HP:=qA (zJ hp hq);clear h hL hp hq hi hx;go_enter Tryz.func20,Tryz.ntmps20
 go_wp2_with fail
 refine(jU HW.out HL.out HP.out.1).mono ?_;rintro _ w2 ⟨v,rfl,hW⟩;have HW2:=qA hW.third;clear hW HW;go_wp2_with fail
 refine(jU HW2.out HL.out HP.out.2).mono ?_;rintro _ w3 ⟨v2,rfl,hW⟩;obtain⟨b1,c1,rfl,hr1⟩:=hW.third.lenB;obtain⟨b2,c2,rfl,hr2⟩:=hW.lenB;have hbe:=aVW (c1:=c1) (c2:=c2) hr1 hr2 rfl rfl (by rw[Ob.img_len];omega) (by rw[Ob.img_len];omega) o.img_byt r.img_byt;rw[<-HI.out.1]at hbe;have HBe:=qA hbe;have HW3:=qA (show Wd W w3 (thO p o::thO q r::ts) from hW.drop.drop2.swap);clear hW HW2 hr1 hr2 hbe;go_wp2_with fail
 refine HBe.out.mono ?_;rintro _ w4 ⟨rfl,rfl⟩;clear HBe;go_wp2
 go_ret;exact⟨_,rfl,HI.out.2,HW3.out⟩
theorem xV(h:Wd W w (thO p o::ts))(hL:dV W)(hp:o.Pc):Calls Tryz.prog 20 #[cE p,cE p] w fun e w' =>e=.returned (.bool true)/\Wd W w' (thO p o::ts):=by
 have HW:=qA h;have HL:=qA hL;have HP:=qA hp;clear h hL hp;go_enter Tryz.func20,Tryz.ntmps20
 go_wp2_with fail
 refine(jU HW.out HL.out HP.out).mono ?_;rintro _ w2 ⟨v,rfl,hW⟩;have HW2:=qA hW.swap;clear hW HW;go_wp2_with fail
 refine(jU HW2.out HL.out HP.out).mono ?_;rintro _ w3 ⟨v2,rfl,hW⟩;obtain⟨b1,c1,rfl,hr1⟩:=hW.third.lenB;obtain⟨b2,c2,rfl,hr2⟩:=hW.lenB;have hbe:=aVW (c1:=c1) (c2:=c2) hr1 hr2 rfl rfl (by rw[Ob.img_len];omega) (by rw[Ob.img_len];omega) o.img_byt o.img_byt;rw[qG (rfl:o.img=o.img)]at hbe;have HBe:=qA hbe;have HW3:=qA (show Wd W w3 (thO p o::ts) from hW.drop.drop2);clear hW HW2 hr1 hr2 hbe;go_wp2_with fail
 refine HBe.out.mono ?_;rintro _ w4 ⟨rfl,rfl⟩;clear HBe;go_wp2
 go_ret;exact⟨rfl,HW3.out⟩
end
def G17(p:Nat)(va:Value)(x:Lv):Nat->Value->Prop
  | 0,y=>y=cE p
  | 2,y=>y=cE p
  | 3,y=>y=.pointer (some ⟨p,0,none⟩)
  | 4,y=>y=.pointer (some ⟨p,6,none⟩)
  | 5,y=>y=va
  | 7,y=>y=cE p
  | 8,y=>y=.pointer (some ⟨p,0,none⟩)
  | 9,y=>y=.pointer (some ⟨p,7,none⟩)
  | 10,y=>y=.int .u64 x.seq
  | 11,y=>y=.agg #[.int .u64 x.u,.int .u64 x.v,.int .i64 x.wt,.int .i64 x.t]
  | 12,y=>y=.int .i64 x.x
  | 13,y=>y=.agg #[.int .i64 0,.int .u64 x.seq,.int .u64 x.u,.int .u64 x.v,.int .i64 x.wt,.int .i64 x.t,.int .i64 x.x]
  | 16,y=>y=.pointer (some ⟨p,0,none⟩)
  | 17,y=>y=.pointer (some ⟨p,6,none⟩)
  | _,_=>True
def g17(l:List Lv)(x:Lv)(L:Nat->Bool):Nat->Option (List Lv)
  | 1=>if L 1=true/\L 6=false then some [] else none
  | 6=>if L 6=true/\L 15=false then some l else none
  | 14=>if L 14=true/\L 15=false then some [x] else none
  | 15=>if L 15=true then some (l++[x]) else none
  | _=>none
theorem dN{l:List Lv}{x:Lv}{L:Nat->Bool}{i:Nat}(h0:i≠1)(h2:i≠6)(h5:i≠14)(h6:i≠15):∀k c,g17 l x (cP L i true) k=some c->k≠i/\g17 l x L k=some c:=by
 intro k c hk;have e:g17 l x (cP L i true) k=g17 l x L k:=by {
 unfold g17;split<;>simp only[cP,qC (Ne.symm h0),qC (Ne.symm h2),qC (Ne.symm h5),qC (Ne.symm h6)]};rw[e]at hk;refine⟨?_,hk⟩;rintro rfl;unfold g17 at hk;split at hk<;>first|exact h0 rfl|exact h2 rfl|exact h5 rfl|exact h6 rfl|cases hk
theorem aQU{l:List Lv}{x:Lv}{L:Nat->Bool}:∀k c,g17 l x (cP L 1 true) k=some c->(k=1/\c=[])∨(k≠1/\g17 l x L k=some c):=by
 intro k c hk;unfold g17 at hk ⊢;split at hk<;>simp_all [cP]
theorem aLW{l:List Lv}{x:Lv}{L:Nat->Bool}:∀k c,g17 l x (cP L 14 true) k=some c->(k=14/\c=[x])∨(k≠14/\g17 l x L k=some c):=by
 intro k c hk;unfold g17 at hk ⊢;split at hk<;>simp_all [cP]
theorem aQV{l:List Lv}{x:Lv}{L:Nat->Bool}:∀k c,g17 l x (cP L 6 true) k=some c->(k=6/\c=[]++l)∨(k≠6/\k≠1/\g17 l x L k=some c):=by
 intro k c hk;unfold g17 at hk ⊢;split at hk<;>simp_all [cP]
theorem aLX{l:List Lv}{x:Lv}{L:Nat->Bool}:∀k c,g17 l x (cP L 15 true) k=some c->(k=15/\c=l++[x])∨(k≠15/\k≠6/\g17 l x L k=some c):=by
 intro k c hk;unfold g17 at hk ⊢;split at hk<;>simp_all [cP]
theorem aQW{l:List Lv}{x:Lv}:∀k,g17 l x (fun _=>false) k=none:=by
 intro k;unfold g17;split<;>simp
def I17(p:Nat)(va:Value)(l:List Lv)(x:Lv)(w0:World)(f:Nat->Value)(L:Nat->Bool)(w:World):Prop:=
  (L 18=false->lP (G17 p va x) (g17 l x) w0 f L w)/\(L 18=true->∃w1,Fr [] w0 w1/\bH w1 (f 15) (l++[x])/\(∀q,(f 15).ownBlock=some q->w0.heap.size<=q)/\w=w1.setCell ⟨p,6,none⟩ (f 15))
theorem eK{P:Program}{ops:Array Oper}{p:Nat}{va:Value}{l:List Lv}{x:Lv}{w0:World}{f:Nat->Value}{k:Nat}{o:Oper}{a:Act}(ho:ops[k]? =some o)(hg:o.guard=none)(hd18:(aHE ops 2 18).contains k=true)(hk:k≠18)
    (h:∀L w,(∀j∈iO .any o,L j=true)->L k=false->lP (G17 p va x) (g17 l x) w0 f L w->gM P (fun v w' =>lP (G17 p va x) (g17 l x) w0 (cP f k v) (cP L k true) w') ((execOp a.eval o).run P w)):
    tL P ops .any (aUN ops (I17 p va l x w0)) f k o a:=
  bX ho hg fun L w hc hd hn hI=>by
 have h0:L 18=false:=by {
 cases e:L 18 with
 | false=>rfl
 | true=>rw[hc.reach 2 18 e k (by simpa using hd18)]at hn;cases hn};refine rU (fun v w' hh=>⟨fun _=>hh,fun e=>?_⟩) (h L w hd hn (hI.1 h0));rw[aJ _ _ hk.symm,h0]at e;cases e
section
variable {W wr w w' :World} {p:Nat} {o:Ob} {ts:List Th} {a:Option Addr} {c n:Nat}
theorem aYS(h:Wd W wr (thF p o::ts))(hok:o.Ok)(u v:Nat)(wt t:Int)(ht2:t<=9223372036854775807):
    Calls Tryz.prog 70 #[cE p,lU u v wt t] wr fun e w' =>e=.returned (.int .i64 (o.addC u v t:Nat))/\Wd W w' (thF p (o.add u v wt t)::ts):=by
 have hW1:Wd W (wr.alloc (.cells #[.int .u64 u,.int .u64 v,.int .i64 wt,.int .i64 t] 72)) (thF p o::thB wr.heap.size 72 [.int .u64 u,.int .u64 v,.int .i64 wt,.int .i64 t]::ts):=
   (show Wd W _ (thB wr.heap.size 72 [.int .u64 u,.int .u64 v,.int .i64 wt,.int .i64 t]::thF p o::ts) from
     h.new (K:=[wr.heap.size]) ((Fr.refl [] wr).alloc _) ⟨Blk.new wr [.int .u64 u,.int .u64 v,.int .i64 wt,.int .i64 t] 72,rfl⟩ (fun q hq=>Nat.le_of_eq (qH.1 hq).symm)).swap
 obtain⟨_,h1,_⟩:=hW1.swap.get;obtain⟨_,a,c,h2,h3,_⟩:=hW1.get;have HV:=qA (wR h2);have q0:=h1.cell 0;have q1:=h1.cell 1;have q3:=h1.cell 3;have c1:=h2.cell 1;have c5:=h2.cell 5;have c6:=h2.cell 6;simp only[rfC,zK,zL]at c1 c5 c6 q0 q1 q3;have HW:=qA hW1;have HK:=qA (zJ h1 (zJ h2 h3));have HO:=qA hok;clear hW1 h h1 h2 h3 hok;go_enter Tryz.func70,Tryz.ntmps70
 go_wp2_with fail
 refine HV.out.mono ?_;rintro _ _ ⟨rfl,rfl⟩;clear HV;by_cases hne:u=v
 {
 have d1:((u:Int) == v)=true:=by simp;omega
 have HC:=qA (show o.addC u v t=9 from qD hne);clear hne;go_wp2_with fail
 go_ret;have e:=HC.out;refine⟨by rw[e];rfl,?_⟩;unfold Ob.add;rw[e,qC (by decide)];exact HW.out.drop2};have d1:((u:Int) == v)=false:=by simp;omega
 have HN:=qA hne;clear hne;go_wp2_with fail
 obtain⟨xb,hxb⟩:∃xb,xb=wr.heap.size:=⟨_,rfl⟩;rw[<-hxb]at HW HK q0 q1 q3 ⊢;clear hxb;generalize wr.alloc (.cells #[.int .u64 u,.int .u64 v,.int .i64 wt,.int .i64 t] 72)=w1 at *;go_quiet (fail)
 have HF2:=(Fr.refl [] w1).drewN nq;generalize w1.drewN nq=w2 at *;have q0:=HF2.cell q0 (by simp);have q1:=HF2.cell q1 (by simp);have q3:=HF2.cell q3 (by simp);have c1:=HF2.cell c1 (by simp);have c5:=HF2.cell c5 (by simp);have c6:=HF2.cell c6 (by simp);have HW2:=qA (HW.out.fr0 HF2);have HK2:=qA (zJ (HF2.blk HK.out.1 (by simp)) (zJ (HF2.blk HK.out.2.1 (by simp)) (HK.out.2.2.fr0 HF2)));clear HW HK HF2;by_cases hlt:t<o.now
 {
 have d2:decide (t<o.now)=true:=qG hlt;have HC:=qA (show o.addC u v t=10 by unfold Ob.addC;rw[qC HN.out];exact qD hlt);clear hlt;rw[d2];go_wp2_with fail
 go_ret;have e:=HC.out;refine⟨by rw[e];rfl,?_⟩;unfold Ob.add;rw[e,qC (by decide)];exact HW2.out.drop2};have d2:decide (t<o.now)=false:=qF hlt;rw[d2];have HA:=qA (aJC (x:=t) (y:=o.m) (by have:=HO.out.n0;omega) ht2 (by have:=HO.out.m1;omega) HO.out.m2 w2.drew);have HT:=qA (Int.not_lt.1 hlt);clear hlt;have HQ:=qA (fun(w' :World) (hf:Fr [] w2.drew w')=>zJ (hf.cell (((Fr.refl [] w2).drew).cell c1 (by simp)) (by simp)) (hf.cell (((Fr.refl [] w2).drew).cell q3 (by simp)) (by simp)));go_wp2_with fail
 go_region_held3 (fun w' => w'.cell? ⟨p, 1, none⟩ = some (.int .i64 o.m) /\ w'.cell? ⟨xb, 3, none⟩ = some (.int .i64 t))
   (first
     | go_keep
     | (exact HQ.out _ hF3))
   (first
     | (go_at_call 95;refine HA.out.mono ?_;rintro _ w3 ⟨rfl,hF3⟩))
 have HF3:=(Fr.refl [] w2).drew.trans' hF3;have q0:=HF3.cell q0 (by simp);have q1:=HF3.cell q1 (by simp);have q3:=HF3.cell q3 (by simp);have hK3:=zJ (HF3.blk HK2.out.1 (by simp)) (zJ (HF3.blk HK2.out.2.1 (by simp)) (HK2.out.2.2.fr0 HF3));have c2:=hK3.2.1.cell 2;have c3:=hK3.2.1.cell 3;have c6:=hK3.2.1.cell 6;have c7:=hK3.2.1.cell 7;simp only[rfC,zK,zL]at c2 c3 c6 c7;have HW3:=qA (HW2.out.fr0 HF3);have HK3:=qA hK3;have HF3:=qA HF3;clear HW2 HK2 HA HQ c1 c5 hK3 hF3;by_cases hov:9223372036854775807<t+o.m
 {
 have e1:gJ t o.m=7:=qC (by omega);have HC:=qA (show o.addC u v t=7 by unfold Ob.addC;rw[qC HN.out,qC (by have:=HT.out;omega)];exact qD (.inl hov));rw[e1];clear hov e1;go_wp2_with fail
 go_ret;have e:=HC.out;refine⟨by rw[e];rfl,?_⟩;unfold Ob.add;rw[e,qC (by decide)];exact HW3.out.drop2};have e1:gJ t o.m=0:=qD (by omega);rw[e1];by_cases hla:9223372036854775807<=o.last
 {
 have HC:=qA (show o.addC u v t=7 by unfold Ob.addC;rw[qC HN.out,qC (by have:=HT.out;omega)];exact qD (.inr hla));have d3:decide ((o.last:Int)≥9223372036854775807)=true:=qG (by omega);have d4:decide (o.last≥9223372036854775807)=true:=qG (by omega);have d5:decide (9223372036854775807<=o.last)=true:=qG (by omega);clear hov hla e1;go_wp2_with fail
 go_ret;have e:=HC.out;refine⟨by rw[e];rfl,?_⟩;unfold Ob.add;rw[e,qC (by decide)];exact HW3.out.drop2};have d3:decide ((o.last:Int)≥9223372036854775807)=false:=qF (by omega);have d4:decide (o.last≥9223372036854775807)=false:=qF (by omega);have d5:decide (9223372036854775807<=o.last)=false:=qF (by omega);have HOV:=qA (zJ (Int.not_lt.1 hov) (Nat.not_le.1 hla));clear hov hla e1;have HL:=qA (aJB (HK3.out.2.2.fr0 (Fr.refl [] w3).drew) (Ob.lenE HO.out) t);have HQ:=qA (fun(w' :World) (hf:Fr [] w3.drew w')=>zJ (hf.cell (((Fr.refl [] w3).drew).cell c6 (by simp)) (by simp)) (hf.cell (((Fr.refl [] w3).drew).cell q3 (by simp)) (by simp)));go_wp2_with fail
 go_region_held3 (fun w' => w'.cell? ⟨p, 6, none⟩ = some (.slice a o.L.length c) /\ w'.cell? ⟨xb, 3, none⟩ = some (.int .i64 t))
   (first
     | go_keep
     | (exact HQ.out _ hF4))
   (first
     | (go_at_call 110;refine HL.out.mono ?_;rintro _ w4 ⟨v4,rfl,hr4,hF4,hq4⟩))
 have HF4:=(Fr.refl [] w3).drew.trans' hF4;have q0:=HF4.cell q0 (by simp);have q1:=HF4.cell q1 (by simp);have q3:=HF4.cell q3 (by simp);have c2:=HF4.cell c2 (by simp);have c3:=HF4.cell c3 (by simp);have HW4:=qA (HW3.out.fr0 HF4);have hr4:bH w4 v4 (o.left t):=hr4;obtain⟨a4,k4,rfl⟩:=hr4.slice;obtain⟨m4,hm4⟩:∃m4,m4=(o.left t).length:=⟨_,rfl⟩;rw[<-hm4]at hr4 ⊢;have hml:m4<=o.L.length:=by rw[hm4];exact List.length_filter_le _ _
 have hl16:=zI hml (Ob.lenE HO.out);have HR4:=qA hr4;have HM4:=qA hm4;clear HW3 HK3 HL HQ c6 c7 hF4 hq4 HF4 hr4 HF3 hml d3 d4 d5;by_cases hE:o.E<=m4
 {
 have d6:decide ((m4:Int)≥o.E)=true:=qG (by omega);have d7:decide (m4≥o.E)=true:=qG (by omega);have d8:decide (o.E<=m4)=true:=qG (by omega);have HC:=qA (show o.addC u v t=12 by unfold Ob.addC;rw[qC HN.out,qC (by have:=HT.out;omega),qC (by have:=HOV.out;omega),<-HM4.out];exact qD hE);clear hE hl16 hm4;go_wp2_with fail
 go_ret;have e:=HC.out;refine⟨by rw[e];rfl,?_⟩;unfold Ob.add;rw[e,qC (by decide)];exact HW4.out.drop2};have d6:decide ((m4:Int)≥o.E)=false:=qF (by omega);have d7:decide (m4≥o.E)=false:=qF (by omega);have d8:decide (o.E<=m4)=false:=qF (by omega);have HE:=qA hE;clear hE;have HI:=qA (aYN (HR4.out.fr0 (Fr.refl [] w4).drew) (show(o.left t).length<=16384 by rw[<-hm4];exact hl16));have hil:(fN (o.left t)).length<=2*16384:=zI (zU _ _ rfl) (by rw[<-hm4];omega);have hil2:(eJ u (fN (o.left t))).length<=2*16384+1:=zI (nI _ _) (by omega);have HIL:=qA (show(fN (o.left t)).length<=60000/\(eJ u (fN (o.left t))).length<=60000 from⟨by omega,by omega⟩);have HQ:=qA (fun(w' :World) (hf:Fr [] w4.drew w')=>zJ (hf.cell (((Fr.refl [] w4).drew).cell c3 (by simp)) (by simp)) (zJ (hf.cell (((Fr.refl [] w4).drew).cell q0 (by simp)) (by simp)) (hf.cell (((Fr.refl [] w4).drew).cell q1 (by simp)) (by simp))));obtain⟨il,hilx⟩:∃il,il=(Ob.idsUV (o.left t) u v).length:=⟨_,rfl⟩;have HIX:=qA hilx;clear hilx hil hil2 hm4 hl16;go_wp2_with fail
 go_region_held3 (fun w' => w'.cell? ⟨p, 3, none⟩ = some (.int .i64 o.V) /\ w'.cell? ⟨xb, 0, none⟩ = some (.int .u64 u) /\ w'.cell? ⟨xb, 1, none⟩ = some (.int .u64 v))
   (first
     | go_keep
     | (exact HQ.out _ hF7)
     | (exact HQ.out _ hF6)
     | (exact HQ.out _ hF5))
   (first
     | (go_at_call 100;refine(aBP hr6 (nV (jT _)) v HIL.out.2).mono ?_;rintro _ w7 ⟨v7,rfl,hr7,hF7', hq7⟩;have hF7:=hF6.trans' hF7'; obtain⟨a7,k7,rfl⟩:=hr7.slice;rw[show(eJ v (eJ u (fN (o.left t)))).length=il from HIX.out.symm])
     | (go_at_call 100;refine(aBP hr5 (jT _) u HIL.out.1).mono ?_;rintro _ w6 ⟨v6,rfl,hr6,hF6', hq6⟩;have hF6:=hF5.trans' hF6')
     | (go_at_call 62;refine HI.out.mono ?_;rintro _ w5 ⟨v5,rfl,hr5,hF5,hq5⟩))
 have HF7:=qA ((Fr.refl [] w4).drew.trans' hF7);have HW7:=qA (HW4.out.fr0 HF7.out);have q3:=HF7.out.cell q3 (by simp);clear hr7 hq7 hr6 hr5 hF5 hF6 hF6' hF7' hq5 hq6 HI HQ hF7 q0 q1 c2 c3 HW4 HF7 HIL HR4 d6 d7 d8;have HC:=qA (show o.addC u v t=if o.V<il then 11 else 0 by unfold Ob.addC;rw[qC HN.out,qC (by have:=HT.out;omega),qC (by have:=HOV.out;omega),<-HM4.out,qC HE.out,HIX.out]);clear HIX;by_cases hV:o.V<il
 {
 have d6:decide (il>o.V)=true:=qG (by omega);have d7:decide ((il:Int)>o.V)=true:=qG (by omega);have d8:decide ((o.V:Int)<il)=true:=qG (by omega);have d9:decide (o.V<il)=true:=qG (by omega);have HC:=qA (HC.out.trans (qD hV));clear hV;try rw[d7]
 try rw[d8]
 try rw[d6]
 try rw[d9]
 go_wp2_with fail
 go_ret;have e:=HC.out;refine⟨by rw[e];rfl,?_⟩;unfold Ob.add;rw[e,qC (by decide)];exact HW7.out.drop2};have d6:decide (il>o.V)=false:=qF (by omega);have d7:decide ((il:Int)>o.V)=false:=qF (by omega);have d8:decide ((o.V:Int)<il)=false:=qF (by omega);have d9:decide (o.V<il)=false:=qF (by omega);have HC:=qA (HC.out.trans (qC hV));clear hV;try rw[d7]
 try rw[d8]
 try rw[d6]
 try rw[d9]
 have HTK:=qA (show Calls Tryz.prog 68 #[cE p,.int .i64 t] w7 fun e w' =>e=.returned (.int .i64 0)/\Wd W w' (thF p (o.tick t)::thB xb 72 [.int .u64 u,.int .u64 v,.int .i64 wt,.int .i64 t]::ts) by
   have k:=aJE HW7.out HO.out t ht2;have e0:gJ t o.m=0:=qD HOV.out.1;have e1:cY o.m o.now t=0:=by unfold cY;rw[qC (by have:=HT.out;omega)];exact e0
   have e2:o.tickS t=o.tick t:=by unfold Ob.tickS;exact qD e1
   rw[e1,e2]at k;exact k)
 go_wp2_with fail
 refine HTK.out.mono ?_;rintro _ w8 ⟨rfl,hW8⟩;clear HTK HW7 d6 d7 d8 d9 q3;have e2:iN t o.m=t+o.m:=qD HOV.out.1;obtain⟨x,hx⟩:∃x:Lv,x=⟨0,o.last+1,u,v,wt,t,t+o.m⟩:=⟨_,rfl⟩;rw[e2,show t+o.m=x.x by rw[hx]];obtain⟨K8,⟨a1,c1,h1,h2,h3,rfl⟩,hs⟩:=hW8.open;have c7:=h1.cell 7;have z7:=h1.frozen 7;simp only[rfC,zK,zL]at c7;rw[show(o.tick t).last=o.last from rfl]at c7;have hw:IntKind.u64.wrap ((o.last:Int)+1)=(x.seq:Int):=by rw[hx];have:=HOV.out;simp[IntKind.wrap,IntKind.bits,IntKind.signed];omega
 have H8:=qA (zJ h1 (zJ h2 h3));have HS8:=qA (fun(w' :World) (t' :Th) (k:Stp w8 w' (p::(Value.slice a1 (o.tick t).L.length c1).ownBlock.toList) t')=>hs k);have HX:=qA hx;clear h1 h2 h3 hs hW8 hx e2;go_wp2_with fail
 clear c7 z7 hw;have HW9:=qA (HS8.out (w8.setCell ⟨p,7,none⟩ (.int .u64 x.seq)) (thF p { o.tick t with last:=x.seq }) ⟨_,⟨a1,c1,H8.out.1.set 7 (.int .u64 x.seq),H8.out.2.1.fr ((Fr.refl [p] w8).setCell _ _ (.inl (by simp))) (fun q hq hm=>H8.out.2.2 q hq (qH.1 hm)),H8.out.2.2,rfl⟩,(Fr.refl _ w8).setCell _ _ (.inl (by simp)),fun q hq=>.inl hq⟩);clear H8 HS8;generalize w8.setCell ⟨p,7,none⟩ (.int .u64 x.seq)=w9 at *;obtain⟨_,hbx,_⟩:=HW9.out.swap.get;clear a1 c1;obtain⟨K9,⟨a1,c1,h1,h2,h3,rfl⟩,hs⟩:=HW9.out.open;have HS9:=qA (fun(w' :World) (t' :Th) (k:Stp w9 w' (p::(Value.slice a1 (o.tick t).L.length c1).ownBlock.toList) t')=>hs k);obtain⟨l,hl⟩:∃l,l=o.left t:=⟨_,rfl⟩;obtain⟨n1,hn1⟩:∃n1,n1=l.length:=⟨_,rfl⟩;have h2:bH w9 (.slice a1 n1 c1) l:=by rw[hn1,hl];exact h2
 have h1:Blk w9 p 102 (rfC { o.tick t with last:=x.seq } (.slice a1 n1 c1)):=by rw[hn1,hl];exact h1
 have hbx:Blk w9 xb 72 [.int .u64 x.u,.int .u64 x.v,.int .i64 x.wt,.int .i64 x.t]:=by rw[HX.out];exact hbx
 have hle:l.length<=16384:=by rw[hl];exact zI (List.length_filter_le _ _) (Ob.lenE HO.out)
 have H9:=qA (zJ h1 (zJ hbx (zJ h2 h3)));have HLN:=qA (zJ hl (zJ hn1 hle));clear h1 hbx h2 h3 hs hl hn1 hle;refine tM (I17 p (.slice a1 n1 c1) l x w9) (by kernel_rfl) (by kernel_rfl) ⟨fun _=>lP.start w9 aQW,fun e=>(by cases e)⟩ ?_ ?_
 {
 refine(fun(H:∀a:Act,a.tmps.size=102->a.tmps[0]? =some (cE p)->a.tmps[3]? =some (.pointer (some ⟨xb,0,none⟩))->a.tmps[5]? =some (.int .i64 x.x)->∀f,sT _ _ _ _ f a 0 _)=>H _ rfl rfl rfl rfl) fun a hsz t0 t3 t5 f=>?_;refine⟨?_,?_,?_,?_,?_,?_,?_,?_,?_,?_,?_,?_,?_,?_,?_,?_,?_,?_,?_,trivial⟩
 {
 intro b hb hf hg;have hbs:b.tmps.size=102:=hb.trans hsz;have T0:=cR ((hg 0 (by kernel_rfl)).trans t0);clear hf hg hb;refine eK rfl rfl (by kernel_rfl) (by decide) fun L w hd hnL hI=>?_;go_simp;exact hI.pass rfl (Fr.refl [] w) (dN (by decide) (by decide) (by decide) (by decide))}
 {
 intro b hb hf hg;have hbs:b.tmps.size=102:=hb.trans hsz;clear hf hg hb;refine eK rfl rfl (by kernel_rfl) (by decide) fun L w hd hnL hI=>?_;go_simp;exact hI.new trivial ((Fr.refl [] w).alloc _) (bH.mt w) aQO aQU}
 {
 intro b hb hf hg;have hbs:b.tmps.size=102:=hb.trans hsz;have T0:=cR ((hg 0 (by kernel_rfl)).trans t0);clear hf hg hb;refine eK rfl rfl (by kernel_rfl) (by decide) fun L w hd hnL hI=>?_;go_simp;exact hI.pass rfl (Fr.refl [] w) (dN (by decide) (by decide) (by decide) (by decide))}
 {
 intro b hb hf hg;have hbs:b.tmps.size=102:=hb.trans hsz;have t86:b.tmps[86]? =some (f 2):=hf 2 86 (by decide) (by kernel_rfl) (by rw[hsz];decide);have T86:=cR t86;clear hf hg hb;refine eK rfl rfl (by kernel_rfl) (by decide) fun L w hd hnL hI=>?_;have e2:f 2=cE p:=hI.1 2 (cQ hd 2 (by decide));rw[e2]at T86;go_simp;exact hI.pass rfl (Fr.refl [] w) (dN (by decide) (by decide) (by decide) (by decide))}
 {
 intro b hb hf hg;have hbs:b.tmps.size=102:=hb.trans hsz;have t87:b.tmps[87]? =some (f 3):=hf 3 87 (by decide) (by kernel_rfl) (by rw[hsz];decide);have T87:=cR t87;clear hf hg hb;refine eK rfl rfl (by kernel_rfl) (by decide) fun L w hd hnL hI=>?_;have e3:f 3=.pointer (some ⟨p,0,none⟩):=hI.1 3 (cQ hd 3 (by decide));rw[e3]at T87;go_simp;exact hI.pass rfl (Fr.refl [] w) (dN (by decide) (by decide) (by decide) (by decide))}
 {
 intro b hb hf hg;have hbs:b.tmps.size=102:=hb.trans hsz;have t88:b.tmps[88]? =some (f 4):=hf 4 88 (by decide) (by kernel_rfl) (by rw[hsz];decide);have T88:=cR t88;clear hf hg hb;refine eK rfl rfl (by kernel_rfl) (by decide) fun L w hd hnL hI=>?_;have e4:f 4=.pointer (some ⟨p,6,none⟩):=hI.1 4 (cQ hd 4 (by decide));rw[e4]at T88;have c6:=(hI.fr.blk H9.out.1 (by simp)).cell 6;have c7:=(hI.fr.blk H9.out.1 (by simp)).cell 7;simp only[rfC,zK,zL]at c6 c7;go_simp;exact hI.pass rfl (Fr.refl [] w) (dN (by decide) (by decide) (by decide) (by decide))}
 {
 intro b hb hf hg;have hbs:b.tmps.size=102:=hb.trans hsz;have t85:b.tmps[85]? =some (f 1):=hf 1 85 (by decide) (by kernel_rfl) (by rw[hsz];decide);have T85:=cR t85;have t89:b.tmps[89]? =some (f 5):=hf 5 89 (by decide) (by kernel_rfl) (by rw[hsz];decide);have T89:=cR t89;clear hf hg hb;refine eK rfl rfl (by kernel_rfl) (by decide) fun L w hd hnL hI=>?_;have e5:f 5=.slice a1 n1 c1:=hI.1 5 (cQ hd 5 (by decide));have hr1:g17 l x L 1=some []:=qD ⟨cQ hd 1 (by decide),hnL⟩;have hy:bH w (f 5) l:=by rw[e5];exact H9.out.2.2.1.fr0 hI.fr
 refine aQM (.tmp 85) (.tmp 89) rfl (aBQ t85) (aBQ t89) (hI.row hr1) hy (by have:=HLN.out.2.2;simp;omega) fun v' w' k1 k2 k3=>?_;exact hI.app trivial hr1 k2 k1 k3 aQV}
 {
 intro b hb hf hg;have hbs:b.tmps.size=102:=hb.trans hsz;have T0:=cR ((hg 0 (by kernel_rfl)).trans t0);clear hf hg hb;refine eK rfl rfl (by kernel_rfl) (by decide) fun L w hd hnL hI=>?_;go_simp;exact hI.pass rfl (Fr.refl [] w) (dN (by decide) (by decide) (by decide) (by decide))}
 {
 intro b hb hf hg;have hbs:b.tmps.size=102:=hb.trans hsz;have t91:b.tmps[91]? =some (f 7):=hf 7 91 (by decide) (by kernel_rfl) (by rw[hsz];decide);have T91:=cR t91;clear hf hg hb;refine eK rfl rfl (by kernel_rfl) (by decide) fun L w hd hnL hI=>?_;have e7:f 7=cE p:=hI.1 7 (cQ hd 7 (by decide));rw[e7]at T91;go_simp;exact hI.pass rfl (Fr.refl [] w) (dN (by decide) (by decide) (by decide) (by decide))}
 {
 intro b hb hf hg;have hbs:b.tmps.size=102:=hb.trans hsz;have t92:b.tmps[92]? =some (f 8):=hf 8 92 (by decide) (by kernel_rfl) (by rw[hsz];decide);have T92:=cR t92;clear hf hg hb;refine eK rfl rfl (by kernel_rfl) (by decide) fun L w hd hnL hI=>?_;have e8:f 8=.pointer (some ⟨p,0,none⟩):=hI.1 8 (cQ hd 8 (by decide));rw[e8]at T92;go_simp;exact hI.pass rfl (Fr.refl [] w) (dN (by decide) (by decide) (by decide) (by decide))}
 {
 intro b hb hf hg;have hbs:b.tmps.size=102:=hb.trans hsz;have t93:b.tmps[93]? =some (f 9):=hf 9 93 (by decide) (by kernel_rfl) (by rw[hsz];decide);have T93:=cR t93;clear hf hg hb;refine eK rfl rfl (by kernel_rfl) (by decide) fun L w hd hnL hI=>?_;have e9:f 9=.pointer (some ⟨p,7,none⟩):=hI.1 9 (cQ hd 9 (by decide));rw[e9]at T93;have c6:=(hI.fr.blk H9.out.1 (by simp)).cell 6;have c7:=(hI.fr.blk H9.out.1 (by simp)).cell 7;simp only[rfC,zK,zL]at c6 c7;go_simp;exact hI.pass rfl (Fr.refl [] w) (dN (by decide) (by decide) (by decide) (by decide))}
 {
 intro b hb hf hg;have hbs:b.tmps.size=102:=hb.trans hsz;have T3:=cR ((hg 3 (by kernel_rfl)).trans t3);clear hf hg hb;refine eK rfl rfl (by kernel_rfl) (by decide) fun L w hd hnL hI=>?_;have hb:=hI.fr.blk H9.out.2.1 (by simp);have q0:=hb.cell 0;have q1:=hb.cell 1;have q2:=hb.cell 2;have q3:=hb.cell 3;simp only[zK,zL]at q0 q1 q2 q3;clear hb;go_simp;exact hI.pass rfl (Fr.refl [] w) (dN (by decide) (by decide) (by decide) (by decide))}
 {
 intro b hb hf hg;have hbs:b.tmps.size=102:=hb.trans hsz;have T5:=cR ((hg 5 (by kernel_rfl)).trans t5);clear hf hg hb;refine eK rfl rfl (by kernel_rfl) (by decide) fun L w hd hnL hI=>?_;go_simp;exact hI.pass rfl (Fr.refl [] w) (dN (by decide) (by decide) (by decide) (by decide))}
 {
 intro b hb hf hg;have hbs:b.tmps.size=102:=hb.trans hsz;have t94:b.tmps[94]? =some (f 10):=hf 10 94 (by decide) (by kernel_rfl) (by rw[hsz];decide);have T94:=cR t94;have t95:b.tmps[95]? =some (f 11):=hf 11 95 (by decide) (by kernel_rfl) (by rw[hsz];decide);have T95:=cR t95;have t96:b.tmps[96]? =some (f 12):=hf 12 96 (by decide) (by kernel_rfl) (by rw[hsz];decide);have T96:=cR t96;clear hf hg hb;refine eK rfl rfl (by kernel_rfl) (by decide) fun L w hd hnL hI=>?_;have e10:f 10=.int .u64 x.seq:=hI.1 10 (cQ hd 10 (by decide));rw[e10]at T94;have e11:f 11=.agg #[.int .u64 x.u,.int .u64 x.v,.int .i64 x.wt,.int .i64 x.t]:=hI.1 11 (cQ hd 11 (by decide));rw[e11]at T95;have e12:f 12=.int .i64 x.x:=hI.1 12 (cQ hd 12 (by decide));rw[e12]at T96;go_simp;exact hI.pass rfl (Fr.refl [] w) (dN (by decide) (by decide) (by decide) (by decide))}
 {
 intro b hb hf hg;have hbs:b.tmps.size=102:=hb.trans hsz;have t97:b.tmps[97]? =some (f 13):=hf 13 97 (by decide) (by kernel_rfl) (by rw[hsz];decide);have T97:=cR t97;clear hf hg hb;refine eK rfl rfl (by kernel_rfl) (by decide) fun L w hd hnL hI=>?_;have e13:f 13=.agg #[.int .i64 0,.int .u64 x.seq,.int .u64 x.u,.int .u64 x.v,.int .i64 x.wt,.int .i64 x.t,.int .i64 x.x]:=hI.1 13 (cQ hd 13 (by decide));rw[e13]at T97;go_simp;refine hI.new trivial ((Fr.refl [] w).alloc _) (c:=[x]) ?_ aQO aLW;rw[show x=⟨0,x.seq,x.u,x.v,x.wt,x.t,x.x⟩ by rw[HX.out]];exact bH.one w ⟨0,x.seq,x.u,x.v,x.wt,x.t,x.x⟩}
 {
 intro b hb hf hg;have hbs:b.tmps.size=102:=hb.trans hsz;have t90:b.tmps[90]? =some (f 6):=hf 6 90 (by decide) (by kernel_rfl) (by rw[hsz];decide);have T90:=cR t90;have t98:b.tmps[98]? =some (f 14):=hf 14 98 (by decide) (by kernel_rfl) (by rw[hsz];decide);have T98:=cR t98;clear hf hg hb;refine eK rfl rfl (by kernel_rfl) (by decide) fun L w hd hnL hI=>?_;have hr6:g17 l x L 6=some l:=qD ⟨cQ hd 6 (by decide),hnL⟩;have hr14:g17 l x L 14=some [x]:=qD ⟨cQ hd 14 (by decide),hnL⟩;refine aQM (.tmp 90) (.tmp 98) rfl (aBQ t90) (aBQ t98) (hI.row hr6) (hI.row hr14) (by have:=HLN.out.2.2;simp;omega) fun v' w' k1 k2 k3=>?_;exact hI.app trivial hr6 k2 k1 k3 aLX}
 {
 intro b hb hf hg;have hbs:b.tmps.size=102:=hb.trans hsz;have t84:b.tmps[84]? =some (f 0):=hf 0 84 (by decide) (by kernel_rfl) (by rw[hsz];decide);have T84:=cR t84;clear hf hg hb;refine eK rfl rfl (by kernel_rfl) (by decide) fun L w hd hnL hI=>?_;have e0:f 0=cE p:=hI.1 0 (cQ hd 0 (by decide));rw[e0]at T84;go_simp;exact hI.pass rfl (Fr.refl [] w) (dN (by decide) (by decide) (by decide) (by decide))}
 {
 intro b hb hf hg;have hbs:b.tmps.size=102:=hb.trans hsz;have t100:b.tmps[100]? =some (f 16):=hf 16 100 (by decide) (by kernel_rfl) (by rw[hsz];decide);have T100:=cR t100;clear hf hg hb;refine eK rfl rfl (by kernel_rfl) (by decide) fun L w hd hnL hI=>?_;have e16:f 16=.pointer (some ⟨p,0,none⟩):=hI.1 16 (cQ hd 16 (by decide));rw[e16]at T100;go_simp;exact hI.pass rfl (Fr.refl [] w) (dN (by decide) (by decide) (by decide) (by decide))}
 {
 intro b hb hf hg;have hbs:b.tmps.size=102:=hb.trans hsz;have t101:b.tmps[101]? =some (f 17):=hf 17 101 (by decide) (by kernel_rfl) (by rw[hsz];decide);have T101:=cR t101;have t99:b.tmps[99]? =some (f 15):=hf 15 99 (by decide) (by kernel_rfl) (by rw[hsz];decide);have T99:=cR t99;clear hf hg hb;refine bX rfl rfl fun L w hc hd hnL hI=>?_;have hI:=hI.1 hnL;have e17:f 17=.pointer (some ⟨p,6,none⟩):=hI.1 17 (cQ hd 17 (by decide));rw[e17]at T101;have hr15:g17 l x L 15=some (l++[x]):=qD (cQ hd 15 (by decide));have hr:=hI.row hr15;have hq:=(hI.2.2.1 15 _ hr15).2;have hF:=hI.fr;have hb:=hF.blk H9.out.1 (by simp);have c6:=hb.cell 6;have z6:=hb.frozen 6;simp only[rfC,zK,zL]at c6;obtain⟨y,hy⟩:∃y,y=f 15:=⟨_,rfl⟩;rw[<-hy]at T99 hr hq;obtain⟨a15,c15,rfl⟩:=hr.slice;clear hI;go_simp;refine⟨fun e=>(by rw[dB]at e;cases e),fun _=>⟨w,hF,?_⟩⟩;rw[aJ _ _ (by decide),<-hy];exact⟨hr,hq,by rw[show(l++[x]).length=l.length+1 from zG]⟩}}
 {
 rintro f L wt hL hI;obtain⟨w10,hF,hr,hq,rfl⟩:=hI.2 (hL 18 (by simp));simp only[aGZ];go_simp;have hb:=hF.blk H9.out.1 (by simp);obtain⟨y,hy⟩:∃y,y=f 15:=⟨_,rfl⟩;rw[<-hy]at hr hq ⊢;obtain⟨a15,c15,rfl⟩:=hr.slice;have hb2:=hb.set 6 (.slice a15 (l++[x]).length c15);have HFin:=qA (zJ hF (zJ hr (zJ hq hb2)));clear hF hr hq hb hb2 hy hI hL;go_wp2
 go_ret;obtain⟨hF,hr,hq,hb⟩:=HFin.out;have e:=HC.out;refine⟨by rw[e];rfl,?_⟩;unfold Ob.add;rw[e,qD rfl];have hlt:=H9.out.1.lt;have eL:((o.tick t).put u v wt).L=l++[x]:=by rw[HX.out,HLN.out.1];rfl
 refine(show Wd W _ (thF p ((o.tick t).put u v wt)::thB xb 72 [.int .u64 u,.int .u64 v,.int .i64 wt,.int .i64 t]::ts) from HS9.out _ _ ⟨_,⟨a15,c15,?_,?_,?_,rfl⟩,?_,?_⟩).drop2
 {
 rw[eL];have:rfC ((o.tick t).put u v wt) (.slice a15 (l++[x]).length c15)=(rfC { o.tick t with last:=x.seq } (.slice a1 n1 c1)).set 6 (.slice a15 (l++[x]).length c15):=by rw[HX.out];rfl
 rw[this];rw[show(l++[x]).length=l.length+1 from zG]at hb ⊢;exact hb}
 {
 rw[eL];exact hr.fr ((Fr.refl [p] _).setCell _ _ (.inl (by simp))) (fun q hq' hm=>by have:=hq q hq'; have:=qH.1 hm;omega)}
 {
 rw[eL];intro q hq' e;have:=hq q hq';omega}
 · exact(hF.mono (by simp)).trans ((Fr.refl [p] _).setCell _ _ (.inl (by simp))) (fun b hb=>.inl (by rw[qH.1 hb];simp))
 {
 intro q hq';rcases qB.1 hq' with rfl|hq'
 · exact .inl (by simp)
 · exact .inr (hq q (by rw[<-eL];simpa using hq'))}}
end
section
variable {W wr w w' :World} {p:Nat} {o:Ob} {ts:List Th} {a:Option Addr} {c n:Nat}
theorem aVX{x1 x2 x3 x4 x5 x7 x8:Value}(h:w.cell? ⟨p,1,none⟩=some x1/\w.cell? ⟨p,2,none⟩=some x2/\w.cell? ⟨p,3,none⟩=some x3/\w.cell? ⟨p,4,none⟩=some x4/\w.cell? ⟨p,5,none⟩=some x5/\w.cell? ⟨p,7,none⟩=some x7/\w.cell? ⟨p,8,none⟩=some x8)(hf:Fr [] w w'):
    w'.cell? ⟨p,1,none⟩=some x1/\w'.cell? ⟨p,2,none⟩=some x2/\w'.cell? ⟨p,3,none⟩=some x3/\w'.cell? ⟨p,4,none⟩=some x4/\w'.cell? ⟨p,5,none⟩=some x5/\w'.cell? ⟨p,7,none⟩=some x7/\w'.cell? ⟨p,8,none⟩=some x8:=
  ⟨hf.cell h.1 (by simp),hf.cell h.2.1 (by simp),hf.cell h.2.2.1 (by simp),hf.cell h.2.2.2.1 (by simp),hf.cell h.2.2.2.2.1 (by simp),hf.cell h.2.2.2.2.2.1 (by simp),hf.cell h.2.2.2.2.2.2 (by simp)⟩
theorem aBU{v:Value}(h:Blk w p 102 (rfC o v)):w.cell? ⟨p,1,none⟩=some (.int .i64 o.m)/\w.cell? ⟨p,2,none⟩=some (.int .i64 o.E)/\w.cell? ⟨p,3,none⟩=some (.int .i64 o.V)/\w.cell? ⟨p,4,none⟩=some (.int .i64 o.D)/\w.cell? ⟨p,5,none⟩=some (.int .i64 o.now)/\w.cell? ⟨p,7,none⟩=some (.int .u64 o.last)/\w.cell? ⟨p,8,none⟩=some (.int .u64 o.gone):=
  ⟨h.cell 1,h.cell 2,h.cell 3,h.cell 4,h.cell 5,h.cell 7,h.cell 8⟩
theorem aUV(h:Wd W wr (thF p o::ts))(hl:o.L.length<=16384):Calls Tryz.prog 71 #[cE p] wr fun e w' =>∃q,e=.returned (cE q)/\Wd W w' (thF q o::thF p o::ts):=by
 obtain⟨K,a,c,h1,h2,_⟩:=h.get;have HV:=qA (wR h1);have HL:=qA (aJD (h.fr0 (Fr.refl [] wr).drew) hl);have hh:=aVX (aBU h1) (Fr.refl [] wr).drew;obtain⟨c1,c2,c3,c4,c5,c7,c8⟩:=aBU h1;have HQ:=qA (fun(w' :World) (v:Value) (k:Wd W w' (thV v o.L::thF p o::ts))=>by
   obtain⟨_,_,_,k1,_⟩:=k.swap.get;exact aBU k1)
 obtain⟨n,hn⟩:∃n,n=o.L.length:=⟨_,rfl⟩;rw[<-hn]at HL;have Hn:=qA hn;clear h h1 h2 hn;go_enter Tryz.func71,Tryz.ntmps71
 go_wp2_with fail
 refine HV.out.mono ?_;rintro _ _ ⟨rfl,rfl⟩;clear HV;go_wp2_with fail
 go_region_held3 (fun w' => w'.cell? ⟨p, 1, none⟩ = some (.int .i64 o.m) /\ w'.cell? ⟨p, 2, none⟩ = some (.int .i64 o.E) /\ w'.cell? ⟨p, 3, none⟩ = some (.int .i64 o.V) /\ w'.cell? ⟨p, 4, none⟩ = some (.int .i64 o.D) /\ w'.cell? ⟨p, 5, none⟩ = some (.int .i64 o.now) /\ w'.cell? ⟨p, 7, none⟩ = some (.int .u64 o.last) /\ w'.cell? ⟨p, 8, none⟩ = some (.int .u64 o.gone))
   (first
     | go_keep
     | (exact HQ.out _ _ hW3)
     | (exact aVX (by assumption) ((Fr.refl [] _).alloc _)))
   (first
     | (go_at_call 35;refine HL.out.mono ?_;rintro _ w3 ⟨a3,k3,rfl,hW3⟩))
 have HN:=qA (show Wd W (w3.alloc (.cells #[.bool true,.int .i64 o.m,.int .i64 o.E,.int .i64 o.V,.int .i64 o.D,.int .i64 o.now,.slice a3 n k3,.int .u64 o.last,.int .u64 o.gone] 102)) (thF w3.heap.size o::thF p o::ts) by
   obtain⟨K,⟨k1,rfl⟩,hs⟩:=hW3.open;have hq:=fun q (hq:(Value.slice a3 n k3).ownBlock=some q)=>k1.lt hq;have hF:Fr [] w3 (w3.alloc (.cells #[.bool true,.int .i64 o.m,.int .i64 o.E,.int .i64 o.V,.int .i64 o.D,.int .i64 o.now,.slice a3 n k3,.int .u64 o.last,.int .u64 o.gone] 102)):=(Fr.refl [] w3).alloc _;have hb:Blk (w3.alloc (.cells #[.bool true,.int .i64 o.m,.int .i64 o.E,.int .i64 o.V,.int .i64 o.D,.int .i64 o.now,.slice a3 n k3,.int .u64 o.last,.int .u64 o.gone] 102)) w3.heap.size 102 (rfC o (.slice a3 n k3)):=Blk.new w3 (rfC o (.slice a3 n k3)) 102;rw[Hn.out]at hb hF hq k1 hs ⊢;refine hs ⟨w3.heap.size::(Value.slice a3 o.L.length k3).ownBlock.toList,⟨a3,k3,hb,k1.fr0 hF,fun q hq' e=>?_,rfl⟩,hF.mono (by simp),fun q hq' =>?_⟩
   · have:=hq q hq'; omega
   · rcases qB.1 hq' with rfl | hq'
     · exact .inr (qK _)
     · exact .inl hq')
 clear c1 c2 c3 c4 c5 c7 c8 hh HQ HL hW3;go_wp2
 go_ret;exact⟨_,rfl,HN.out⟩
end
end Go.Proofs.YtjdgpcjbgjnahaaGreatDoor
