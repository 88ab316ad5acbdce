/- store: valid, Len, Verts, Index, ID, IDs, Check. -/
import Derived.Test.YtjdgpcjbgjnahaaGreatDoorD2
import Derived.Maps.OwnOps
import Derived.Maps.OwnSet
import Derived.Test.YtjdgpcjbgjnahaaGreatDoorD1
import Derived.Deep.WholeRow
import Derived.StillTailTactics
import Derived.Sort.WalkA
import Derived.Sort.Walk13a
import Derived.CellFam
import Derived.BigGuard
import Derived.BigCall
import Derived.Deep.Draws
import Derived.Sort.WalkB3
import Derived.Sort.WalkB12
import Derived.Sort.WalkD1
import Derived.Sort.LotD4
import Derived.Shelf.Lay
import Derived.Shelf.Small.Bits
import Derived.Ground.Names2Prog
import Derived.Sort.Walk7
import Derived.Sort.WalkC
import Derived.Sort.WalkC4
import Derived.Sort.WalkA6
import Derived.Sort.Walk13
import Derived.Sort.AssemblyPlain
import Derived.Deep.Cut
import Derived.Deep.RegionHeld3
import Derived.Shelf.SlGeneric
import Derived.Ground.SlgnProg
import Derived.Shelf.SlicesE.Clone
import Derived.Deep.Quiet
set_option maxRecDepth 100000
set_option maxHeartbeats 12800000
set_option linter.unusedSimpArgs false
set_option linter.unusedVariables false
/- A plain model of a store: its limits, the last sequence number, the slots, the vertices, the live edges by their sequence numbers. -/
namespace Go.Proofs.YtjdgpcjbgjnahaaGreatDoor
structure Lv where
  slot:Nat
  seq:Nat
  u:Nat
  v:Nat
  wt:Int
  t:Int
  x:Int
deriving DecidableEq
def Lv.z:Lv:=⟨0,0,0,0,0,0,0⟩
def Lv.at(e:Lv)(id:Nat):Bool:=e.u == id||e.v == id
def bT(L:List Lv)(id:Nat):List Nat:=(L.filter fun e=>e.at id).map (·.slot)
def aG(L:List Lv)(i:Nat):Lv:=(L.find? fun e=>e.slot == i).getD Lv.z
structure Sm where
  V:Nat
  E:Nat
  last:Nat
  A:Ar
  M:Md
  L:List Lv
namespace Sm
structure Ok (s:Sm):Prop where
  ar:s.A.ok
  sl:s.A.slots=s.E
  md:s.M.Ok
  ms:s.M.slots=s.V
  used:∀i,s.A.isUsed i↔∃e∈s.L,e.slot=i
  one:(s.L.map (·.slot)).Nodup
  seq:s.L.Pairwise fun a b=>a.seq<b.seq
  last:∀e∈s.L,e.seq<=s.last
  vert:∀id,(s.M.find id).isSome=true↔bT s.L id≠[]
  ne:∀e∈s.L,e.u≠e.v
  u64:∀e∈s.L,e.u<18446744073709551616/\e.v<18446744073709551616
  leV:s.V<=4096
  leE:s.E<=16384
  lt:s.last<18446744073709551616
def new(V E last:Nat):Sm:={ V:=V,E:=E,last:=last,A:=Ar.new E,M:=Md.new V,L:=[] }
def more(s:Sm)(u v:Nat):Nat:=(if (s.M.find u).isSome=true then 0 else 1)+if (s.M.find v).isSome=true then 0 else 1
def chk(s:Sm)(u v:Nat):Nat:=if u=v then 9 else if s.E<=s.A.used then 12 else if s.V<s.M.L.length+s.more u v then 11 else 0
def slot(s:Sm):Nat:=s.A.next.getD 0
def edge(s:Sm)(u v:Nat)(wt t x:Int):Lv:=⟨s.slot,s.last+1,u,v,wt,t,x⟩
def ins(s:Sm)(u v:Nat)(wt t x:Int):Sm:={ s with last:=s.last+1,A:=s.A.alloc,M:=((s.M.put u).M.put v).M,L:=s.L++[s.edge u v wt t x] }
def delIf(M:Md)(L:List Lv)(id:Nat):Md:=if bT L id=[] then(M.del id).M else M
def rem(s:Sm)(i:Nat):Sm:=
  { s with A:=s.A.put i,L:=s.L.filter (fun e=>e.slot != i),M:=delIf (delIf s.M (s.L.filter fun e=>e.slot != i) (aG s.L i).u) (s.L.filter fun e=>e.slot != i) (aG s.L i).v }
end Sm
theorem vL(L:List Lv)(e:Lv)(id:Nat):bT (L++[e]) id=bT L id++if e.at id then [e.slot] else []:=by
 unfold bT;rw[List.filter_append,List.map_append];congr 1
 by_cases h:e.at id=true<;>simp[h]
theorem eK{L:List Lv}{id i:Nat}:i∈bT L id↔∃e∈L,e.at id=true/\e.slot=i:=by
 unfold bT;simp[qV,qZ,and_assoc]
theorem sR{L:List Lv}(h:(L.map (·.slot)).Nodup)(id:Nat):(bT L id).Nodup:=(List.Sublist.map _ List.filter_sublist).nodup h
theorem iG(L:List Lv)(id i:Nat):bT (L.filter fun e=>e.slot != i) id=(bT L id).filter (· != i):=by
 unfold bT;rw[List.filter_map,List.filter_filter,List.filter_filter];congr 1
 exact List.filter_congr fun e _=>by simp[Bool.and_comm]
theorem kM(L:List Lv)(id:Nat):(bT L id).length<=L.length:=by
 unfold bT;rw[List.length_map];exact List.length_filter_le _ _
theorem fL{L:List Lv}(h:(L.map (·.slot)).Nodup){e:Lv}(he:e∈L):aG L e.slot=e:=by
 unfold aG;induction L with
 | nil=>cases he
 | cons a r ih=>{
 simp only[List.map_cons,qN]at h;by_cases e0:a.slot=e.slot
 {
 rcases qB.1 he with rfl|he
 · simp
 · exact absurd (qV.2 ⟨_,he,e0.symm⟩) h.1}
 {
 rcases qB.1 he with rfl|he
 · exact absurd rfl e0
 · rw[List.find?_cons_of_neg (by simpa using e0)];exact ih h.2 he}}
theorem rB{L:List Lv}{i:Nat}(h:∀e∈L,e.slot≠i):aG L i=Lv.z:=by
 unfold aG;rw[List.find?_eq_none.2 (fun e he=>by simpa using h e he)];rfl
theorem zK{L:List Lv}{e:Lv}(h:∀x∈L,x.slot≠e.slot)(i:Nat):aG (L++[e]) i=if i=e.slot then e else aG L i:=by
 unfold aG;by_cases hi:i=e.slot
 {
 subst hi;rw[qD rfl,List.find?_append,List.find?_eq_none.2 (fun x hx=>by simpa using h x hx)];simp}
 {
 rw[qC hi,List.find?_append];have hn:(e.slot == i)=false:=by simp;omega
 simp[hn]}
theorem uO{L:List Lv}(i j:Nat):aG (L.filter fun e=>e.slot != i) j=if j=i then Lv.z else aG L j:=by
 by_cases hj:j=i
 {
 subst hj;rw[qD rfl];exact rB fun e he=>by simpa using (qZ.1 he).2}
 {
 rw[qC hj];unfold aG;rw[List.find?_filter];congr 1
 congr 1
 funext e
 by_cases he:e.slot=j
 · subst he;simp[hj]
 · simp[he]}
theorem wX{A:Ar}(h:A.used<A.slots):∃i,A.next=some i:=by
 obtain⟨s,b,f⟩:=A;cases f with
 | nil=>{
 have hb:b<s:=by simpa[Ar.used] using h
 exact⟨b,qD hb⟩}
 | cons k r=>exact⟨k,rfl⟩
theorem sS{A:Ar}(hok:A.ok){i:Nat}(h:A.next=some i):i<A.slots:=by
 obtain⟨s,b,f⟩:=A;cases f with
 | nil=>{
 simp only[Ar.next]at h;split at h
 · cases h;assumption
 · cases h}
 | cons k r=>{
 cases h;exact Nat.lt_of_lt_of_le (hok.lt _ (List.mem_cons_self ..)) hok.hb}
theorem aGB{A:Ar}(h:A.ok){k:Nat}(hu:A.isUsed k):(A.put k).ok:=by
 refine⟨h.hs,h.hb,?_,?_⟩
 · simp only[Ar.put,qN];exact⟨hu.2,h.nd⟩
 {
 intro x hx;simp only[Ar.put,qB]at hx;rcases hx with rfl|hx
 · exact hu.1
 · exact h.lt x hx}
theorem sT(A:Ar):A.alloc.slots=A.slots:=by
 obtain⟨s,b,f⟩:=A;cases f<;>rfl
theorem jL(M:Md)(id:Nat):(M.put id).M.slots=M.slots:=by
 unfold Md.put;cases M.find id with
 | some i=>rfl
 | none=>cases M.next<;>rfl
theorem wY(M:Md)(id:Nat):(M.del id).M.slots=M.slots:=by
 unfold Md.del;cases M.find id<;>rfl
theorem aML{M:Md}(h:M.Ok)(hl:M.L.length<M.slots):∃i,M.next=some i:=by
 have hc:=h.cnt;obtain⟨s,L,f,g⟩:=M;cases f with
 | nil=>{
 have hb:g<s:=by simp at hc hl;omega
 exact⟨g,qD hb⟩}
 | cons k r=>exact⟨k,rfl⟩
def aCG(M:Md)(id:Nat):Prop:=(M.find id).isSome=true∨M.L.length<M.slots
theorem sU{M:Md}(h:M.Ok){id i:Nat}(hid:id<18446744073709551616)(hf:M.find id=none)(hn:M.next=some i)(x:Nat):(M.add id i).find x=if x=id then some i else M.find x:=by
 have hok:=Md.ok_add h hid hf hn;by_cases hx:x=id
 {
 subst hx;rw[qD rfl];exact(Md.find_iff hok).2 (by simp[Md.add])}
 {
 rw[qC hx];cases hy:M.find x with
 | some j=>exact(Md.find_iff hok).2 (by have:=Md.find_mem hy;simp[Md.add,this])
 | none=>{
 refine Md.find_none.2 fun j hm=>?_;simp only[Md.add,qE,qH,zD]at hm;rcases hm with hm|⟨e,_⟩
 · exact Md.find_none.1 hy j hm
 · exact hx e}}
theorem kN{M:Md}(h:M.Ok){id:Nat}(hid:id<18446744073709551616)(hf:aCG M id):
    (M.put id).err=0/\(∀x,((M.put id).M.find x).isSome=true↔((M.find x).isSome=true∨x=id))/\(M.put id).M.L.length=M.L.length+(if (M.find id).isSome=true then 0 else 1)/\(M.put id).M.find id=some (M.put id).idx:=by
 unfold Md.put;cases hi:M.find id with
 | some i=>{
 refine⟨rfl,fun x=>⟨.inl,fun hx=>hx.elim (fun h=>h) fun e=>?_⟩,by simp,hi⟩;subst e;rw[hi];rfl}
 | none=>{
 have hl:M.L.length<M.slots:=hf.resolve_left (by rw[hi];simp);obtain⟨i,hn⟩:=aML h hl;simp only[hn];refine⟨trivial,fun x=>?_,by simp[Md.add],by rw[sU h hid hi hn,qD rfl]⟩;rw[sU h hid hi hn];by_cases hx:x=id
 · simp[hx]
 · simp[hx]}
theorem aII{M:Md}(h:M.Ok)(id x:Nat):((M.del id).M.find x).isSome=true↔((M.find x).isSome=true/\x≠id):=by
 unfold Md.del;cases hi:M.find id with
 | none=>{
 refine⟨fun hx=>⟨hx,fun e=>?_⟩,fun hx=>hx.1⟩;subst e;rw[hi]at hx;cases hx}
 | some i=>{
 have hok:=Md.ok_rem h (Md.find_mem hi);simp only[qU];constructor
 {
 rintro⟨j,hj⟩;have hm:=Md.find_mem hj;simp only[Md.rem,qZ,bne_iff_ne]at hm;exact⟨⟨j,(Md.find_iff h).2 hm.1⟩,hm.2⟩}
 {
 rintro⟨⟨j,hj⟩,hne⟩;refine⟨j,(Md.find_iff hok).2 ?_⟩;simp only[Md.rem,qZ,bne_iff_ne];exact⟨Md.find_mem hj,hne⟩}}
namespace Sm
section
variable {s:Sm}
theorem ok_new{V E last:Nat}(hV:V<=4096)(hE:E<=16384)(hl:last<18446744073709551616):(new V E last).Ok:=by
 refine⟨⟨by simp[new,Ar.new];omega,by simp[new,Ar.new],by simp[new,Ar.new],by simp[new,Ar.new]⟩,rfl,Md.ok_new (by omega),rfl,fun i=>?_,by simp[new],by simp[new],by simp[new],fun id=>?_,by simp[new],by simp[new],hV,hE,hl⟩
 · simp[new,Ar.new,Ar.isUsed]
 · simp[new,Md.new,Md.find,bT]
theorem len_used(h:s.Ok):s.A.used=s.L.length:=by
 rw[<-vK h.ar];have:=((List.perm_ext_iff_of_nodup (rA s.A) h.one).2 fun i=>by rw[pK,h.used];simp).length_eq;rw[List.length_map]at this;exact this
theorem chk_ok(_h:s.Ok){u v:Nat}(hc:s.chk u v=0):u≠v/\s.A.used<s.E/\s.M.L.length+s.more u v<=s.V:=by
 unfold chk at hc;split at hc
 · cases hc
 {
 split at hc
 · cases hc
 {
 split at hc
 · cases hc
 · exact⟨by assumption,by omega,by omega⟩}}
theorem slot_next(h:s.Ok){u v:Nat}(hc:s.chk u v=0):s.A.next=some s.slot:=by
 obtain⟨i,hi⟩:=wX (A:=s.A) (by rw[h.sl];exact(chk_ok h hc).2.1);unfold slot;rw[hi];rfl
theorem fits_uv(h:s.Ok){u v:Nat}(hu:u<18446744073709551616)(hc:s.chk u v=0):aCG s.M u/\aCG (s.M.put u).M v:=by
 obtain⟨hne,_,hle⟩:=chk_ok h hc;unfold more at hle;have hs:=h.ms;have h1:aCG s.M u:=by {
 unfold aCG;by_cases hf:(s.M.find u).isSome=true
 · exact .inl hf
 · rw[qC hf]at hle;exact .inr (by omega)};obtain⟨_,p2,p3,_⟩:=kN h.md hu h1;refine⟨h1,?_⟩;unfold aCG;rw[p2,p3,jL];by_cases hf:(s.M.find v).isSome=true
 · exact .inl (.inl hf)
 {
 rw[qC hf]at hle;refine .inr ?_;omega}
theorem ok_ins(h:s.Ok){u v:Nat}(hu:u<18446744073709551616)(hv:v<18446744073709551616)(hc:s.chk u v=0)(hl:s.last+1<18446744073709551616)(wt t x:Int):(s.ins u v wt t x).Ok:=by
 obtain⟨hne,hlt,_⟩:=chk_ok h hc;have hn:=slot_next h hc;obtain⟨f1,f2⟩:=fits_uv h hu hc;obtain⟨hnu,hiff⟩:=Md.isUsed_alloc' h.ar hn;have hnew:∀e∈s.L,e.slot≠s.slot:=fun e he ee=>hnu ((h.used _).2 ⟨e,he,ee⟩);obtain⟨_,p2,_,_⟩:=kN h.md hu f1;have hok1:=Md.ok_put h.md hu;obtain⟨_,q2,_,_⟩:=kN hok1 hv f2;refine⟨Md.alloc_ok h.ar hn,(sT _).trans h.sl,Md.ok_put hok1 hv,(jL _ _).trans ((jL _ _).trans h.ms),fun i=>?_,?_,?_,?_,fun id=>?_,?_,?_,h.leV,h.leE,hl⟩
 {
 simp only[ins];rw[hiff,h.used];simp only[qE,qH];constructor
 {
 rintro(⟨e,he,rfl⟩|rfl)
 · exact⟨e,.inl he,rfl⟩
 · exact⟨_,.inr rfl,rfl⟩}
 {
 rintro⟨e,he|rfl,rfl⟩
 · exact .inl ⟨e,he,rfl⟩
 · exact .inr rfl}}
 {
 simp only[ins,List.map_append,List.map_cons,List.map_nil,qM];refine⟨h.one,by simp,fun a ha b hb e=>?_⟩;simp only[qH]at hb;obtain⟨x,hx,rfl⟩:=qV.1 ha;exact hnew x hx (e.trans hb)}
 {
 simp only[ins];rw[List.pairwise_append];refine⟨h.seq,by simp,fun a ha b hb=>?_⟩;obtain rfl:=qH.1 hb;exact Nat.lt_succ_of_le (h.last a ha)}
 {
 intro e he;simp only[ins,qE,qH]at he;rcases he with he|rfl
 · exact Nat.le_succ_of_le (h.last e he)
 · exact qJ _}
 {
 simp only[ins];rw[q2,p2,h.vert,vL];have hat:(s.edge u v wt t x).at id=true↔u=id∨v=id:=by simp[Lv.at,edge]
 by_cases h1:(s.edge u v wt t x).at id=true
 {
 rw[qD h1];refine⟨fun _=>by simp,fun _=>?_⟩;rcases hat.1 h1 with e|e
 · exact .inl (.inr e.symm)
 · exact .inr e.symm}
 {
 rw[qC h1,List.append_nil];refine⟨fun h2=>?_,fun h2=>.inl (.inl h2)⟩;rcases h2 with(h2|h2)|h2
 · exact h2
 · exact absurd (hat.2 (.inl h2.symm)) h1
 · exact absurd (hat.2 (.inr h2.symm)) h1}}
 {
 intro e he;simp only[ins,qE,qH]at he;rcases he with he|rfl
 · exact h.ne e he
 · exact hne}
 {
 intro e he;simp only[ins,qE,qH]at he;rcases he with he|rfl
 · exact h.u64 e he
 · exact⟨hu,hv⟩}
theorem live_used(h:s.Ok){i:Nat}(hu:s.A.isUsed i):aG s.L i∈s.L/\(aG s.L i).slot=i:=by
 obtain⟨e,he,rfl⟩:=(h.used i).1 hu;rw[fL h.one he];exact⟨he,rfl⟩
theorem delIf_ok{M:Md}(h:M.Ok)(L:List Lv)(id:Nat):(delIf M L id).Ok:=by
 unfold delIf;split
 · exact Md.ok_del h id
 · exact h
theorem delIf_slots(M:Md)(L:List Lv)(id:Nat):(delIf M L id).slots=M.slots:=by
 unfold delIf;split
 · exact wY M id
 · rfl
theorem delIf_find{M:Md}(h:M.Ok)(L:List Lv)(id x:Nat):((delIf M L id).find x).isSome=true↔((M.find x).isSome=true/\(x=id->bT L id≠[])):=by
 unfold delIf;split
 {
 rename_i hn;rw[aII h];refine and_congr_right fun _=>⟨fun h1 h2=>absurd h2 h1,fun h1 h2=>h1 h2 hn⟩}
 {
 rename_i hn;exact⟨fun h1=>⟨h1,fun _=>hn⟩,fun h1=>h1.1⟩}
theorem ok_rem(h:s.Ok){i:Nat}(hu:s.A.isUsed i):(s.rem i).Ok:=by
 obtain⟨hm,hs⟩:=live_used h hu;have hiff:=Md.isUsed_put' hu;have ho1:=delIf_ok h.md (s.L.filter fun e=>e.slot != i) (aG s.L i).u;refine⟨aGB h.ar hu,h.sl,delIf_ok ho1 _ _,?_,fun j=>?_,(List.Sublist.map _ List.filter_sublist).nodup h.one,h.seq.sublist List.filter_sublist,fun e he=>h.last e (qZ.1 he).1,fun id=>?_,fun e he=>h.ne e (qZ.1 he).1,fun e he=>h.u64 e (qZ.1 he).1,h.leV,h.leE,h.lt⟩
 · simp only[rem,delIf_slots];exact h.ms
 {
 simp only[rem];rw[hiff,h.used];simp only[qZ,bne_iff_ne];constructor
 · rintro⟨⟨e,he,rfl⟩,hj⟩;exact⟨e,⟨he,hj⟩,rfl⟩
 · rintro⟨e,⟨he,hj⟩,rfl⟩;exact⟨⟨e,he,rfl⟩,hj⟩}
 {
 simp only[rem];rw[delIf_find ho1,delIf_find h.md,h.vert];constructor
 {
 rintro⟨⟨h1,h2⟩,h3⟩;by_cases e1:id=(aG s.L i).u
 · rw[e1];exact h2 e1
 {
 by_cases e2:id=(aG s.L i).v
 · rw[e2];exact h3 e2
 {
 intro e3;apply h1;refine List.eq_nil_iff_forall_not_mem.2 fun k hk=>?_;rw[iG]at e3;have hki:k=i:=by {
 apply qP;intro hne;have:k∈(bT s.L id).filter (· != i):=qZ.2 ⟨hk,by simpa using hne⟩;rw[e3]at this;cases this};subst hki;obtain⟨e,he,hat,hes⟩:=eK.1 hk;have:e=aG s.L k:=by rw[<-hes,fL h.one he]
 subst this;unfold Lv.at at hat;simp only[Bool.or_eq_true,beq_iff_eq]at hat;rcases hat with hat|hat
 · exact e1 hat.symm
 · exact e2 hat.symm}}}
 {
 intro h1;refine⟨⟨fun e=>h1 ?_,fun e=>e▸h1⟩,fun e=>e▸h1⟩;rw[iG,e];rfl}}
end
end Sm
end Go.Proofs.YtjdgpcjbgjnahaaGreatDoor
namespace Go.Proofs.YtjdgpcjbgjnahaaGreatDoor
open Go.RowKit Go.Maps
def sV(ok:Value->Bool)(v:Value):Option (DataW Value×List MemPlace):=if ok v then some (.held v,[]) else none
theorem wZ{ok:Value->Bool}{v:Value}(h:ok v=true):sV ok v=some (.held v,[]):=by simp[sV,h]
theorem oC{ok:Value->Bool}{v u:Value}{ps:List MemPlace}(h:sV ok v=some (.held u,ps)):v=u:=by
 unfold sV at h;split at h
 · simp only[qI,zD,DataW.held.injEq]at h;exact h.1
 · cases h
theorem mQ{H:Type}{w:World}{P:Program}{k:TypeId}{R:Value->Option (DataW H×List MemPlace)}{b n:Nat}{D:DataW H}(h:w.ownsMap P k R b n D):w.ownsMap P k R b (Maps.size D) D:=by
 obtain⟨es,clock,hb,F,_,rfl⟩:=h;exact⟨es,clock,hb,F,by simp[Maps.size,length_sorted],rfl⟩
theorem xA{H:Type}{w w' :World}{P:Program}{k:TypeId}{R:Value->Option (DataW H×List MemPlace)}{b n:Nat}{D:DataW H}(h:w.ownsMap P k R b n D)(e:w'.heap[b]? =w.heap[b]?):w'.ownsMap P k R b n D:=by
 obtain⟨es,clock,hb,r⟩:=h;exact⟨es,clock,e.trans hb,r⟩
def jM(m:Int->Option Value)(a:Int)(v:Option Value):Int->Option Value:=fun x=>if x=a then v else m x
theorem cG(m:Int->Option Value)(a:Int)(v:Option Value):jM m a v a=v:=by simp[jM]
theorem bK{m:Int->Option Value}{a x:Int}{v:Option Value}(h:x≠a):jM m a v x=m x:=by simp[jM,h]
def cV(P:Program)(k:TypeId)(q:IntKind)(ok:Value->Bool)(w:World)(b:Nat)(m:Int->Option Value)(n:Nat):Prop:=
  ∃D:DataW Value,w.ownsMap P k (sV ok) b n D/\Tidy D/\Maps.size D=n /\
    ∀a:Int,(Lit.int q a).wf=true->(Maps.has D (.int q a)=(m a).isSome/\∀v,m a=some v->ok v=true/\∀z,D.atKey (.int q a) z=.held v)
section
variable {P:Program} {k t e:TypeId} {q:IntKind} {ok:Value->Bool} {w w' :World} {b n:Nat} {m:Int->Option Value}
theorem cV.same(h:cV P k q ok w b m n)(he:w'.heap[b]? =w.heap[b]?):cV P k q ok w' b m n:=by
 obtain⟨D,h1,h2⟩:=h;exact⟨D,xA h1 he,h2⟩
theorem cV.lt(h:cV P k q ok w b m n):b<w.heap.size:=by obtain⟨D,h1,_⟩:=h;exact h1.lt
theorem cV.made(w:World)(P:Program)(k:TypeId)(q:IntKind)(ok:Value->Bool):cV P k q ok (w.alloc (.map #[] 0)) w.heap.size (fun _=>none) 0:=
  ⟨_,World.ownsMap_made w P k (sV ok),tidy_empty,rfl,fun _ _=>⟨rfl,fun _ h=>by cases h⟩⟩
theorem cV.run_get(h:cV P k q ok w b m n)(hk:P.underlying k=some (.int q))(ht:P.underlying t=some (.map k e)){z:Value}(hz:(zeroValue e).run P w=.ok z w)(hzo:ok z=true){a:Int}(ha:(Lit.int q a).wf=true):
    (Instr.lookup t (.map (some b)) (.int q a) false).run P w=.ok ((m a).getD z) w:=by
 obtain⟨D,h1,h2,_,h3⟩:=h;obtain⟨v,ps,hr,hv⟩:=h1.lookup (int_keyed hk) ht hz (wZ hzo) (keyOf_int_mk hk ha);rw[hr];cases hm:m a with
 | some u=>{
 rw[((h3 a ha).2 u hm).2]at hv;rw[oC hv];rfl}
 | none=>{
 have hn:=(h3 a ha).1;rw[hm]at hn;rw[atKey_of_not_has hn]at hv;rw[oC hv];rfl}
theorem cV.run_ok(h:cV P k q ok w b m n)(hk:P.underlying k=some (.int q))(ht:P.underlying t=some (.map k e)){z:Value}(hz:(zeroValue e).run P w=.ok z w)(hzo:ok z=true){a:Int}(ha:(Lit.int q a).wf=true):
    (Instr.lookup t (.map (some b)) (.int q a) true).run P w=.ok (.tuple #[(m a).getD z,.bool (m a).isSome]) w:=by
 obtain⟨D,h1,h2,_,h3⟩:=h;obtain⟨v,ps,hr,hv⟩:=h1.look_ok (int_keyed hk) ht hz (wZ hzo) (keyOf_int_mk hk ha);rw[hr,(h3 a ha).1];cases hm:m a with
 | some u=>{
 rw[((h3 a ha).2 u hm).2]at hv;rw[oC hv];rfl}
 | none=>{
 have hn:=(h3 a ha).1;rw[hm]at hn;rw[atKey_of_not_has hn]at hv;rw[oC hv];rfl}
theorem Fr.of_turned(h:w.mapTurned w' b):Fr [b] w w' :=(Fr.refl [b] w).grown h.grown (fun k e=>.inl (by simp at e;simp[e]))
theorem nA(q:IntKind)(a:Int):WideAt.IsKeyLit (.int q a):=trivial
theorem cV.put(h:cV P k q ok w b m n)(hk:P.underlying k=some (.int q))(ht:P.underlying t=some (.map k e))(hn:n<maxLen){a:Int}(ha:(Lit.int q a).wf=true){v:Value}(hv:ok v=true):
    ∃w', (Instr.mapUpdate t (.map (some b)) (.int q a) v).run P w=.ok () w' /\ cV P k q ok w' b (jM m a (some v)) (if (m a).isSome then n else n+1)/\Fr [b] w w' :=by
 obtain⟨D,h1,h2,hs,h3⟩:=h;obtain⟨w', hr,h1', hT⟩:=h1.store (int_keyed hk) ht hn (keyOf_int_mk hk ha) (wZ hv);refine⟨w', hr,⟨D.put (.int q a) (.held v),?_,h2.put (nA q a) _,?_,fun x hx=>?_⟩,Fr.of_turned hT⟩
 {
 have:=mQ h1';rw[size_put h2,(h3 a ha).1,hs]at this;exact this}
 · rw[size_put h2,(h3 a ha).1,hs]
 {
 by_cases e:x=a
 {
 subst e;rw[cG];refine⟨has_put_same h2.isMap (nA q x) _,fun u hu=>?_⟩;cases hu;exact⟨hv,fun z=>atKey_put_same h2.isMap (nA q x) _ z⟩}
 {
 have hne:(Lit.int q x)≠.int q a:=fun h=>e (by injection h);rw[bK e,has_put_other hne];exact⟨(h3 x hx).1,fun u hu=>⟨((h3 x hx).2 u hu).1,fun z=>by rw[atKey_put_other hne];exact((h3 x hx).2 u hu).2 z⟩⟩}}
theorem cV.del(h:cV P k q ok w b m n)(hk:P.underlying k=some (.int q))(ht:P.underlying t=some (.map k e)){a:Int}(ha:(Lit.int q a).wf=true)(ty:TypeId):
    ∃w', (Builtin.delete_ #[t,k] ty #[.map (some b),.int q a]).run P w=.ok (.tuple #[]) w' /\ cV P k q ok w' b (jM m a none) (if (m a).isSome then n-1 else n)/\Fr [b] w w' :=by
 obtain⟨D,h1,h2,hs,h3⟩:=h;obtain⟨w', hr,h1', hT⟩:=h1.drop (int_keyed hk) ht (keyOf_int_mk hk ha) ty;have hsz:Maps.size (D.del (.int q a))=if (m a).isSome then n-1 else n:=by {
 have:=size_del (k:=.int q a) h2;rw[(h3 a ha).1,hs]at this;cases hm:(m a).isSome<;>rw[hm]at this<;>simp at this ⊢ <;> omega};refine⟨w', hr,⟨D.del (.int q a),?_,h2.del _,hsz,fun x hx=>?_⟩,Fr.of_turned hT⟩
 {
 have:=mQ h1';rw[hsz]at this;exact this}
 {
 by_cases e:x=a
 {
 subst e;rw[cG];exact⟨has_del_same,fun u hu=>by cases hu⟩}
 {
 have hne:(Lit.int q x)≠.int q a:=fun h=>e (by injection h);rw[bK e,has_del_other hne];exact⟨(h3 x hx).1,fun u hu=>⟨((h3 x hx).2 u hu).1,fun z=>by rw[atKey_del_other hne];exact((h3 x hx).2 u hu).2 z⟩⟩}}
end
theorem rT{P:Program}{w:World}{ops:Array Oper}{rest:List Oper}{o:Oper}{act:Act}{Q:Exit->Act->World->Prop}(hg:o.guard=none)(mo x v:Operand)(t:TypeId)(hop:o.op=Op.mapUpdate t mo x v)
    {k e:TypeId} {q:IntKind} {ok:Value->Bool} {b n:Nat} {m:Int->Option Value} (h:cV P k q ok w b m n) (hk:P.underlying k=some (.int q)) (ht:P.underlying t=some (.map k e)) (hn:n<maxLen)
    (hm:act.eval mo=.map (some b)) (a:Int) (hx:act.eval x=.int q a) (ha:(Lit.int q a).wf=true) (u:Value) (hv:act.eval v=u) (hu:ok u=true)
    (hK:∀w', cV P k q ok w' b (jM m a (some u)) (if (m a).isSome then n else n+1)->Fr [b] w w' -> wpList P ops Q rest (act.put o.dst undef) w'):wpList P ops Q (o::rest) act w:=by
 refine wpList_plain hg fun K' hK' =>?_;obtain⟨w', hrun,r1,r2⟩:=h.put hk ht hn ha hu;unfold Oper.wp;simp[execOp,hop,hm,hx,hv,hrun,Result.andThen];exact hK' _ _ (hK w' r1 r2)
end Go.Proofs.YtjdgpcjbgjnahaaGreatDoor
namespace Go.Proofs.YtjdgpcjbgjnahaaGreatDoor
open Go.RowKit
theorem sW{w:World}{pa:Nat}{A:Ar}{l:List Nat}(h:aU w pa A l):
    Calls Tryz.prog 115 #[ptr pa] w fun e w' =>∃pa', e=.returned (ptr pa')/\∃l', aU w' pa' A l' /\ Fr [] w w' /\ ∀b∈l', w.heap.size<=b:=by
 have hok:=h.ok;have hs:=hok.hs;have hb:=hok.hb;have HA:=qA h;obtain⟨v0,bs,st,af,h1,h2,h3,rfl,hnd,hl,_,hst,hch⟩:=h;have c0:=h1.cell 0;have c1:=h1.cell 1;have c2:=h1.cell 2;have c3:=h1.cell 3;have c4:=h1.cell 4;have c5:=h1.cell 5;simp only[zI,zJ]at c0 c1 c2 c3 c4 c5;obtain⟨a2,cp2,rfl⟩:=aT h2;have hpa:=h1.lt;have H1:=qA (zH h1 (zH h2 h3));clear h1 h2 h3;have hbl:bs.length<=1024:=by omega
 go_enter Tryz.func115,Tryz.ntmps115
 go_wp2_with (go_at_call 144;refine(cD pa _ c0).mono ?_;rintro e w' ⟨rfl,rfl⟩)
 go_still_tail 16,(by kernel_rfl)
 change wpList _ _ _ _ _ w.drew;have hF0:Fr [] w (w.alloc (.cells #[.pointer (some ⟨w.heap.size,0,none⟩),.slice none 0 0,.int .i64 A.slots,.int .i64 A.begun,.int .i64 A.used,.int .i64 (eF A.free)] 214)).drew:=((Fr.refl [] w).alloc _).drew;have hb0:=(Blk.new w [ptr w.heap.size,.slice none 0 0,.int .i64 A.slots,.int .i64 A.begun,.int .i64 A.used,.int .i64 (eF A.free)] 214).drew;have d1:(w.alloc (.cells #[.pointer (some ⟨w.heap.size,0,none⟩),.slice none 0 0,.int .i64 A.slots,.int .i64 A.begun,.int .i64 A.used,.int .i64 (eF A.free)] 214)).cell? ⟨pa,1,none⟩=some (.slice a2 bs.length cp2):=((Fr.refl [] w).alloc _).cell c1 (by simp);go_wp2
 have hsz1:(w.alloc (.cells #[.pointer (some ⟨w.heap.size,0,none⟩),.slice none 0 0,.int .i64 A.slots,.int .i64 A.begun,.int .i64 A.used,.int .i64 (eF A.free)] 214)).drew.heap.size=w.heap.size+1:=by simp
 have HB0:Hid (Blk (w.alloc (.cells #[.pointer (some ⟨w.heap.size,0,none⟩),.slice none 0 0,.int .i64 A.slots,.int .i64 A.begun,.int .i64 A.used,.int .i64 (eF A.free)] 214)).drew w.heap.size 214 [ptr w.heap.size,.slice none 0 0,.int .i64 A.slots,.int .i64 A.begun,.int .i64 A.used,.int .i64 (eF A.free)]):=qA hb0;have HF0:=qA hF0;clear hF0 hb0;generalize (w.alloc (.cells #[.pointer (some ⟨w.heap.size,0,none⟩),.slice none 0 0,.int .i64 A.slots,.int .i64 A.begun,.int .i64 A.used,.int .i64 (eF A.free)] 214)).drew=w1 at *;clear c0 c1 c2 c3 c4 c5 d1
 go_loopw [37] (fun si wr=>∃(i:Nat) (v:Value) (bs' :List Nat),i<=bs.length/\si=.int .i64 i/\bs'.length=i/\Hid (Fr [] w wr)/\Hid (Blk wr w.heap.size 214 [ptr w.heap.size,v,.int .i64 A.slots,.int .i64 A.begun,.int .i64 A.used,.int .i64 (eF A.free)]) /\
   wr.ownsRow 0 232 1 v i (bs'.map ptr)/\Hid (∀q,v.ownBlock=some q->w.heap.size<q/\q∉bs')/\Hid (bs'.Nodup/\∀b∈bs', w.heap.size<b) /\
   Hid (∀(j b b' :Nat),bs[j]? =some b->bs'[j]? =some b' -> ∃cs,Blk w b 236 cs/\Blk wr b' 236 cs)) (fun si _=>bs.length-(intOf si).toNat)
 case atStart=>exact⟨0,.slice none 0 0,[],qR _,rfl,rfl,HF0,HB0,World.ownsRow_nil _ _ _ _,qA (fun q e=>by cases e),qA ⟨List.nodup_nil,by simp⟩,qA (fun j b b' _ h=>by simp at h)⟩
 case round=>
  clear HB0 HF0 hsz1;obtain⟨i,v,bs', hi,rfl,hbl', HF,HB,hown,HQ,HN,HC⟩:=hrel;obtain⟨a8,c8,rfl⟩:=aT hown;have c1:=HB.out.cell 1;have z1:=HB.out.frozen 1;simp only[zI,zJ]at c1;by_cases hlt:i<bs.length
  {
  have hil:(i:Int)<bs.length:=by omega
  obtain⟨g,cap,e,_,hg,hcg,_⟩:=cL H1.out.2.1 hlt;simp only[qO,true_and]at e;obtain⟨rfl,rfl⟩:=e;have hbi:bs[i]? =some bs[i]:=qK hlt;obtain⟨cs,hcs,hrs⟩:=H1.out.2.2 i bs[i] hbi;generalize bs[i]=b at *;have hcg' :wr.cell? ⟨g,i,none⟩=some (ptr b):=HF.out.cell (by rw[hcg];simp[hbi]) (by simp);have hcsr:=HF.out.blk hcs (by simp);have hcl:=(hrs 0 (by decide)).2.2.2;have hone:∀u∈cs,u.oneCell' =true:=by {
  intro u hu;obtain⟨k,hk⟩:=List.mem_iff_getElem?.1 hu;have hk2:k<192:=by rw[<-hcl];exact(qS.1 hk).1
  obtain⟨r0,r1,⟨t,r2⟩,_⟩:=hrs (k/3) (by omega);rcases(show k=k/3*3∨k=k/3*3+1∨k=k/3*3+2 by omega) with e|e|e
  · rw[<-e,hk]at r0;cases r0;rfl
  · rw[<-e,hk]at r1;cases r1;rfl
  · rw[<-e,hk]at r2;cases r2;rfl};have hinfo:(Tryz.prog.info? 236).map (·.size)=some cs.toArray.size:=by {
  have:(Tryz.prog.info? 236).map (·.size)=some 192:=by kernel_rfl
  rw[this];simp[hcl]};have hz:Tryz.zeroCells236.size=cs.toArray.size:=by {
  have:=kJ;simp only[Array.length_toList]at this;rw[this];simp[hcl]};have Hone:=qA hone;clear hone;have Hcs:=qA hcs;clear hcs hrs;go_wp2
  refine wp_load_row 236 _ rfl b rfl 236 cs.toArray (0,0) _ hcsr Tryz.underlying236 rfl hinfo ?_;have hst:=run_storeCells_new (P:=Tryz.prog) wr 236 Tryz.zeroCells236 cs.toArray hinfo hz (by simpa using Hone.out);simp only[List.toList_toArray]at hst;have hFa:Fr [] wr (wr.alloc (.cells cs.toArray 236)):=(Fr.refl [] wr).alloc _;have c1' :=hFa.cell c1 (by simp);have hbn:Blk (wr.alloc (.cells cs.toArray 236)) wr.heap.size 236 cs:=Blk.new wr cs 236;have Hbn:=qA hbn;clear hbn;have HFa:=qA hFa;clear hFa;go_wp2_with (at_builtin;refine aB rfl _ _ 212 rfl 232 (.pointer none) 8 Tryz.underlying212 Tryz.info232 rfl (.slice a8 i c8) i _ rfl ((hown.alloc _).alloc _) (wr.heap.size+1) (ptr wr.heap.size) rfl (aC _ _ _ _ (by simp)) rfl (by omega) (by decide) ?_;intro g' cap' w4 hown4 hgrow4 hg4;have hF4:Fr (Value.slice a8 i c8).ownBlock.toList (wr.alloc (.cells cs.toArray 236)) w4:=((Fr.refl _ _).alloc _).grown hgrow4 (fun q e=>.inl (by simp[e]));have hB4:Blk w4 w.heap.size 214 [ptr w.heap.size,.slice a8 i c8,.int .i64 A.slots,.int .i64 A.begun,.int .i64 A.used,.int .i64 (eF A.free)]:=hF4.blk (HFa.out.blk HB.out (by simp)) (fun hm=>by have:=(HQ.out w.heap.size (by simpa using hm)).1;omega);have c4:=hB4.cell 1;have z4:=hB4.frozen 1;simp only[zI,zJ]at c4)
  have hlow:∀b' ∈ bs', b' < wr.heap.size:=by {
  intro b' hb';obtain⟨j,hj,e⟩:=List.mem_iff_getElem.1 hb';obtain⟨_,_,h2⟩:=HC.out j _ b' (qK (show j<bs.length by omega)) (by rw[qK hj,e]);exact h2.lt};have hhd:=HB.out.lt;have hol:∀q,(Value.slice a8 i c8).ownBlock=some q->q<wr.heap.size:=fun q hq=>(hown.lt q hq).2;simp only[World.size_alloc]at hg4;have hgn:g' ≠ w.heap.size:=by {
  rintro rfl;rcases hg4 with e|e
  · have:=(HQ.out _ e).1;omega
  · omega};go_roundw
  case rel=>
   refine⟨i+1,.slice (some ⟨g', 0,none⟩) (i+1) cap', bs' ++ [wr.heap.size],by omega,by go_num,by simp;omega,qA ?_,qA (hB4.set 1 _),?_,qA (fun q e=>?_),qA ⟨?_,fun x hx=>?_⟩,qA (fun j x y hj hy=>?_)⟩
   · exact((HF.out.trans' HFa.out).trans hF4 (fun q hq=>.inr (Nat.le_of_lt (HQ.out q (by simpa using hq)).1))).setCell _ _ (.inr (qJ _))
   {
   have e:(bs' ++ [wr.heap.size]).map ptr=bs'.map ptr++[ptr wr.heap.size]:=by simp
   rw[e];exact bL hown4 _ _ (by simpa[Value.ownBlock] using hgn)}
   {
   simp only[Value.ownBlock,qI]at e;subst e;simp only[qE,qH,not_or];rcases hg4 with e|e
   {
   have h1:=hol _ e;exact⟨(HQ.out _ e).1,(HQ.out _ e).2,by omega⟩}
   {
   refine⟨by omega,fun hm=>?_,by omega⟩;have:=hlow _ hm;omega}}
   {
   rw[qM];refine⟨HN.out.1,by simp,fun x hx y hy e=>?_⟩;simp at hy;have:=hlow x hx;omega}
   {
   simp only[qE,qH]at hx;rcases hx with hx|rfl
   · exact HN.out.2 x hx
   · omega}
   {
   by_cases hji:j<i
   {
   rw[List.getElem?_append_left (by omega)]at hy;obtain⟨cs', k1,k2⟩:=HC.out j x y hj hy;have hym:=List.mem_of_getElem? hy;refine⟨cs', k1,(hF4.blk (HFa.out.blk k2 (by simp)) (fun hm=>(HQ.out y (by simpa using hm)).2 hym)).other _ _ ?_⟩;have:=HN.out.2 y hym;simp;omega}
   {
   have hjl:j<(bs' ++ [wr.heap.size]).length:=(qS.1 hy).1;simp at hjl;obtain rfl:j=i:=by omega
   rw[List.getElem?_append_right (by omega)]at hy;simp[hbl']at hy;subst hy;have:x=b:=by rw[hbi]at hj;simpa using hj.symm
   subst this;refine⟨cs,Hcs.out,(hF4.blk Hbn.out (fun hm=>?_)).other _ _ ?_⟩
   {
   have:=hol wr.heap.size (by simpa using hm);omega}
   · simp;omega}}
  case measure=>simp[intOf];omega}
  {
  obtain rfl:i=bs.length:=by omega
  have Hown:=qA hown;clear hown;go_wp2
  go_ret;refine⟨w.heap.size,rfl,w.heap.size::((Value.slice a8 bs.length c8).ownBlock.toList++bs'),⟨.slice a8 bs.length c8,bs', st,af,HB.out,by rw[hbl'];exact Hown.out,?_,rfl,?_,by rw[hbl', hl],hok,hst,hch⟩,HF.out,?_⟩
  {
  intro j b' hj;have hjl:j<bs'.length:=(qS.1 hj).1;have hbj:bs[j]? =some bs[j]:=qK (by omega);obtain⟨cs,k1,k2⟩:=HC.out j _ b' hbj hj;obtain⟨cs0,k3,k4⟩:=H1.out.2.2 j _ hbj;obtain rfl:=k1.eq k3;exact⟨cs,k2,k4⟩}
  {
  rw[qN,qM];refine⟨?_,by cases (Value.slice a8 bs.length c8).ownBlock<;>simp,HN.out.1,?_⟩
  {
  simp only[qE,Option.mem_toList,not_or];refine⟨fun e=>?_,fun hm=>?_⟩
  · have:=(HQ.out _ e).1;omega
  · have:=HN.out.2 _ hm;omega}
  {
  intro x hx y hy e;subst e;exact(HQ.out x (by simpa using hx)).2 hy}}
  {
  intro x hx;simp only[qB,qE,Option.mem_toList]at hx;rcases hx with rfl|hx|hx
  · exact qJ _
  · exact Nat.le_of_lt (HQ.out x hx).1
  · exact Nat.le_of_lt (HN.out.2 x hx)}}
end Go.Proofs.YtjdgpcjbgjnahaaGreatDoor
namespace Go.Proofs.YtjdgpcjbgjnahaaGreatDoor
open Go.RowKit Go.Sort
def encU(d:Array Int):List Value:=d.toList.map (Value.int .u64)
structure SR (w wr:World) (blk off:Nat) (d:Array Int):Prop where
  off0:off=0
  row:∃rest,Blk wr blk 36 (encU d++rest)/\∃l0,Blk w blk 36 l0/\l0.length=d.size+rest.length
  fr:Fr [blk] w wr
section
variable {w wr:World} {blk off:Nat} {d:Array Int}
end
structure SM (w wr:World) (blk off:Nat) (d:Array Int) (sb s:Nat):Prop where
  sr:SR w wr blk off d
  cnt:Blk wr sb 3 [.int .i64 s]
  ne:sb≠blk
  new:w.heap.size<=sb
section
variable {w wr:World} {blk off:Nat} {d:Array Int} {sb s:Nat}
end
def Tryz.laysLen_ren:Go.Shelf.Ren:=⟨fun|125=>147|128=>193|129=>194|n=>n,fun|46=>27|3=>3|51=>23|53=>36|4=>4|5=>5|9=>9|n=>n,fun|n=>n⟩
theorem Tryz.laysLen:Go.Proofs.Lays.n125 Tryz.prog Tryz.laysLen_ren:={
  mixed:=by kernel_rfl
  f125:=Tryz.func147.trans (congrArg some (by kernel_rfl))
  f128:=Tryz.func193.trans (congrArg some (by kernel_rfl))
  f129:=Tryz.func194.trans (congrArg some (by kernel_rfl))
  t3:=Tryz.underlying3
  a3:=Tryz.isAgg3
  z3:=Tryz.sizeOf3
  v3:=Tryz.zeroValue3
  t4:=Tryz.underlying4
  a4:=Tryz.isAgg4
  z4:=Tryz.sizeOf4
  v4:=Tryz.zeroValue4
  t5:=Tryz.underlying5
  a5:=Tryz.isAgg5
  z5:=Tryz.sizeOf5
  v5:=Tryz.zeroValue5
  t9:=Tryz.underlying9
  a9:=Tryz.isAgg9
  z9:=Tryz.sizeOf9
  v9:=Tryz.zeroValue9
  t46:=Tryz.underlying27
  a46:=Tryz.isAgg27
  z46:=Tryz.sizeOf27
  v46:=Tryz.zeroValue27
  t51:=Tryz.underlying23
  a51:=Tryz.isAgg23
  z51:=Tryz.sizeOf23
  v51:=Tryz.zeroValue23
  t53:=Tryz.underlying36
  a53:=Tryz.isAgg36
  z53:=Tryz.sizeOf36
  v53:=Tryz.zeroValue36 }
structure SX (w wr:World) (blk off:Nat) (d:Array Int) (rb R:Nat):Prop where
  sr:SR w wr blk off d
  cnt:Blk wr rb 292 [.int .u64 R]
  ne:rb≠blk
  new:w.heap.size<=rb
section
variable {w wr:World} {blk off:Nat} {d:Array Int} {rb R:Nat}
end
structure PdqR (d:Array Int) (a b lim:Nat) (wb wp:Bool) (R:Rd Int):Prop where
  bal:wb=true->R.d1=d/\R.lim=lim
  unb:wb=false->R.d1=breakPatterns d a b/\R.lim=lim-1
  c:R.c=choosePivot ltInt R.d1 a b
  dec:R.c.2=.decreasing->R.d2=reverseRange R.d1 a b/\R.pivot=(b-1)-(R.c.1-a)/\R.hint=.increasing
  ndec:R.c.2≠.decreasing->R.d2=R.d1/\R.pivot=R.c.1/\R.hint=R.c.2
  yes:(wb&&wp&&decide (R.hint=.increasing))=true->R.pi=partialInsertionSort ltInt R.d2 a b
  no:(wb&&wp&&decide (R.hint=.increasing))=false->R.pi=(R.d2,false)
  s1:R.d1.size=d.size
  c1:a<=R.c.1/\R.c.1<b
  s2:R.d2.size=d.size
  pv:a<=R.pivot/\R.pivot<b
  s3:R.pi.1.size=d.size
  B3:Sort.Below ltInt a b R.pi.1
  lm:R.lim<=lim
  done:R.pi.2=true->pdq ltInt d a b lim wb wp=R.pi.1
  eq:R.pi.2=false->(decide (a>0)&&!ltInt R.pi.1[a-1]! R.pi.1[R.pivot]!)=true->∀mid d4,partitionEqual ltInt R.pi.1 a b R.pivot=(mid,d4)->a<mid/\mid<=b->pdq ltInt d a b lim wb wp=pdq ltInt d4 mid b R.lim wb wp
  left:R.pi.2=false->(decide (a>0)&&!ltInt R.pi.1[a-1]! R.pi.1[R.pivot]!)=false->∀mid ap d4,partition ltInt R.pi.1 a b R.pivot=(mid,ap,d4)->a<=mid/\mid<b->mid-a<b-mid ->
    pdq ltInt d a b lim wb wp=pdq ltInt (pdq ltInt d4 a mid R.lim true true) (mid+1) b R.lim (decide (mid-a≥(b-a)/8)) ap
  right:R.pi.2=false->(decide (a>0)&&!ltInt R.pi.1[a-1]! R.pi.1[R.pivot]!)=false->∀mid ap d4,partition ltInt R.pi.1 a b R.pivot=(mid,ap,d4)->a<=mid/\mid<b->¬mid-a<b-mid ->
    pdq ltInt d a b lim wb wp=pdq ltInt (pdq ltInt d4 (mid+1) b R.lim true true) a mid R.lim (decide (b-mid≥(b-a)/8)) ap
end Go.Proofs.YtjdgpcjbgjnahaaGreatDoor
namespace Go.Proofs.YtjdgpcjbgjnahaaGreatDoor
open Go.RowKit
def oD(l:List Nat):List Nat:=l.mergeSort (fun x y=>decide (x<=y))
theorem aGC(l:List Nat):(oD l).length=l.length:=by simp[oD]
def Tryz.laysCloneU_ren:Go.Shelf.Ren:=⟨fun|41=>158|n=>n,fun|22=>104|23=>36|4=>4|n=>n,fun|n=>n⟩
theorem Tryz.laysCloneU:Go.Proofs.SlLaysE0.n41 Tryz.prog Tryz.laysCloneU_ren:={
  mixed:=by kernel_rfl
  f41:=⟨Tryz.f158.name,by decide,Tryz.func158.trans (congrArg some (by kernel_rfl))⟩
  t4:=Tryz.underlying4
  a4:=Tryz.isAgg4
  z4:=Tryz.sizeOf4
  v4:=Tryz.zeroValue4
  t22:=Tryz.underlying104
  a22:=Tryz.isAgg104
  z22:=Tryz.sizeOf104
  v22:=Tryz.zeroValue104 }
def Tryz.laysCloneI_ren:Go.Shelf.Ren:=⟨fun|41=>119|n=>n,fun|22=>158|23=>3|4=>4|n=>n,fun|n=>n⟩
theorem Tryz.laysCloneI:Go.Proofs.SlLaysE0.n41 Tryz.prog Tryz.laysCloneI_ren:={
  mixed:=by kernel_rfl
  f41:=⟨Tryz.f119.name,by decide,Tryz.func119.trans (congrArg some (by kernel_rfl))⟩
  t4:=Tryz.underlying4
  a4:=Tryz.isAgg4
  z4:=Tryz.sizeOf4
  v4:=Tryz.zeroValue4
  t22:=Tryz.underlying158
  a22:=Tryz.isAgg158
  z22:=Tryz.sizeOf158
  v22:=Tryz.zeroValue158 }
theorem kO{w:World}{base:Nat}{e:TypeId}{size:Nat}{v:Value}{n:Nat}{xs:List Value}(h:w.ownsRow base e size v n xs):w.ownsRow 0 e size v n xs:=
  ⟨h.1,h.2.elim .inl (fun⟨g,cap,cur,k1,_,k3⟩=>.inr ⟨g,cap,cur,k1,qR _,k3⟩)⟩
theorem kP{w:World}{base:Nat}{e:TypeId}{size:Nat}{v:Value}{n:Nat}{xs:List Value}(h:w.ownsRow base e size v n xs):∀q,v.ownBlock=some q->base<=q:=by
 intro q hq;rcases h.2 with⟨rfl,_⟩|⟨g,cap,cur,rfl,hb,_⟩
 · cases hq
 · simp[Value.ownBlock]at hq;omega
theorem aGD{w:World}{v:Value}{n:Nat}{f:Nat->Nat}(h:w.ownsRow 0 36 1 v n (cC n (idF f)))(hn:n<=65536):
    Calls Tryz.prog 158 #[v] w fun e w' =>∃v', e=.returned v' /\ w'.ownsRow 0 36 1 v' n (cC n (idF f))/\(∀q,v'.ownBlock=some q->w.heap.size<=q)/\Fr [] w w' :=by
 obtain⟨i0,hi,hz0,hz1,hz2⟩:=info_parts Tryz.info36;rcases h.2 with⟨rfl,rfl⟩|⟨g,cap,cur,rfl,hg,hcur,hnc,hcm,hcs,htk⟩
 {
 refine(AnyE.slices_Clone_nil Tryz.laysCloneU 0 0 w).mono ?_;rintro _ _ ⟨rfl,rfl⟩;exact⟨_,rfl,h,fun q e=>(by cases e),Fr.refl _ _⟩}
 {
 refine(AnyE.slices_Clone Tryz.laysCloneU i0 (.int .u64 0) 1 8 hi hz0 hz1 hz2 rfl (by decide) Tryz.sizeOf36 g 0 n cap (cC n (idF f)) w (by rw[cT];omega) (by unfold maxLen;omega) (by omega) (fun j u hj=>?_) (fun u hu=>?_)).mono ?_
 · rw[Nat.zero_add,h.cellAt j (by have:=(qS.1 hj).1;rw[cT]at this;omega)];exact hj
 {
 simp only[cC,qV]at hu;obtain⟨k,_,rfl⟩:=hu;rfl}
 {
 rintro _ w' ⟨v', rfl,h1,_,hB⟩;exact⟨v', rfl,kO h1,kP h1,Fr.of_below hB⟩}}
theorem zL{w:World}{g n cap:Nat}{C:Nat->Nat}{rst:List Value}(h:Blk w g 3 (gG n C rst))(h0:0<n)(hn:n<=131072):
    Calls Tryz.prog 119 #[.slice (some ⟨g,0,none⟩) n cap] w fun e w' =>∃g' cap' rst', e=.returned (.slice (some ⟨g', 0,none⟩) n cap')/\Blk w' g' 3 (gG n C rst')/\w.heap.size<=g' /\ Fr [] w w' :=by
 obtain⟨i0,hi,hz0,hz1,hz2⟩:=info_parts Tryz.info3;refine(AnyE.slices_Clone Tryz.laysCloneI i0 (.int .i64 0) 1 8 hi hz0 hz1 hz2 rfl (by decide) Tryz.sizeOf3 g 0 n cap (cC n (eD C)) w (by rw[cT];omega) (by unfold maxLen;omega) (by omega) (fun j u hj=>?_) (fun u hu=>?_)).mono ?_
 {
 have hjl:j<n:=by have:=(qS.1 hj).1;rwa[cT]at this
 rw[Nat.zero_add,h.cell,fB hjl,<-hj,eJ hjl]}
 {
 simp only[cC,qV]at hu;obtain⟨k,_,rfl⟩:=hu;rfl}
 {
 rintro _ w' ⟨v', rfl,h1,_,hB⟩;rcases h1.2 with⟨_,hz⟩|⟨g', cap', cur,rfl,hg', hcur,hnc,hcm,hcs,htk⟩
 · omega
 {
 refine⟨g', cap', cur.toList.drop n,rfl,?_,hg', Fr.of_below hB⟩;unfold gG;rw[<-htk,Nat.mul_one,List.take_append_drop];unfold Blk;rw[Array.toArray_toList];exact hcur}}
theorem aCH{w:World}{pt:Nat}{T:Tb}{l:List Nat}(h:bZ w pt T l):
    Calls Tryz.prog 116 #[ptr pt] w fun e w' =>∃pt', e=.returned (ptr pt')/\∃l', bZ w' pt' T l' /\ Fr [] w w' /\ ∀b∈l', w.heap.size<=b:=by
 obtain⟨cpc,rst,pa,gc,n,vi,C,la,h1,h2,h3,h4,rfl,hnd,hM,hs,hT,hinj,hb64⟩:=h;have hok:=h2.ok;have hs1:=hok.hs;have hs2:=hok.hb;have hn:=hM.pos;have hn2:=hM.le;have c0:=h1.cell 0;have c1:=h1.cell 1;have c2:=h1.cell 2;have c3:=h1.cell 3;simp only[zI,zJ]at c0 c1 c2 c3;have HR:=qA (zH hnd (zH hM (zH hs (zH hT (zH hinj hb64)))));clear hnd hM hs hT hinj hb64;have HA:=qA (sW (h2.same (w' :=w.drew) (fun _ _=>rfl)));have HI:=qA (fun(w' :World) (hf:Fr [] w w')=>aGD (aO (w' :=w') h3 (fun k hk=>hf.keep k (h3.lt k hk).2 (by simp))) (by omega));have HC:=qA (fun(w' :World) (hf:Fr [] w w')=>zL (cap:=cpc) (hf.blk h4 (by simp)) (by omega) (by omega));have hF0:Fr [] w w.drew:=(Fr.refl [] w).drew;go_enter Tryz.func116,Tryz.ntmps116
 go_wp2_with (go_at_call 143;refine(cZ pt _ c0).mono ?_;rintro e w' ⟨rfl,rfl⟩)
 go_region_held3 (fun w' => w'.cell? ⟨pt, 1, none⟩ = some (ptr pa) /\ w'.cell? ⟨pt, 2, none⟩ = some vi /\ w'.cell? ⟨pt, 3, none⟩ = some (.slice (some ⟨gc, 0, none⟩) n cpc))
   (first
     | go_keep
     | (exact⟨hF3.cell c1 (by simp),hF3.cell c2 (by simp),hF3.cell c3 (by simp)⟩)
     | (exact⟨hF4.cell c1 (by simp),hF4.cell c2 (by simp),hF4.cell c3 (by simp)⟩)
     | (exact⟨hF5.cell c1 (by simp),hF5.cell c2 (by simp),hF5.cell c3 (by simp)⟩)
     | (exact⟨(hF5.alloc _).cell c1 (by simp),(hF5.alloc _).cell c2 (by simp),(hF5.alloc _).cell c3 (by simp)⟩))
   (first
     | (go_at_call 115;refine HA.out.mono ?_;rintro e w3 ⟨pa', rfl,la', hA3,hF3,hl3⟩;have hla3:=hA3.lt;replace hF3:=hF0.trans' hF3)
     | (go_at_call 158;refine(HI.out _ hF3).mono ?_;rintro e w4 ⟨vi', rfl,hI4,hq4,hF4⟩;replace hA3:=hA3.fr hF4 (by simp);have hsz4:=hF3.size;have hF34:=hF4;replace hF4:=hF3.trans' hF4;obtain⟨ai,ci,rfl⟩:=aT hI4;have hil4:=fun q hq=>(hI4.lt q hq).2)
     | (go_at_call 119;refine(HC.out _ hF4).mono ?_;rintro e w5 ⟨gc', cpc', rst', rfl,hC5,hg5,hF5⟩;replace hA3:=hA3.fr hF5 (by simp);replace hI4:=aO (w' :=w5) hI4 (fun k hk=>hF5.keep k (hI4.lt k hk).2 (by simp));have hsz5:=hF4.size;replace hF5:=hF4.trans' hF5))
 have hb0:=Blk.new w5 [ptr w5.heap.size,ptr pa', .slice ai T.A.begun ci,.slice (some ⟨gc', 0,none⟩) n cpc'] 211;have H5:=qA (zH hA3 (zH hI4 (zH hC5 hF5)));clear hA3 hI4 hC5;have Hb1:=qA hb0;clear hb0;have hq4' :∀q,(Value.slice ai T.A.begun ci).ownBlock=some q->w3.heap.size<=q:=hq4;have hl3' :∀b∈la', w.heap.size<=b:=fun b hb=>by have:=hl3 b hb;simpa using this
 have hlt3:=H5.out.1.lt;go_wp2
 go_ret;have hFz:Fr [] w5 (w5.alloc (.cells #[ptr w5.heap.size,ptr pa', .slice ai T.A.begun ci,.slice (some ⟨gc', 0,none⟩) n cpc'] 211)):=(Fr.refl _ _).alloc _;have hila:∀q,(Value.slice ai T.A.begun ci).ownBlock=some q->q<w5.heap.size:=fun q hq=>(H5.out.2.1.lt q hq).2;have hgl:=H5.out.2.2.1.lt;obtain⟨hnd,hM,hs,hT,hinj,hb64⟩:=HR.out;refine⟨w5.heap.size,rfl,w5.heap.size::gc' :: ((Value.slice ai T.A.begun ci).ownBlock.toList++la'),⟨cpc', rst', pa', gc', n,.slice ai T.A.begun ci,C,la', Hb1.out,H5.out.1.fr hFz (by simp),aO H5.out.2.1 (fun k hk=>hFz.keep k (H5.out.2.1.lt k hk).2 (by simp)),hFz.blk H5.out.2.2.1 (by simp),rfl,?_,hM,hs,hT,hinj,hb64⟩,H5.out.2.2.2.trans' hFz,?_⟩
 {
 have hlan:la'.Nodup:=by obtain⟨_,_,_,_,_,_,_,_,hq,_⟩:=H5.out.1;exact hq
 rw[qN,qN,qM];refine⟨?_,?_,by cases (Value.slice ai T.A.begun ci).ownBlock<;>simp,hlan,?_⟩
 {
 simp only[qB,qE,Option.mem_toList,not_or];exact⟨by omega,fun e=>by have:=hila _ e;omega,fun hm=>by have:=hlt3 _ hm;omega⟩}
 {
 simp only[qE,Option.mem_toList,not_or];refine⟨fun e=>by have:=hil4 _ e;omega,fun hm=>?_⟩;have:=hla3 _ hm;have:=hF34.size;omega}
 {
 intro x hx y hy e;subst e;have h1:=hq4' x (by simpa using hx);have h2:=hla3 x hy;omega}}
 {
 intro b hb;simp only[qB,qE,Option.mem_toList]at hb;have:=H5.out.2.2.2.size;rcases hb with rfl|rfl|hb|hb
 · omega
 · omega
 · have:=hq4' b hb;omega
 · exact hl3' b hb}
section
variable {P:Program} {ops:Array Oper} {md:Region.Mode} (G:Nat->Sem Go.Next->Value->Prop)
def gOp(ops:Array Oper)(i:Nat)(K:Act->Prop)(a:Act):Prop:=
  match ops[i]? with
  | none=>K a
  | some o=>if Region.wanted o (yielded ops a.tmps) then ∃v,G i (execOp a.eval o) v/\K (a.put o.dst v) else K (a.put o.dst undef)
def dL(ops:Array Oper)(Q:Act->Prop):Nat->List Oper->Act->Prop
  | _,[],a=>Q a
  | k,o::rest,a=>if Region.wanted o (yielded ops a.tmps) then ∃v,G k (execOp a.eval o) v/\dL ops Q (k+1) rest (a.put o.dst v) else dL ops Q (k+1) rest (a.put o.dst undef)
def zM(md:Region.Mode)(ops:Array Oper)(Q:Act->Prop):Nat->Array Bool->Act->Prop
  | 0,listed,a=>Region.ready md ops listed=[]/\Q a
  | fuel+1,listed,a=>
    (Region.ready md ops listed=[]->Q a)/\∀i∈Region.ready md ops listed,gOp G ops i (zM md ops Q fuel (listed.setIfInBounds i true)) a
variable {G}
def eQ(G:Nat->Sem Go.Next->Value->Prop)(ops:Array Oper)(i:Nat)(o:Oper)(v:Value)(a:Act):Prop:=
  (Region.wanted o (yielded ops a.tmps)=true/\G i (execOp a.eval o) v)∨(Region.wanted o (yielded ops a.tmps)=false/\v=undef)
theorem eQ.op{i:Nat}{o:Oper}{v:Value}{a:Act}(hi:ops[i]? =some o)(hy:eQ G ops i o v a){K:Act->Prop}(h:K (a.put o.dst v)):gOp G ops i K a:=by
 unfold gOp;simp only[hi];rcases hy with⟨hw,hv⟩|⟨hw,rfl⟩
 · rw[qD hw];exact⟨v,hv,h⟩
 · rw[qC (by simp[hw])];exact h
theorem eQ.same{i:Nat}{o:Oper}{v:Value}{a a' :Act}(hy:eQ G ops i o v a)(he:execOp a'.eval o=execOp a.eval o)
    (hw:Region.wanted o (yielded ops a'.tmps)=Region.wanted o (yielded ops a.tmps)):eQ G ops i o v a' :=by
 unfold eQ at *;rw[he,hw];exact hy
theorem aIJ{i:Nat}{a:Act}{K K' :Act->Prop}(h:∀a,K a->K' a)(hh:gOp G ops i K a):gOp G ops i K' a:=by
 unfold gOp at *;cases ho:ops[i]? with
 | none=>simp only[ho]at hh ⊢;exact h _ hh
 | some o=>{
 simp only[ho]at hh ⊢;by_cases hw:Region.wanted o (yielded ops a.tmps)=true
 · rw[qD hw]at *;obtain⟨v,h1,h2⟩:=hh;exact⟨v,h1,h _ h2⟩
 · rw[qC hw]at *;exact h _ hh}
theorem uP{i:Nat}{o:Oper}{a:Act}{K:Act->Prop}(hi:ops[i]? =some o)(h:gOp G ops i K a):∃v,eQ G ops i o v a/\K (a.put o.dst v):=by
 unfold gOp at h;simp only[hi]at h;by_cases hw:Region.wanted o (yielded ops a.tmps)=true
 {
 rw[qD hw]at h;obtain⟨v,h1,h2⟩:=h;exact⟨v,.inl ⟨hw,h1⟩,h2⟩}
 {
 rw[qC hw]at h;exact⟨undef,.inr ⟨by simpa using hw,rfl⟩,h⟩}
theorem aMM{i j:Nat}{oi oj:Oper}{v:Value}(hj:ops[j]? =some oj)(hap:oi.apart ops oj=true)
    (hsi:∀cs b,oi.op≠.select cs b) (hsj:∀cs b,oj.op≠.select cs b) {K:Act->Prop} {a:Act}
    (hy:eQ G ops i oi v a) (h:gOp G ops j K (a.put oi.dst v)):
    gOp G ops j (fun a' =>eQ G ops i oi v a' /\ K (a'.put oi.dst v)) a:=by
 obtain⟨h1,h2,h3⟩:=Oper.apart_spec hap;have keep:∀(a:Act),eQ G ops i oi v a->∀u,eQ G ops i oi v (a.put oj.dst u):=fun a hy u=>
   hy.same (execOp_put oi hsi a oj.dst u h3) (wanted_put oi a oj.dst u h3)
 unfold gOp at *;simp only[hj]at *;rw[wanted_put oj a oi.dst v h1]at h;by_cases hw:Region.wanted oj (yielded ops a.tmps)=true
 {
 rw[qD hw]at *;obtain⟨u,hu,hn⟩:=h;rw[execOp_put oj hsj a oi.dst v h1]at hu;exact⟨u,hu,keep a hy u,by rw[<-Act.put_comm a v u h2];exact hn⟩}
 {
 rw[qC hw]at *;exact⟨keep a hy _,by rw[<-Act.put_comm a v undef h2];exact h⟩}
theorem aCI{Q:Act->Prop}{i:Nat}{oi:Oper}{v:Value}(hi:ops[i]? =some oi)(hsel:∀(j:Nat) (o:Oper) cs b,ops[j]? =some o->o.op≠.select cs b):
    ∀(fuel:Nat) (listed:Array Bool) (a:Act),
      (∀j oj,ops[j]? =some oj->j≠i->listed.getD j true=false->(∀e∈oj.after,Region.binds md e=true->e.on≠i)->oi.apart ops oj=true) ->
      i∈Region.ready md ops listed->eQ G ops i oi v a ->
      zM G md ops Q fuel (listed.setIfInBounds i true) (a.put oi.dst v)->zM G md ops Q (fuel+1) listed a:=by
  intro fuel;induction fuel with
  | zero=>
    intro listed a _ hr hy H;refine⟨fun h=>(by rw[h]at hr;cases hr),fun j hj=>?_⟩;by_cases hji:j=i
    · subst hji;exact hy.op hi H
    · have := ready_mono hj hji
      rw[H.1]at this;cases this
  | succ fuel ih=>
    intro listed a hfree hr hy H;refine⟨fun h=>(by rw[h]at hr;cases hr),fun j hj=>?_⟩;by_cases hji:j=i
    · subst hji;exact hy.op hi H
    · have h1 := H.2 j (ready_mono hj hji)
      obtain⟨hjun,oj,hoj,hall⟩:=mem_ready.1 hj;have hnot:∀e∈oj.after,Region.binds md e=true->e.on≠i:=fun e he hb heq=>by
        have h1:=hall e he hb;have h0:=(mem_ready.1 hr).1;rw[heq]at h1;rcases Nat.lt_or_ge i listed.size with h' | h'
        · simp[h']at h0 h1;rw[h0]at h1;cases h1
        · simp[Array.getElem?_eq_none h']at h1
      have h2:=aMM hoj (hfree j oj hoj hji hjun hnot) (fun cs b=>hsel i oi cs b hi) (fun cs b=>hsel j oj cs b hoj) hy h1
      have hfree' :∀k ok,ops[k]? =some ok->k≠i->(listed.setIfInBounds j true).getD k true=false ->
          (∀e∈ok.after,Region.binds md e=true->e.on≠i)->oi.apart ops ok=true:=fun k ok hk hki hun hno=>by
        refine hfree k ok hk hki ?_ hno;by_cases hjk:j=k
        · subst hjk;exact hjun
        · rw[getD_set_ne true hjk]at hun;exact hun
      refine aIJ (fun a' h3=>ih (listed.setIfInBounds j true) a' hfree' (ready_mono hr (Ne.symm hji)) h3.1 ?_) h2;rw[Array.setIfInBounds_comm _ _ hji];exact h3.2
theorem sX{Q:Act->Prop}(hs:Region.noSelect ops=true):∀(l:List Oper) (k:Nat) (listed:Array Bool) (a:Act),(∀j,l[j]? =ops[k+j]?) ->
    Region.lexFrom md ops l.length k listed=true->dL G ops Q k l a->zM G md ops Q l.length listed a
  | [],_,_,_,_,hB,h=>⟨by simpa[Region.lexFrom] using hB,h⟩
  | o::l,k,listed,a,hl,hB,h=>by
    have h0:ops[k]? =some o:=by simpa using (hl 0).symm
    simp only[qY,Region.lexFrom,qW]at hB;obtain⟨⟨hr,hf⟩,hB'⟩:=hB;have hst:gOp G ops k (dL G ops Q (k+1) l) a:=by unfold gOp;simp only[h0];exact h
    obtain⟨v,hy,hK⟩:=uP h0 hst
    exact aCI h0 (Region.noSelect_spec hs) l.length listed a (Region.free_spec h0 hf) (by simpa using hr) hy
      (sX hs l (k+1) _ _ (fun j=>by have:=hl (j+1);simpa[Nat.add_assoc,Nat.add_comm 1 j] using this) hB' hK)
end
def gO(P:Program)(C1:World->Prop)(v:Value):Result Go.Next->Prop
  | .ok (.value u) w' =>u=v/\C1 w'
  | .ok .skip w' =>v=undef/\C1 w'
  | .ok (.enter f args) w' =>Calls P f args w' (fun e w'' =>e=.returned v/\C1 w'')
  | _=>False
def kQ(w:World)(v:Value):Result Go.Next->Prop
  | .ok (.value u) w' =>w' =w/\u=v
  | .ok .skip w' =>w' =w/\v=undef
  | _=>False
def mG(P:Program)(c:Nat)(C0 C1:World->Prop)(i:Nat)(s:Sem Go.Next)(v:Value):Prop:=
  if i<c then ∀w,C0 w->Oper.quietUpon P C0 w v (s.run P w) else if i=c then ∀w,C0 w->gO P C1 v (s.run P w) else ∀w,kQ w v (s.run P w)
theorem sY{P:Program}{o:Oper}{a:Act}{v:Value}{C:World->Prop}{w:World}{K' :Act->World->Prop}{Q' :Exit->Act->World->Prop}(hw:C w)(h:∀w', C w' -> K' (a.put o.dst v) w')
    {r:Result Go.Next} (h3:Oper.quietUpon P C w v r):o.upon P a K' Q' r:=by
 cases r with
 | halt x w' =>exact h3.elim
 | ok x w' =>{
 cases x with
 | value u=>obtain⟨rfl,rfl⟩:=h3;exact h _ hw
 | skip=>obtain⟨rfl,rfl⟩:=h3;exact h _ hw
 | enter f args=>{
 obtain⟨rfl,hc⟩:=h3;exact hc.mono fun e w'' ⟨he,hw''⟩=>by subst he;exact h _ hw''}
 | _=>exact h3.elim}
theorem sZ{P:Program}{o:Oper}{a:Act}{v:Value}{C:World->Prop}{K' :Act->World->Prop}{Q' :Exit->Act->World->Prop}(h:∀w', C w' -> K' (a.put o.dst v) w')
    {r:Result Go.Next} (h3:gO P C v r):o.upon P a K' Q' r:=by
 cases r with
 | halt x w' =>exact h3.elim
 | ok x w' =>{
 cases x with
 | value u=>obtain⟨rfl,hc⟩:=h3;exact h _ hc
 | skip=>obtain⟨rfl,hc⟩:=h3;exact h _ hc
 | enter f args=>exact Calls.mono h3 fun e w'' ⟨he,hw''⟩=>by subst he;exact h _ hw''
 | _=>exact h3.elim}
theorem vM{P:Program}{o:Oper}{a:Act}{v:Value}{w:World}{K' :Act->World->Prop}{Q' :Exit->Act->World->Prop}(h:K' (a.put o.dst v) w)
    {r:Result Go.Next} (h3:kQ w v r):o.upon P a K' Q' r:=by
 cases r with
 | halt x w' =>exact h3.elim
 | ok x w' =>{
 cases x with
 | value u=>obtain⟨rfl,rfl⟩:=h3;exact h
 | skip=>obtain⟨rfl,rfl⟩:=h3;exact h
 | _=>exact h3.elim}
section
variable {P:Program} {ops:Array Oper} {md:Region.Mode} {C0 C1:World->Prop} {c:Nat}
theorem gP(m j:Nat):(Array.replicate m false).getD j false=false:=by
 by_cases h:j<m<;>simp[h]
def tA(md:Region.Mode)(ops:Array Oper):Nat->Array Bool->Array Bool
  | 0,S=>S
  | j+1,S=>tA md ops j (if S.getD j false then(match ops[j]? with|some o=>o.after.toList.foldl (fun S e=>if Region.binds md e then S.setIfInBounds e.on true else S) S|none=>S) else S)
def pL(md:Region.Mode)(ops:Array Oper)(c:Nat):Bool:=(List.range c).all fun i=>(tA md ops (c+1) ((Array.replicate ops.size false).setIfInBounds c true)).getD i false
def uQ(md:Region.Mode)(ops:Array Oper)(L:Array Bool):Prop:=∀j oj,ops[j]? =some oj->L.getD j false=true->∀e∈oj.after,Region.binds md e=true->L.getD e.on false=true
theorem lS{L:Array Bool}(hL:uQ md ops L):∀(j:Nat) (S:Array Bool),(∀i,S.getD i false=true->L.getD i false=true)->∀i,(tA md ops j S).getD i false=true->L.getD i false=true
  | 0,S,h=>h
  | j+1,S,h=>by
    unfold tA;refine lS hL j _ ?_;by_cases hj:S.getD j false=true
    · rw [qD hj]
      cases ho:ops[j]? with
      | none=>exact h
      | some o=>
        have hcl:=hL j o ho (h j hj)
        have key:∀(es:List Edge) (T:Array Bool),(∀e∈es,e∈o.after.toList)->(∀i,T.getD i false=true->L.getD i false=true) ->
            ∀i,(es.foldl (fun S e=>if Region.binds md e then S.setIfInBounds e.on true else S) T).getD i false=true->L.getD i false=true:=by
          intro es;induction es with
          | nil=>intro T _ hT;exact hT
          | cons e es ih=>
            intro T hes hT;rw[List.foldl_cons];refine ih _ (fun e' he' =>hes e' (List.mem_cons_of_mem _ he')) ?_;by_cases hb:Region.binds md e=true
            · rw [qD hb]
              intro i hi;by_cases hei:e.on=i
              · rw[<-hei];exact hcl e (by simpa using hes e (by simp)) hb
              · rw[getD_set_ne false hei]at hi;exact hT i hi
            · rw[qC hb];exact hT
        exact key _ S (fun e he=>he) h
    · rw[qC hj];exact h
theorem uR{L:Array Bool}(hL:uQ md ops L)(hB:pL md ops c=true)(hc:L.getD c false=true):∀i,i<c->L.getD i false=true:=by
 intro i hi;have h1:=List.all_eq_true.1 hB i (by simpa using hi);refine lS hL (c+1) _ ?_ i h1;intro j hj;by_cases e:c=j
 · rw[<-e];exact hc
 {
 rw[getD_set_ne false e,gP]at hj;cases hj}
theorem uQ.set{L:Array Bool}{i:Nat}(h:uQ md ops L)(hi:i∈Region.ready md ops L):uQ md ops (L.setIfInBounds i true):=by
 obtain⟨_,oi,hoi,hall⟩:=mem_ready.1 hi;intro j oj hj hl e he hb;by_cases hij:i=j
 {
 subst hij;have:oj=oi:=Option.some.inj (hj.symm.trans hoi);subst this;exact getD_set_true (hall e he hb)}
 {
 rw[getD_set_ne false hij]at hl;exact getD_set_true (h j oj hj hl e he hb)}
def kR(c:Nat)(C0 C1:World->Prop)(listed:Array Bool)(w:World):Prop:=if listed.getD c false=true then C1 w else C0 w
def iS(md:Region.Mode)(ops:Array Oper):Bool:=(List.range ops.size).all fun j=>match ops[j]? with
  | some o=>o.after.all fun e=> !Region.binds md e||decide (e.on<j)
  | none=>true
theorem pM{listed:Array Bool}(hs:listed.size=ops.size)(hb:iS md ops=true)(h:Region.ready md ops listed=[]):∀j,j<ops.size->listed.getD j false=true:=by
 intro j;induction j using Nat.strongRecOn with
 | _ j ih=>{
 intro hj;apply qP;intro hno;have hun:listed.getD j true=false:=by simp[hs,hj]at hno ⊢;exact hno
 obtain⟨o,ho⟩:∃o,ops[j]? =some o:=⟨_,Array.getElem?_eq_getElem hj⟩;have hin:j∈Region.ready md ops listed:=by {
 refine mem_ready.2 ⟨hun,o,ho,fun e he hbe=>?_⟩;have h1:=List.all_eq_true.1 hb j (by simpa using hj);simp only[ho]at h1;have h2:=Array.all_eq_true'.1 h1 e he;simp[hbe]at h2;exact ih e.on h2 (by omega)};rw[h]at hin;cases hin}
theorem rD(hc:c<ops.size)(hb:iS md ops=true)(hbf:pL md ops c=true)(hu:∀o,ops[c]? =some o->o.guard=none){Q:Act->Prop}{Q' :Exit->Act->World->Prop}(hQ:∀a w,C1 w->Q a->Q' .normal a w):∀(fuel:Nat) (listed:Array Bool) (a:Act) (w:World),listed.size=ops.size ->
    uQ md ops listed->kR c C0 C1 listed w->zM (mG P c C0 C1) md ops Q fuel listed a->wpAny P md ops Q' fuel listed a w
  | 0,listed,a,w,hs,_,hp,h=>⟨h.1,hQ _ _ (by unfold kR at hp;rw[qD (pM hs hb h.1 c hc)]at hp;exact hp) h.2⟩
  | fuel+1,listed,a,w,hs,hsh,hp,h=>by
    refine⟨fun h0=>hQ _ _ (by unfold kR at hp;rw[qD (pM hs hb h0 c hc)]at hp;exact hp) (h.1 h0),fun i hi=>?_⟩;have hg:=h.2 i hi;obtain⟨hun,oi,hoi,_⟩:=mem_ready.1 hi;have hil:i<ops.size:=(qL.1 hoi).1;have hs' :(listed.setIfInBounds i true).size=ops.size:=by simp[hs]
    have hl0:listed.getD i false=false:=by
      simp[hs,hil]at hun ⊢;exact hun
    have next:∀a' w', kR c C0 C1 (listed.setIfInBounds i true) w' -> zM (mG P c C0 C1) md ops Q fuel (listed.setIfInBounds i true) a' -> wpAny P md ops Q' fuel (listed.setIfInBounds i true) a' w' :=
      fun a' w' hp' hg' =>rD hc hb hbf hu hQ fuel _ a' w' hs' (hsh.set hi) hp' hg'
    unfold gOp at hg;unfold wpOp;simp only[hoi]at hg ⊢;by_cases hic:i=c
    · subst hic
      have hl1:(listed.setIfInBounds i true).getD i false=true:=by simp[hs,hil]
      unfold kR at hp;rw[qC (by simp[hl0])]at hp;have hw:Region.wanted oi (yielded ops a.tmps)=true:=by simp[Region.wanted,hu oi hoi]
      rw[qD hw]at hg ⊢;obtain⟨v,hv,hk⟩:=hg;unfold mG at hv;rw[qC (Nat.lt_irrefl _),qD rfl]at hv;exact .inl (sZ (fun w' hc' =>next _ w' (by unfold kR;rw[qD hl1];exact hc') hk) (hv w hp))
    · have hlc : (listed.setIfInBounds i true).getD c false = listed.getD c false := getD_set_ne false hic
      by_cases hw:Region.wanted oi (yielded ops a.tmps)=true
      · rw [qD hw] at hg ⊢
        obtain⟨v,hv,hk⟩:=hg;unfold mG at hv;left
        by_cases hlt:i<c
        · have hcl : ¬ listed.getD c false = true := fun hcl => by rw [uR hsh hbf hcl i hlt] at hl0; cases hl0
          rw[qD hlt]at hv;unfold kR at hp;rw[qC hcl]at hp;exact sY hp (fun w' hc' =>next _ w' (by unfold kR;rw[hlc,qC hcl];exact hc') hk) (hv w hp)
        · rw [qC hlt, qC hic] at hv
          exact vM (next _ w (by unfold kR at hp ⊢;rw[hlc];exact hp) hk) (hv w)
      · rw [qC hw] at hg ⊢
        exact next _ w (by unfold kR at hp ⊢;rw[hlc];exact hp) hg
theorem bE(c:Nat){id:Nat}{Q:Exit->Act->World->Prop}{a:Act}{w:World}{l:List Oper}(C1:World->Prop)(hm:P.follows .mixedOrders=true)(hB:Region.lexB .any l.toArray=true)
    (hk:((iS .any l.toArray&&pL .any l.toArray c)&&match l[c]? with|some o=>o.guard.isNone|none=>false)=true)
    (h:dL (mG P c (fun w' =>∃n,w' =w.drewN n) C1) l.toArray (fun a' =>∀w', C1 w' -> Q .normal a' w') 0 l a):(Code.region id l.toArray true).wp P Q a w:=by
 simp only[Region.lexB,qW]at hB;rw[qW,qW]at hk;obtain⟨⟨hk1,hk3⟩,hk2⟩:=hk;have hcl:c<l.length:=by {
 cases ho:l[c]? with
 | none=>rw[ho]at hk2;cases hk2
 | some o=>exact(qS.1 ho).1};have hg:∀o,l.toArray[c]? =some o->o.guard=none:=by {
 intro o ho;simp only[List.getElem?_toArray]at ho;rw[ho]at hk2;simpa using hk2};refine wp_region_any hm (rD (Q:=fun a' =>∀w', C1 w' -> Q .normal a' w') (C0:=fun w' =>∃n,w' =w.drewN n) (C1:=C1) (c:=c) (by simpa using hcl) hk1 hk3 hg (fun _ w' hw' h=>h w' hw') _ _ _ _ (by simp) ?_ ?_ ?_)
 · intro j oj _ hl;rw[gP]at hl;cases hl
 {
 unfold kR;rw[qC (by simp[hcl])];exact⟨1,rfl⟩}
 {
 have:=sX (G:=mG P c (fun w' =>∃n,w' =w.drewN n) C1) (md:=.any) hB.1 l 0 (Array.replicate l.toArray.size false) a (by simp) (by simpa using hB.2) h;simpa using this}
theorem bN{C0 C1:World->Prop}{Q:Act->Prop}{k:Nat}{o:Oper}{rest:List Oper}{a:Act}(hk:k<c)
    (h:∀K:Act->Prop,(∀a,dL (mG P c C0 C1) ops Q (k+1) rest a->K a)->if Region.wanted o (yielded ops a.tmps) then o.quiet P a C0 K else K (a.put o.dst undef)):dL (mG P c C0 C1) ops Q k (o::rest) a:=by
 have h:=h _ (fun _ h=>h);unfold dL;by_cases hw:Region.wanted o (yielded ops a.tmps)=true
 {
 rw[qD hw]at *;obtain⟨v,h1,h2⟩:=h;refine⟨v,?_,h2⟩;unfold mG;rw[qD hk];exact h1}
 · rw[qC hw]at *;exact h
theorem aW{C0 C1:World->Prop}{Q:Act->Prop}{o:Oper}{rest:List Oper}{a:Act}(hg:o.guard=none)(v:Value)
    (h0:∀w,C0 w->gO P C1 v ((execOp a.eval o).run P w)) (h:dL (mG P c C0 C1) ops Q (c+1) rest (a.put o.dst v)):dL (mG P c C0 C1) ops Q c (o::rest) a:=by
 unfold dL;rw[qD (by simp[Region.wanted,hg])];refine⟨v,?_,h⟩;unfold mG;rw[qC (Nat.lt_irrefl _),qD rfl];exact h0
def Oper.pure_(P:Program)(o:Oper)(a:Act)(next:Act->Prop):Prop:=∃v,(∀w,kQ w v ((execOp a.eval o).run P w))/\next (a.put o.dst v)
theorem dX{C0 C1:World->Prop}{Q:Act->Prop}{k:Nat}{o:Oper}{rest:List Oper}{a:Act}(hk:c<k)
    (h:∀K:Act->Prop,(∀a,dL (mG P c C0 C1) ops Q (k+1) rest a->K a)->if Region.wanted o (yielded ops a.tmps) then Oper.pure_ P o a K else K (a.put o.dst undef)):dL (mG P c C0 C1) ops Q k (o::rest) a:=by
 have h:=h _ (fun _ h=>h);unfold dL;by_cases hw:Region.wanted o (yielded ops a.tmps)=true
 {
 rw[qD hw]at *;obtain⟨v,h1,h2⟩:=h;refine⟨v,?_,h2⟩;unfold mG;rw[qC (by omega),qC (by omega)];exact h1}
 · rw[qC hw]at *;exact h
theorem bO{C0 C1:World->Prop}{Q:Act->Prop}{k:Nat}{a:Act}(h:Q a):dL (mG P c C0 C1) ops Q k [] a:=h
attribute [go_sem] Oper.pure_ kQ gO
end
def gH(P:Program)(cs ps:List Nat)(C:Nat->World->Prop)(i:Nat)(s:Sem Go.Next)(v:Value):Prop:=
  if i<cs.headD 0/\i∉ps then ∀w,C 0 w->Oper.quietUpon P (C 0) w v (s.run P w)
  else if i∈cs then ∀w,C (cs.idxOf i) w->gO P (C (cs.idxOf i+1)) v (s.run P w) else ∀w,kQ w v (s.run P w)
section
variable {P:Program} {ops:Array Oper} {md:Region.Mode} {C:Nat->World->Prop} {cs ps:List Nat}
def rowB(md:Region.Mode)(ops:Array Oper):List Nat->Bool
  | []=>true
  | [c]=>decide (c<ops.size)
  | c::d::r=>decide (c<ops.size)&&decide (c<d)&&(tA md ops (d+1) ((Array.replicate ops.size false).setIfInBounds d true)).getD c false&&rowB md ops (d::r)
theorem xB{L:Array Bool}(hL:uQ md ops L){c d:Nat}(hB:(tA md ops (d+1) ((Array.replicate ops.size false).setIfInBounds d true)).getD c false=true)(hd:L.getD d false=true):L.getD c false=true:=by
 refine lS hL (d+1) _ ?_ c hB;intro j hj;by_cases e:d=j
 · rw[<-e];exact hd
 {
 rw[getD_set_ne false e,gP]at hj;cases hj}
def cnt(cs:List Nat)(L:Array Bool):Nat:=cs.countP (fun c=>L.getD c false)
theorem aIK:∀{cs:List Nat},rowB md ops cs=true->∀c∈cs,c<ops.size
  | [],_,c,hc=>by cases hc
  | [d],h,c,hc=>by simp[rowB]at h;simp at hc;omega
  | d::e::r,h,c,hc=>by
    simp only[rowB,qW,decide_eq_true_eq]at h;rcases qB.1 hc with rfl|hc
    · exact h.1.1.1
    · exact aIK h.2 c hc
theorem nB:∀{cs:List Nat},rowB md ops cs=true->cs.Pairwise (· < ·)
  | [],_=>.nil
  | [d],_=>by simp
  | d::e::r,h=>by
    simp only[rowB,qW,decide_eq_true_eq]at h;have ih:=nB h.2;refine List.Pairwise.cons (fun x hx=>?_) ih;rcases qB.1 hx with rfl|hx
    · exact h.1.1.2
    · exact Nat.lt_trans h.1.1.2 (List.rel_of_pairwise_cons ih hx)
theorem jN{L:Array Bool}(hL:uQ md ops L):∀{cs:List Nat},rowB md ops cs=true->∀q c,cs[q]? =some c->(L.getD c false=true↔q<cnt cs L)
  | [],_,q,c,h=>by simp at h
  | [d],_,q,c,h=>by
    cases q with
    | succ q=>simp at h
    | zero=>
      simp at h;subst h;simp only[cnt,List.countP_cons,List.countP_nil];by_cases hd:L.getD d false=true<;>simp[hd]
  | d::e::r,hB,q,c,h=>by
    simp only[rowB,qW]at hB;have ih:=jN hL hB.2;by_cases hd:L.getD d false=true
    · have hcnt : cnt (d :: e :: r) L = cnt (e :: r) L + 1 := by simp only [cnt, List.countP_cons, hd]; simp
      cases q with
      | zero=>simp at h;subst h;rw[hcnt];simp[hd]
      | succ q=>
        have:=ih q c (by simpa using h);rw[hcnt,this];omega
    · have he : ¬ L.getD e false = true := fun he => hd (xB hL hB.1.2 he)
      have h0:cnt (e::r) L=0:=by
        have:=ih 0 e (by simp);apply qP;intro hne;exact he (this.2 (by omega))
      have hcnt:cnt (d::e::r) L=0:=by
        have:cnt (d::e::r) L=cnt (e::r) L:=by simp only[cnt,List.countP_cons];simp[hd]
        rw[this,h0]
      rw[hcnt];cases q with
      | zero=>simp at h;subst h;simp[hd]
      | succ q=>
        have:=ih q c (by simpa using h);rw[h0]at this;rw[this];omega
theorem aMN{L:Array Bool}{i:Nat}(hs:i<L.size)(hl:L.getD i false=false)(hnd:cs.Nodup)(hi:i∈cs):cnt cs (L.setIfInBounds i true)=cnt cs L+1:=by
 unfold cnt;induction cs with
 | nil=>cases hi
 | cons d r ih=>{
 simp only[qN]at hnd;simp only[List.countP_cons];by_cases e:d=i
 {
 subst e;have h1:r.countP (fun c=>(L.setIfInBounds d true).getD c false)=r.countP (fun c=>L.getD c false):=by {
 apply List.countP_congr;intro c hc;rw[getD_set_ne false (show d≠c by rintro rfl;exact hnd.1 hc)]};rw[h1];have h2:(L.setIfInBounds d true).getD d false=true:=by simp[hs]
 rw[h2,hl];simp}
 {
 rw[ih hnd.2 ((qB.1 hi).resolve_left (fun h=>e h.symm)),getD_set_ne false (fun h=>e h.symm)];omega}}
theorem aGE{L:Array Bool}{i:Nat}(hi:i∉cs):cnt cs (L.setIfInBounds i true)=cnt cs L:=by
 unfold cnt;apply List.countP_congr;intro c hc;rw[getD_set_ne false (show i≠c by rintro rfl;exact hi hc)]
def allBefore' (md:Region.Mode)(ops:Array Oper)(c:Nat)(ps:List Nat):Bool:=(List.range c).all fun i=>ps.contains i||(tA md ops (c+1) ((Array.replicate ops.size false).setIfInBounds c true)).getD i false
theorem before_listed' {L:Array Bool}{c:Nat}(hL:uQ md ops L)(hB:allBefore' md ops c ps=true)(hc:L.getD c false=true):∀i,i<c/\i∉ps->L.getD i false=true:=by
 intro i hi;have h1:=List.all_eq_true.1 hB i (by simpa using hi.1);simp only[Bool.or_eq_true,List.contains_iff_mem]at h1;refine lS hL (c+1) _ ?_ i (h1.resolve_left hi.2);intro j hj;by_cases e:c=j
 · rw[<-e];exact hc
 {
 rw[getD_set_ne false e,gP]at hj;cases hj}
theorem xC(hrow:rowB md ops cs=true)(hne:cs≠[])(hb:iS md ops=true)(hbf:allBefore' md ops (cs.headD 0) ps=true)(hu:∀c∈cs,∀o,ops[c]? =some o->o.guard=none){Q:Act->Prop}{Q' :Exit->Act->World->Prop}(hQ:∀a w,C cs.length w->Q a->Q' .normal a w):∀(fuel:Nat) (listed:Array Bool) (a:Act) (w:World),listed.size=ops.size ->
    uQ md ops listed->C (cnt cs listed) w->zM (gH P cs ps C) md ops Q fuel listed a->wpAny P md ops Q' fuel listed a w:=by
 have hend:∀listed:Array Bool,listed.size=ops.size->Region.ready md ops listed=[]->cnt cs listed=cs.length:=by {
 intro listed hs h0;unfold cnt;rw[List.countP_eq_length];intro c hc;exact pM hs hb h0 c (aIK hrow c hc)};have hnd:cs.Nodup:=(nB hrow).imp (fun h=>Nat.ne_of_lt h);intro fuel;induction fuel with
 | zero=>{
 intro listed a w hs _ hp h;exact⟨h.1,hQ _ _ (by rw[hend listed hs h.1]at hp;exact hp) h.2⟩}
 | succ fuel ih=>{
 intro listed a w hs hsh hp h;refine⟨fun h0=>hQ _ _ (by rw[hend listed hs h0]at hp;exact hp) (h.1 h0),fun i hi=>?_⟩;have hg:=h.2 i hi;obtain⟨hun,oi,hoi,_⟩:=mem_ready.1 hi;have hil:i<ops.size:=(qL.1 hoi).1;have hs' :(listed.setIfInBounds i true).size=ops.size:=by simp[hs]
 have hl0:listed.getD i false=false:=by simp[hs,hil]at hun ⊢;exact hun
 have next:∀a' w', C (cnt cs (listed.setIfInBounds i true)) w' -> zM (gH P cs ps C) md ops Q fuel (listed.setIfInBounds i true) a' -> wpAny P md ops Q' fuel (listed.setIfInBounds i true) a' w' :=
   fun a' w' hp' hg' =>ih _ a' w' hs' (hsh.set hi) hp' hg'
 unfold gOp at hg;unfold wpOp;simp only[hoi]at hg ⊢;by_cases hmem:i∈cs
 {
 have hcs:=aMN (L:=listed) (by omega) hl0 hnd hmem;have hhead:¬i<cs.headD 0:=by {
 cases hcc:cs with
 | nil=>exact absurd hcc hne
 | cons d r=>{
 rw[hcc]at hmem;have:=nB hrow;rw[hcc]at this;rcases qB.1 hmem with rfl|hm
 · simp
 · have:=List.rel_of_pairwise_cons this hm;simp;omega}};have hidx:cs.idxOf i=cnt cs listed:=by {
 have hlt:=List.idxOf_lt_length_of_mem hmem;have hget:cs[cs.idxOf i]? =some i:=by rw[qK hlt,List.getElem_idxOf]
 have h1:=jN hsh hrow _ _ hget;rw[hl0]at h1;have hge:cnt cs listed<=cs.idxOf i:=by {
 apply qP;intro hx;have:=h1.2 (by omega);cases this};have h2:=jN (hsh.set hi) hrow _ _ hget;rw[hcs]at h2;have h3:(listed.setIfInBounds i true).getD i false=true:=by simp[hs,hil]
 have:=h2.1 h3;omega};have hw:Region.wanted oi (yielded ops a.tmps)=true:=by simp[Region.wanted,hu i hmem oi hoi]
 rw[qD hw]at hg ⊢;obtain⟨v,hv,hk⟩:=hg;unfold gH at hv;rw[qC (fun hx=>hhead hx.1),qD hmem,hidx]at hv;exact .inl (sZ (fun w' hc' =>next _ w' (by rw[hcs];exact hc') hk) (hv w hp))}
 {
 have hcs:=aGE (L:=listed) hmem;by_cases hw:Region.wanted oi (yielded ops a.tmps)=true
 {
 rw[qD hw]at hg ⊢;obtain⟨v,hv,hk⟩:=hg;unfold gH at hv;left
 by_cases hlt:i<cs.headD 0/\i∉ps
 {
 have h0:cnt cs listed=0:=by {
 cases hcc:cs with
 | nil=>exact absurd hcc hne
 | cons d r=>{
 apply qP;intro hx;have h1:=(jN hsh hrow 0 d (by rw[hcc];rfl)).2 (by rw[hcc];omega);rw[hcc]at hlt hbf;rw[before_listed' hsh hbf h1 i hlt]at hl0;cases hl0}};rw[qD hlt]at hv;rw[h0]at hp;exact sY hp (fun w' hc' =>next _ w' (by rw[hcs,h0];exact hc') hk) (hv w hp)}
 {
 rw[qC hlt,qC hmem]at hv;exact vM (next _ w (by rw[hcs];exact hp) hk) (hv w)}}
 {
 rw[qC hw]at hg ⊢;exact next _ w (by rw[hcs];exact hp) hg}}}
theorem rE(cs ps:List Nat){id:Nat}{Q:Exit->Act->World->Prop}{a:Act}{w:World}{l:List Oper}(C:Nat->World->Prop)(hC:∀w', C 0 w' ↔ ∃n,w' =w.drewN n)(hm:P.follows .mixedOrders=true)(hB:Region.lexB .any l.toArray=true)
    (hk:(((iS .any l.toArray&&allBefore' .any l.toArray (cs.headD 0) ps)&&(rowB .any l.toArray cs&&!cs.isEmpty))&&cs.all fun c=>match l[c]? with|some o=>o.guard.isNone|none=>false)=true)
    (h:dL (gH P cs ps C) l.toArray (fun a' =>∀w', C cs.length w' -> Q .normal a' w') 0 l a):(Code.region id l.toArray true).wp P Q a w:=by
 simp only[Region.lexB,qW]at hB;rw[qW,qW,qW,qW]at hk;obtain⟨⟨⟨hk1,hk3⟩,hk4,hk5⟩,hk2⟩:=hk;have hne:cs≠[]:=by rintro rfl;simp at hk5
 have hg:∀c∈cs,∀o,l.toArray[c]? =some o->o.guard=none:=by {
 intro c hc o ho;have h1:=List.all_eq_true.1 hk2 c hc;simp only[List.getElem?_toArray]at ho;rw[ho]at h1;simpa using h1};refine wp_region_any hm (xC (Q:=fun a' =>∀w', C cs.length w' -> Q .normal a' w') (C:=C) (cs:=cs) (ps:=ps) hk4 hne hk1 hk3 hg (fun _ w' hw' h=>h w' hw') _ _ _ _ (by simp) ?_ ?_ ?_)
 · intro j oj _ hl;rw[gP]at hl;cases hl
 {
 have:cnt cs (Array.replicate l.toArray.size false)=0:=by unfold cnt;rw[List.countP_eq_zero];intro c _;rw[gP];simp
 rw[this];exact(hC _).2 ⟨1,rfl⟩}
 {
 have:=sX (G:=gH P cs ps C) (md:=.any) hB.1 l 0 (Array.replicate l.toArray.size false) a (by simp) (by simpa using hB.2) h;simpa using this}
theorem lU{Q:Act->Prop}{k:Nat}{o:Oper}{rest:List Oper}{a:Act}(hk:decide (k<cs.headD 0/\k∉ps)=true)
    (h:∀K:Act->Prop,(∀a,dL (gH P cs ps C) ops Q (k+1) rest a->K a)->if Region.wanted o (yielded ops a.tmps) then o.quiet P a (C 0) K else K (a.put o.dst undef)):dL (gH P cs ps C) ops Q k (o::rest) a:=by
 have h:=h _ (fun _ h=>h);unfold dL;by_cases hw:Region.wanted o (yielded ops a.tmps)=true
 {
 rw[qD hw]at *;obtain⟨v,h1,h2⟩:=h;refine⟨v,?_,h2⟩;unfold gH;rw[qD (of_decide_eq_true hk)];exact h1}
 · rw[qC hw]at *;exact h
theorem iH{Q:Act->Prop}{k q:Nat}{o:Oper}{rest:List Oper}{a:Act}(hk:(decide (¬(k<cs.headD 0/\k∉ps))&&decide (k∈cs)&&decide (cs.idxOf k=q))=true)(hg:o.guard=none)(v:Value)
    (h0:∀w,C q w->gO P (C (q+1)) v ((execOp a.eval o).run P w)) (h:dL (gH P cs ps C) ops Q (k+1) rest (a.put o.dst v)):dL (gH P cs ps C) ops Q k (o::rest) a:=by
 simp only[qW,decide_eq_true_eq]at hk;unfold dL;rw[qD (by simp[Region.wanted,hg])];refine⟨v,?_,h⟩;unfold gH;rw[qC hk.1.1,qD hk.1.2,hk.2];exact h0
theorem jO{Q:Act->Prop}{k:Nat}{o:Oper}{rest:List Oper}{a:Act}(hk:(decide (¬(k<cs.headD 0/\k∉ps))&&decide (k∉cs))=true)
    (h:∀K:Act->Prop,(∀a,dL (gH P cs ps C) ops Q (k+1) rest a->K a)->if Region.wanted o (yielded ops a.tmps) then Oper.pure_ P o a K else K (a.put o.dst undef)):dL (gH P cs ps C) ops Q k (o::rest) a:=by
 simp only[qW,decide_eq_true_eq]at hk;have h:=h _ (fun _ h=>h);unfold dL;by_cases hw:Region.wanted o (yielded ops a.tmps)=true
 {
 rw[qD hw]at *;obtain⟨v,h1,h2⟩:=h;refine⟨v,?_,h2⟩;unfold gH;rw[qC hk.1,qC hk.2];exact h1}
 · rw[qC hw]at *;exact h
theorem vN{Q:Act->Prop}{k:Nat}{a:Act}(h:Q a):dL (gH P cs ps C) ops Q k [] a:=h
end
section
variable {P:Program} {ops:Array Oper} {C:World->Prop}
theorem xD{id:Nat}{Q:Exit->Act->World->Prop}{a:Act}{w:World}{l:List Oper}(C:World->Prop)(hm:P.follows .mixedOrders=true)(hB:Region.lexB .any l.toArray=true)(hC:C w.drew)
    (h:wpQuiet P l.toArray C (fun a' =>∀w', C w' -> Q .normal a' w') l a):(Code.region id l.toArray true).wp P Q a w:=
  wp_region_quiet hm hB hC (by simpa using h)
theorem aCJ{Q:Act->Prop}{o:Oper}{rest:List Oper}{a:Act}
    (h:∀K:Act->Prop,(∀a,wpQuiet P ops C Q rest a->K a)->if Region.wanted o (yielded ops a.tmps) then Oper.pure_ P o a K else K (a.put o.dst undef)):wpQuiet P ops C Q (o::rest) a:=by
 have h:=h _ (fun _ h=>h);unfold wpQuiet;by_cases hw:Region.wanted o (yielded ops a.tmps)=true
 {
 rw[qD hw]at *;obtain⟨v,h1,h2⟩:=h;refine⟨v,fun w _=>?_,h2⟩;have:=h1 w;unfold Oper.quietAt;revert this;generalize (execOp a.eval o).run P w=r;intro this;cases r with
 | halt x w' =>exact this.elim
 | ok x w' =>{
 cases x with
 | value u=>exact⟨this.1,this.2⟩
 | skip=>exact⟨this.1,this.2⟩
 | _=>exact this.elim}}
 · rw[qC hw]at *;exact h
structure CW (P:Program) (ops:Array Oper) (C:World->Prop) (Q:Act->Prop) (l:List Oper) (a:Act):Prop where
  out:wpQuiet P ops C Q l a
theorem cX{id:Nat}{Q:Exit->Act->World->Prop}{a:Act}{w:World}{l:List Oper}(C:World->Prop)(hm:P.follows .mixedOrders=true)(hB:Region.lexB .any l.toArray=true)(hC:C w.drew)
    (h:CW P l.toArray C (fun a' =>∀w', C w' -> Q .normal a' w') l a):(Code.region id l.toArray true).wp P Q a w:=xD C hm hB hC h.out
theorem rZ{Q:Act->Prop}{o:Oper}{rest:List Oper}{a:Act}(hw:Region.wanted o (yielded ops a.tmps)=false)(h:CW P ops C Q rest (a.put o.dst undef)):CW P ops C Q (o::rest) a:=by
 refine⟨?_⟩;unfold wpQuiet;rw[qC (by rw[hw];exact Bool.false_ne_true)];exact h.out
theorem aH{Q:Act->Prop}{o:Oper}{rest:List Oper}{a:Act}(hw:Region.wanted o (yielded ops a.tmps)=true)
    (h:∀K:Act->Prop,Hid (∀a,CW P ops C Q rest a->K a)->Oper.pure_ P o a K):CW P ops C Q (o::rest) a:=
  ⟨aCJ fun K hK=>by rw[qD hw];exact h K (qA (fun a h=>hK a h.out))⟩
theorem aS{Q:Act->Prop}{o:Oper}{rest:List Oper}{a:Act}(hw:Region.wanted o (yielded ops a.tmps)=true)(v:Value)
    (h0:∀w,C w->Oper.quietUpon P C w v ((execOp a.eval o).run P w)) (h:CW P ops C Q rest (a.put o.dst v)):CW P ops C Q (o::rest) a:=by
 refine⟨?_⟩;unfold wpQuiet;rw[qD hw];exact⟨v,h0,h.out⟩
theorem fZ{Q:Act->Prop}{a:Act}(h:Q a):CW P ops C Q [] a:=⟨h⟩
end
theorem uS{w:World}{base:Nat}{e:TypeId}{size:Nat}{v:Value}{n:Nat}{xs:List Value}(h:w.ownsRow base e size v n xs):w.ownsRow 0 e size v n xs:=
  ⟨h.1,h.2.elim .inl (fun⟨g,cap,cur,k1,_,k3⟩=>.inr ⟨g,cap,cur,k1,qR _,k3⟩)⟩
theorem aIL{P:Program}{w:World}{o:Oper}{a:Act}{K:Act->World->Prop}{Q:Exit->Act->World->Prop}(s x:Operand)(t:TypeId)
    (ho:o.op=.call { callee:=.builtin .append,args:=#[s,x],argTypes:=#[t,t] })
    (e:TypeId) (z:Value) (size bytes:Nat) (ht:P.underlying t=some (.slice e)) (hinfo:(P.info? e).map (fun i=>(i.zero,i.size,i.bytes))=some (some z,size,bytes)) (hzs:z.cells.size=size) (hsz:0<size)
    (v:Value) (n:Nat) (xs:List Value) (hs:a.eval s=v) (hown:w.ownsRow 0 e size v n xs)
    (b:Nat) (et:TypeId) (news:List Value) (hx:a.eval x=.slice (some ⟨b,0,none⟩) 1 1) (hb:Blk w b et news) (hl:news.length=size) (h1:∀u∈news,u.oneCell' =true)
    (hn:n+1<=4294967296) (hby:bytes<=1024)
    (h:∀g cap w', w'.ownsRow 0 e size (.slice (some ⟨g,0,none⟩) (n+1) cap) (n+1) (xs++news)->w.grownBy w' v.ownBlock->(v.ownBlock=some g∨w.heap.size<=g) ->
      K (a.put o.dst (.slice (some ⟨g,0,none⟩) (n+1) cap)) w'):o.wp P a w K Q:=by
 obtain⟨i0,hi,hz0,hz1,hz2⟩:=info_parts hinfo;have hbb:(n+1)*bytes<=140737488355328:=by {
 have:(n+1)*bytes<=4294967296*1024:=Nat.mul_le_mul hn hby;omega};obtain⟨g,cap,w', hr,h2,h3,h4⟩:=wO (P:=P) w t o.type e i0 z size bytes ht hi hz0 hz1 hz2 hzs hsz v n xs hown ⟨b,0,none⟩ 1 1 news (by rw[Nat.one_mul];exact hl) (fun j u hj=>by rw[Addr.add_lit,Nat.zero_add,hb.cell];exact hj) h1 (by decide) (by unfold maxLen;omega) hbb;unfold Oper.wp execOp;simp only[ho,resolve,invoke,builtin,Sem.run_bind,Sem.run_pure,Result.andThen_ok,List.map_toArray,List.map_cons,List.map_nil,hs,hx,hr];exact h g cap w' h2 h3 h4
theorem kS{P:Program}{w:World}{ops:Array Oper}{rest:List Oper}{o:Oper}{a:Act}{Q:Exit->Act->World->Prop}(hgd:o.guard=none)(s x:Operand)(t:TypeId)
    (ho:o.op=.call { callee:=.builtin .append,args:=#[s,x],argTypes:=#[t,t] })
    (e:TypeId) (z:Value) (size bytes:Nat) (ht:P.underlying t=some (.slice e)) (hinfo:(P.info? e).map (fun i=>(i.zero,i.size,i.bytes))=some (some z,size,bytes)) (hzs:z.cells.size=size) (hsz:0<size)
    (v:Value) (n:Nat) (xs:List Value) (hs:a.eval s=v) (hown:w.ownsRow 0 e size v n xs)
    (b:Nat) (et:TypeId) (news:List Value) (hx:a.eval x=.slice (some ⟨b,0,none⟩) 1 1) (hb:Blk w b et news) (hl:news.length=size) (h1:∀u∈news,u.oneCell' =true)
    (hn:n+1<=4294967296) (hby:bytes<=1024)
    (h:∀g cap w', w'.ownsRow 0 e size (.slice (some ⟨g,0,none⟩) (n+1) cap) (n+1) (xs++news)->w.grownBy w' v.ownBlock->(v.ownBlock=some g∨w.heap.size<=g) ->
      wpList P ops Q rest (a.put o.dst (.slice (some ⟨g,0,none⟩) (n+1) cap)) w'):wpList P ops Q (o::rest) a w:=
  wpList_plain hgd fun _ hK=>aIL s x t ho e z size bytes ht hinfo hzs hsz v n xs hs hown b et news hx hb hl h1 hn hby fun g cap w' h2 h3 h4=>hK _ _ (h g cap w' h2 h3 h4)
theorem vO{P:Program}{w:World}{ops:Array Oper}{o:Oper}{a:Act}{K:Act->World->Prop}{Q:Exit->Act->World->Prop}{E:Prop}(hgd:o.guard=none)(s x:Operand)(t:TypeId)
    (ho:o.op=.call { callee:=.builtin .append,args:=#[s,x],argTypes:=#[t,t] })
    (e:TypeId) (z:Value) (size bytes:Nat) (ht:P.underlying t=some (.slice e)) (hinfo:(P.info? e).map (fun i=>(i.zero,i.size,i.bytes))=some (some z,size,bytes)) (hzs:z.cells.size=size) (hsz:0<size)
    (v:Value) (n:Nat) (xs:List Value) (hs:a.eval s=v) (hown:w.ownsRow 0 e size v n xs)
    (b:Nat) (et:TypeId) (news:List Value) (hx:a.eval x=.slice (some ⟨b,0,none⟩) 1 1) (hb:Blk w b et news) (hl:news.length=size) (h1:∀u∈news,u.oneCell' =true)
    (hn:n+1<=4294967296) (hby:bytes<=1024)
    (h:∀g cap w', w'.ownsRow 0 e size (.slice (some ⟨g,0,none⟩) (n+1) cap) (n+1) (xs++news)->w.grownBy w' v.ownBlock->(v.ownBlock=some g∨w.heap.size<=g) ->
      K (a.put o.dst (.slice (some ⟨g,0,none⟩) (n+1) cap)) w'):
    if Region.wanted o (yielded ops a.tmps)=true then Oper.wp P o a w K Q else E:=by
 rw[qD (by simp[Region.wanted,hgd])];exact aIL s x t ho e z size bytes ht hinfo hzs hsz v n xs hs hown b et news hx hb hl h1 hn hby h
def lvC(e:Lv):List Value:=[.int .i64 e.slot,.int .u64 e.seq,.int .u64 e.u,.int .u64 e.v,.int .i64 e.wt,.int .i64 e.t,.int .i64 e.x]
abbrev lvA(e:Lv):Value:=.agg #[.int .i64 e.slot,.int .u64 e.seq,.int .u64 e.u,.int .u64 e.v,.int .i64 e.wt,.int .i64 e.t,.int .i64 e.x]
def xE:Value:=.agg #[.int .i64 0,.int .u64 0,.int .u64 0,.int .u64 0,.int .i64 0,.int .i64 0,.int .i64 0]
theorem Tryz.info74:(Tryz.prog.info? 74).map (fun i=>(i.zero,i.size,i.bytes))=some (some xE,7,56):=by kernel_rfl
def rowV(l:List Lv):List Value:=l.flatMap lvC
theorem vP(l:List Lv)(e:Lv):rowV (l++[e])=rowV l++lvC e:=by simp[rowV]
theorem oE(l:List Lv):(rowV l).length=l.length*7:=by
 induction l with
 | nil=>rfl
 | cons a r ih=>simp only[rowV,List.flatMap_cons,zE,qY]at *;rw[ih];simp[lvC];omega
theorem xF:∀{l:List Lv} {i:Nat} (hi:i<l.length) (j:Nat),j<7->(rowV l)[i*7+j]? =(lvC l[i])[j]?
  | e::l,0,_,j,hj=>by
    show(lvC e++rowV l)[0*7+j]? =(lvC e)[j]?
    rw[List.getElem?_append_left (by simp[lvC];omega)];congr 1;omega
  | e::l,i+1,hi,j,hj=>by
    show(lvC e++rowV l)[(i+1)*7+j]? =_
    rw[List.getElem?_append_right (by simp[lvC];omega)];have:=xF (l:=l) (i:=i) (by simpa using hi) j hj;rw[show(i+1)*7+j-(lvC e).length=i*7+j by simp[lvC];omega,this];simp
theorem aIM(l:List Lv):∀u∈rowV l,u.oneCell' =true:=by
 intro u hu;obtain⟨e,_,he⟩:=List.mem_flatMap.1 hu;simp[lvC]at he;rcases he with rfl|rfl|rfl|rfl|rfl|rfl|rfl<;>rfl
theorem eY{w:World}{base:Nat}{e:TypeId}{size:Nat}{v:Value}{n:Nat}{xs:List Value}(h:w.ownsRow base e size v n xs){q:Nat}(hq:v.ownBlock=some q):q<w.heap.size:=by
 rcases h.2 with⟨rfl,_⟩|⟨g,cap,cur,rfl,_,hh,_⟩
 · cases hq
 · simp[Value.ownBlock]at hq;subst hq;exact(qL.1 hh).1
def dA(w:World)(v:Value)(l:List Lv):Prop:=w.ownsRow 0 74 7 v l.length (rowV l)
section
variable {w w' :World} {v:Value} {l:List Lv}
theorem dA.fr{S:List Nat}(h:dA w v l)(hf:Fr S w w')(hs:∀q,v.ownBlock=some q->q∉S):dA w' v l:=
  aO h (fun q hq=>hf.keep q (eY h hq) (hs q hq))
theorem dA.fr0(h:dA w v l)(hf:Fr [] w w'):dA w' v l:=h.fr hf (by simp)
theorem dA.slice(h:dA w v l):∃a cap,v=.slice a l.length cap:=aT h
theorem dA.nil(w:World):dA w (.slice none 0 0) []:=⟨rfl,.inl ⟨rfl,rfl⟩⟩
theorem dA.lt(h:dA w v l){q:Nat}(hq:v.ownBlock=some q):q<w.heap.size:=eY h hq
def aGF(w:World)(b o:Nat)(e:Lv):Prop:=
  w.cell? ⟨b,o,none⟩=some (.int .i64 e.slot)/\w.cell? ⟨b,o+1,none⟩=some (.int .u64 e.seq)/\w.cell? ⟨b,o+2,none⟩=some (.int .u64 e.u)/\w.cell? ⟨b,o+3,none⟩=some (.int .u64 e.v) /\
    w.cell? ⟨b,o+4,none⟩=some (.int .i64 e.wt)/\w.cell? ⟨b,o+5,none⟩=some (.int .i64 e.t)/\w.cell? ⟨b,o+6,none⟩=some (.int .i64 e.x)
theorem dA.at(h:dA w v l){i:Nat}(hi:i<l.length):∃b cap,v=.slice (some ⟨b,0,none⟩) l.length cap/\l.length<=cap/\b<w.heap.size/\(∀j,w.frozen? ⟨b,j,none⟩=false)/\aGF w b (i*7) l[i]:=by
 obtain⟨h1,h2⟩:=h;rcases h2 with⟨rfl,h0⟩|⟨g,cap,cur,rfl,_,hh,hn,hm,hsz,hxs⟩
 · omega
 {
 have key:∀j,j<7->w.cell? ⟨g,i*7+j,none⟩=(lvC l[i])[j]? :=by {
 intro j hj;rw[<-xF hi j hj,<-hxs,List.getElem?_take,qD (by omega)];simp[World.cell?,hh]};exact⟨g,cap,rfl,hn,(qL.1 hh).1,fun j=>by simp[World.frozen?,hh],key 0 (by omega),key 1 (by omega),key 2 (by omega),key 3 (by omega),key 4 (by omega),key 5 (by omega),key 6 (by omega)⟩}
theorem Blk.lvAt{b:Nat}{t:TypeId}{e:Lv}(h:Blk w b t (lvC e)):aGF w b 0 e:=⟨h.cell 0,h.cell 1,h.cell 2,h.cell 3,h.cell 4,h.cell 5,h.cell 6⟩
end
def put7(w:World)(b o:Nat)(e:Lv):World:=
  ((((((w.setCell ⟨b,o,none⟩ (.int .i64 e.slot)).setCell ⟨b,o+1,none⟩ (.int .u64 e.seq)).setCell ⟨b,o+2,none⟩ (.int .u64 e.u)).setCell ⟨b,o+3,none⟩ (.int .u64 e.v)).setCell ⟨b,o+4,none⟩ (.int .i64 e.wt)).setCell ⟨b,o+5,none⟩ (.int .i64 e.t)).setCell ⟨b,o+6,none⟩ (.int .i64 e.x)
theorem zN:∀{l:List Lv} {i:Nat} (_:i<l.length) (e:Lv),
    ((((((((rowV l).set (i*7) (.int .i64 e.slot)).set (i*7+1) (.int .u64 e.seq)).set (i*7+2) (.int .u64 e.u)).set (i*7+3) (.int .u64 e.v)).set (i*7+4) (.int .i64 e.wt)).set (i*7+5) (.int .i64 e.t)).set (i*7+6) (.int .i64 e.x))=rowV (l.set i e)
  | a::l,0,_,e=>by simp[rowV,lvC,qT]
  | a::l,i+1,hi,e=>by
    have ih:=zN (l:=l) (i:=i) (by simpa using hi) e;have hs:∀(xs:List Value) (k:Nat) (u:Value),(lvC a++xs).set (k+7) u=lvC a++xs.set k u:=fun xs k u=>by
      rw[List.set_append_right _ _ (by simp[lvC])];simp[lvC]
    show((((((((lvC a++rowV l).set _ _).set _ _).set _ _).set _ _).set _ _).set _ _).set _ _)=lvC a++rowV (l.set i e)
    rw[<-ih,show(i+1)*7=i*7+7 by omega,hs,show i*7+7+1=i*7+1+7 by omega,hs,show i*7+7+2=i*7+2+7 by omega,hs,show i*7+7+3=i*7+3+7 by omega,hs,
      show i*7+7+4=i*7+4+7 by omega,hs,show i*7+7+5=i*7+5+7 by omega,hs,show i*7+7+6=i*7+6+7 by omega,hs]
theorem dO{w:World}{e:TypeId}{size g n cap i:Nat}{xs:List Value}(h:w.ownsRow 0 e size (.slice (some ⟨g,0,none⟩) n cap) n xs)(u:Value):
    (w.setCell ⟨g,i,none⟩ u).ownsRow 0 e size (.slice (some ⟨g,0,none⟩) n cap) n (xs.set i u):=by
 obtain⟨h1,h2⟩:=h;refine⟨by simpa using h1,?_⟩;rcases h2 with⟨h2,_⟩|⟨g', cap', cur,e1,_,hh,hn,hm,hsz,hxs⟩
 · cases h2
 {
 simp only[qO,qI,Addr.mk.injEq,and_true,true_and]at e1;obtain⟨rfl,rfl⟩:=e1;refine .inr ⟨g,cap,cur.setIfInBounds i u,rfl,qR _,?_,hn,hm,by simpa using hsz,?_⟩
 {
 simp only[World.setCell,Array.getElem?_modify];simp[hh]}
 · rw[<-hxs,Array.toList_setIfInBounds,List.take_set]}
theorem dA.set{w:World}{g cap:Nat}{l:List Lv}(h:dA w (.slice (some ⟨g,0,none⟩) l.length cap) l){i:Nat}(hi:i<l.length)(e:Lv):dA (put7 w g (i*7) e) (.slice (some ⟨g,0,none⟩) l.length cap) (l.set i e):=by
 unfold dA at *;rw[List.length_set,<-zN hi];exact dO (dO (dO (dO (dO (dO (dO h _) _) _) _) _) _) _
theorem Fr.put7{S:List Nat}{w w' :World}(h:Fr S w w')(b o:Nat)(e:Lv)(hb:b∈S∨w.heap.size<=b):Fr S w (put7 w' b o e):=
  ((((((h.setCell _ _ hb).setCell _ _ hb).setCell _ _ hb).setCell _ _ hb).setCell _ _ hb).setCell _ _ hb).setCell _ _ hb
def dI(w:World)(v:Value)(p:List Nat):Prop:=w.ownsRow 0 3 1 v p.length (fK p)
section
variable {w w' :World} {v:Value} {p:List Nat}
theorem dI.fr{S:List Nat}(h:dI w v p)(hf:Fr S w w')(hs:∀q,v.ownBlock=some q->q∉S):dI w' v p:=
  aO h (fun q hq=>hf.keep q (eY h hq) (hs q hq))
theorem dI.fr0(h:dI w v p)(hf:Fr [] w w'):dI w' v p:=h.fr hf (by simp)
theorem dI.slice(h:dI w v p):∃a cap,v=.slice a p.length cap:=aT h
theorem dI.nil(w:World):dI w (.slice none 0 0) []:=⟨rfl,.inl ⟨rfl,rfl⟩⟩
theorem dI.lt(h:dI w v p){q:Nat}(hq:v.ownBlock=some q):q<w.heap.size:=eY h hq
theorem dI.at(h:dI w v p){i:Nat}(hi:i<p.length):∃b cap,v=.slice (some ⟨b,0,none⟩) p.length cap/\b<w.heap.size/\w.cell? ⟨b,i,none⟩=some (.int .i64 (p[i]'hi)):=by
 obtain⟨b,cap,e,_,h2,h3,_⟩:=cL h hi;exact⟨b,cap,e,h2,h3.trans (by simp[fK,hi])⟩
end
def okS:Value->Bool
  | .slice _ _ _=>true
  | _=>false
abbrev fM:Value:=.slice none 0 0
def mH(f:Nat->List Nat)(a:Nat)(l:List Nat):Nat->List Nat:=fun x=>if x=a then l else f x
theorem iT(f:Nat->List Nat)(a:Nat)(l:List Nat):mH f a l a=l:=by simp[mH]
theorem dY{f:Nat->List Nat}{a x:Nat}{l:List Nat}(h:x≠a):mH f a l x=f x:=by simp[mH,h]
abbrev U64:Nat:=18446744073709551616
structure nC (w:World) (mb:Nat) (iv:Int->Option Value) (f:Nat->List Nat) (n:Nat) (lb:List Nat):Prop where
  im:cV Tryz.prog 36 .u64 okS w mb iv n
  nm:mb∉lb
  lt:∀b∈lb,b<w.heap.size
  row:∀id:Nat,id<U64->((iv id).isSome=true↔f id≠[])/\dI w ((iv id).getD fM) (f id)/\∀q,((iv id).getD fM).ownBlock=some q->q∈lb
  inj:∀(id id' q:Nat),id<U64->id' < U64->((iv id).getD fM).ownBlock=some q->((iv id').getD fM).ownBlock=some q->id=id'
def oF(w:World)(mb:Nat)(f:Nat->List Nat)(n:Nat)(lb:List Nat):Prop:=∃iv,nC w mb iv f n lb
theorem nC.fr{w w' :World}{mb n:Nat}{iv:Int->Option Value}{f:Nat->List Nat}{lb S:List Nat}(h:nC w mb iv f n lb)(hf:Fr S w w')(h1:mb∉S)(h2:∀b∈lb,b∉S):nC w' mb iv f n lb:=
  ⟨h.im.same (hf.keep mb h.im.lt h1),h.nm,fun b hb=>Nat.lt_of_lt_of_le (h.lt b hb) hf.size,fun id hid=>⟨(h.row id hid).1,(h.row id hid).2.1.fr hf (fun q hq=>h2 q ((h.row id hid).2.2 q hq)),(h.row id hid).2.2⟩,h.inj⟩
theorem nC.set{w w1 w2:World}{mb n n2:Nat}{iv:Int->Option Value}{f:Nat->List Nat}{lb:List Nat}(h:nC w mb iv f n lb){id:Nat}(hid:id<U64){v1:Value}{l1:List Nat}(h1:dI w1 v1 l1)(hne:l1≠[])
    (hF:Fr ((iv id).getD fM).ownBlock.toList w w1) (hq:∀q,v1.ownBlock=some q->((iv id).getD fM).ownBlock=some q∨w.heap.size<=q)
    (hI:cV Tryz.prog 36 .u64 okS w2 mb (jM iv id (some v1)) n2) (hF2:Fr [mb] w1 w2):nC w2 mb (jM iv id (some v1)) (mH f id l1) n2 (lb++v1.ownBlock.toList):=by
 have hml:=h.im.lt;have hs1:=hF.size;have hs2:=hF2.size;have hqm:∀q,v1.ownBlock=some q->q≠mb:=fun q hqq e=>by
   subst e;rcases hq q hqq with e|e
   · exact h.nm ((h.row id hid).2.2 q e)
   · omega
 have hother:∀(x:Nat),x<U64->x≠id->∀q,((iv x).getD fM).ownBlock=some q->q∉((iv id).getD fM).ownBlock.toList/\q≠mb:=fun x hx hxn q hqq=>
   ⟨fun hm=>hxn (h.inj x id q hx hid hqq (by simpa using hm)),fun e=>h.nm (e▸(h.row x hx).2.2 q hqq)⟩
 refine⟨hI,fun hm=>?_,fun b hb=>?_,fun x hx=>?_,fun x y q hx hy hxq hyq=>?_⟩
 {
 rcases qE.1 hm with hm|hm
 · exact h.nm hm
 · exact hqm mb (by simpa using hm) rfl}
 {
 rcases qE.1 hb with hb|hb
 · have:=h.lt b hb;omega
 · have:=h1.lt (by simpa using hb);omega}
 {
 by_cases e:x=id
 {
 subst e;rw[cG,iT];refine⟨by simp[hne],h1.fr hF2 (fun q hqq hm=>?_),fun q hqq=>qE.2 (.inr (by simpa using hqq))⟩;exact hqm q hqq (by simpa using hm)}
 {
 rw[bK (by omega),dY e];obtain⟨a1,a2,a3⟩:=h.row x hx;exact⟨a1,(a2.fr hF (fun q hqq=>(hother x hx e q hqq).1)).fr hF2 (fun q hqq hm=>(hother x hx e q hqq).2 (by simpa using hm)),fun q hqq=>qE.2 (.inl (a3 q hqq))⟩}}
 {
 by_cases ex:x=id
 {
 by_cases ey:y=id
 · rw[ex,ey]
 {
 subst ex;rw[cG]at hxq;rw[bK (by omega)]at hyq;rcases hq q hxq with e|e
 · exact(h.inj y x q hy hx hyq e).symm
 · have:=h.lt q ((h.row y hy).2.2 q hyq);omega}}
 {
 rw[bK (by omega)]at hxq;by_cases ey:y=id
 {
 subst ey;rw[cG]at hyq;rcases hq q hyq with e|e
 · exact h.inj x y q hx hy hxq e
 · have:=h.lt q ((h.row x hx).2.2 q hxq);omega}
 {
 rw[bK (by omega)]at hyq;exact h.inj x y q hx hy hxq hyq}}}
theorem nC.del{w w1 w2:World}{mb n n2:Nat}{iv:Int->Option Value}{f:Nat->List Nat}{lb:List Nat}(h:nC w mb iv f n lb){id:Nat}(hid:id<U64)
    (hF:Fr ((iv id).getD fM).ownBlock.toList w w1) (hI:cV Tryz.prog 36 .u64 okS w2 mb (jM iv id none) n2) (hF2:Fr [mb] w1 w2):nC w2 mb (jM iv id none) (mH f id []) n2 lb:=by
 have hs1:=hF.size;have hs2:=hF2.size;have hother:∀(x:Nat),x<U64->x≠id->∀q,((iv x).getD fM).ownBlock=some q->q∉((iv id).getD fM).ownBlock.toList/\q≠mb:=fun x hx hxn q hqq=>
   ⟨fun hm=>hxn (h.inj x id q hx hid hqq (by simpa using hm)),fun e=>h.nm (e▸(h.row x hx).2.2 q hqq)⟩
 refine⟨hI,h.nm,fun b hb=>?_,fun x hx=>?_,fun x y q hx hy hxq hyq=>?_⟩
 · have:=h.lt b hb;omega
 {
 by_cases e:x=id
 {
 subst e;rw[cG,iT];exact⟨by simp,dI.nil _,fun q hqq=>by cases hqq⟩}
 {
 rw[bK (by omega),dY e];obtain⟨a1,a2,a3⟩:=h.row x hx;exact⟨a1,(a2.fr hF (fun q hqq=>(hother x hx e q hqq).1)).fr hF2 (fun q hqq hm=>(hother x hx e q hqq).2 (by simpa using hm)),a3⟩}}
 {
 by_cases ex:x=id
 · subst ex;rw[cG]at hxq;cases hxq
 {
 rw[bK (by omega)]at hxq;by_cases ey:y=id
 · subst ey;rw[cG]at hyq;cases hyq
 {
 rw[bK (by omega)]at hyq;exact h.inj x y q hx hy hxq hyq}}}
theorem oF.fr{w w' :World}{mb n:Nat}{f:Nat->List Nat}{lb S:List Nat}(h:oF w mb f n lb)(hf:Fr S w w')(h1:mb∉S)(h2:∀b∈lb,b∉S):oF w' mb f n lb:=by
 obtain⟨iv,h⟩:=h;exact⟨iv,h.fr hf h1 h2⟩
theorem jP{id:Nat}(h:id<U64):(Lit.int .u64 (id:Int)).wf=true:=by
 show(decide ((0:Int)<=id)&&decide ((id:Int)<=18446744073709551615))=true
 have h:id<18446744073709551616:=h;simp;omega
theorem aGG{a:Int}(h:(Lit.int .u64 a).wf=true):∃id:Nat,a=id/\id<U64:=by
 have h:(decide ((0:Int)<=a)&&decide (a<=18446744073709551615))=true:=h;simp only[qW,decide_eq_true_eq]at h;exact⟨a.toNat,by omega,show a.toNat<18446744073709551616 by omega⟩
structure Cls (c:Nat->Nat) (ps mb:Nat) (vl:Value) (la lt lb:List Nat):Prop where
  p:c ps=0
  m:c mb=1
  a:∀b∈la,c b=2
  t:∀b∈lt,c b=3
  l:∀q,vl.ownBlock=some q->c q=4
  b:∀b∈lb,c b=5
structure StB (w:World) (ps pa pt mb n:Nat) (vl:Value) (s:Sm) (la lt lb:List Nat) (c:Nat->Nat):Prop where
  hd:Blk w ps 145 [.int .i64 s.V,.int .i64 s.E,.int .u64 s.last,ptr pa,ptr pt,vl,.map (some mb)]
  ar:aU w pa s.A la
  tb:gI w pt s.M lt
  lv:dA w vl ((List.range n).map (aG s.L))
  inc:oF w mb (bT s.L) s.M.L.length lb
  sn:∀e∈s.L,e.slot<n
  nE:n<=s.E
  ok:s.Ok
  cls:Cls c ps mb vl la lt lb
def stK(ps mb:Nat)(vl:Value)(la lt lb:List Nat):List Nat:=ps::mb::(la++lt++vl.ownBlock.toList++lb)
def bF(w:World)(ps:Nat)(s:Sm)(K:List Nat):Prop:=∃pa pt mb n vl la lt lb c,StB w ps pa pt mb n vl s la lt lb c/\K=stK ps mb vl la lt lb
theorem oF.ltm{w:World}{mb n:Nat}{f:Nat->List Nat}{lb:List Nat}(h:oF w mb f n lb):mb<w.heap.size:=by
 obtain⟨iv,h⟩:=h;exact h.im.lt
theorem oF.ltb{w:World}{mb n:Nat}{f:Nat->List Nat}{lb:List Nat}(h:oF w mb f n lb):∀b∈lb,b<w.heap.size:=by
 obtain⟨iv,h⟩:=h;exact h.lt
section
variable {w w' :World} {ps pa pt mb n:Nat} {vl:Value} {s:Sm} {la lT lb K S:List Nat} {c:Nat->Nat}
theorem StB.fr(h:StB w ps pa pt mb n vl s la lT lb c)(hf:Fr S w w')(hd:∀q∈stK ps mb vl la lT lb,q∉S):StB w' ps pa pt mb n vl s la lT lb c:=
  ⟨hf.blk h.hd (hd _ (by simp[stK])),h.ar.fr hf (fun q hq=>hd q (by simp[stK,hq])),h.tb.fr hf (fun q hq=>hd q (by simp[stK,hq])),h.lv.fr hf (fun q hq=>hd q (by simp[stK,hq])),
    h.inc.fr hf (hd _ (by simp[stK])) (fun q hq=>hd q (by simp[stK,hq])),h.sn,h.nE,h.ok,h.cls⟩
theorem StB.lt(h:StB w ps pa pt mb n vl s la lT lb c):∀q∈stK ps mb vl la lT lb,q<w.heap.size:=by
 intro q hq;simp only[stK,qB,qE,Option.mem_toList]at hq;rcases hq with rfl|rfl|((hq|hq)|hq)|hq
 · exact h.hd.lt
 · exact h.inc.ltm
 · exact h.ar.lt q hq
 · exact h.tb.lt q hq
 · exact h.lv.lt hq
 · exact h.inc.ltb q hq
theorem bF.fr(h:bF w ps s K)(hf:Fr S w w')(hd:∀q∈K,q∉S):bF w' ps s K:=by
 obtain⟨pa,pt,mb,n,vl,la,lt,lb,c,h,rfl⟩:=h;exact⟨pa,pt,mb,n,vl,la,lt,lb,c,h.fr hf hd,rfl⟩
theorem bF.fr0(h:bF w ps s K)(hf:Fr [] w w'):bF w' ps s K:=h.fr hf (by simp)
theorem bF.lt(h:bF w ps s K):∀q∈K,q<w.heap.size:=by
 obtain⟨pa,pt,mb,n,vl,la,lt,lb,c,h,rfl⟩:=h;exact h.lt
theorem bF.ok(h:bF w ps s K):s.Ok:=by
 obtain⟨pa,pt,mb,n,vl,la,lt,lb,c,h,rfl⟩:=h;exact h.ok
end
theorem tB(l:List Nat):(oD l).Perm l:=List.mergeSort_perm _ _
theorem aIN(l:List Nat):(oD l).Pairwise (·<= ·):=by
 have:=List.pairwise_mergeSort (le:=fun x y:Nat=>decide (x<=y)) (fun a b c h1 h2=>by simp at *;omega) (fun a b=>by simp;omega) l;exact this.imp (fun h=>by simpa using h)
theorem aIO{l:List Nat}(h:l.Nodup):(oD l).Pairwise (· < ·):=by
 have h1:=aIN l;have h2:(oD l).Nodup:=(tB l).nodup_iff.2 h;exact(h1.and h2).imp (fun h=>by omega)
theorem aGH{l:List Nat}{x:Nat}:x∈oD l↔x∈l:=(tB l).mem_iff
theorem aIP{w:World}{pt:Nat}{M:Md}{l:List Nat}(h:gI w pt M l):
    Calls Tryz.prog 116 #[ptr pt] w fun e w' =>∃pt', e=.returned (ptr pt')/\∃l', gI w' pt' M l' /\ Fr [] w w' /\ ∀b∈l', w.heap.size<=b:=by
 obtain⟨T,hT,r⟩:=h;refine(aCH hT).mono ?_;rintro e w' ⟨pt', rfl,l', h1,h2,h3⟩;exact⟨pt', rfl,l', ⟨T,h1,r⟩,h2,h3⟩
theorem Md.Ok.len{M:Md}(h:M.Ok):M.L.length<=65536:=by
 have h1:=h.cnt;have h2:=h.ar.hb;have h3:=h.ar.hs;simp only[Md.ar]at h2 h3;omega
@[go_sem] theorem aSO(w:World)(r:Option Nat):(binOp .neq 143 (.map r) (.map none)).run Tryz.prog w=.ok (.bool (!r.isNone)) w:=run_neq_map_nil w _ _ _ r Tryz.underlying143
abbrev iM(b:Nat):Value:=.pointer (some ⟨b,0,none⟩)
section
variable {w w' :World} {ps:Nat} {s:Sm} {K:List Nat}
theorem bF.open(h:bF w ps s K):∃pa pt mb n vl la lT lb c,StB w ps pa pt mb n vl s la lT lb c/\K=stK ps mb vl la lT lb /\
    w.cell? ⟨ps,0,none⟩=some (.int .i64 s.V)/\w.cell? ⟨ps,1,none⟩=some (.int .i64 s.E)/\w.cell? ⟨ps,2,none⟩=some (.int .u64 s.last)/\w.cell? ⟨ps,3,none⟩=some (ptr pa)/\w.cell? ⟨ps,4,none⟩=some (ptr pt)/\w.cell? ⟨ps,5,none⟩=some vl/\w.cell? ⟨ps,6,none⟩=some (.map (some mb)):=by
 obtain⟨pa,pt,mb,n,vl,la,lT,lb,c,h,rfl⟩:=h;exact⟨pa,pt,mb,n,vl,la,lT,lb,c,h,rfl,h.hd.cell 0,h.hd.cell 1,h.hd.cell 2,h.hd.cell 3,h.hd.cell 4,h.hd.cell 5,h.hd.cell 6⟩
theorem kT(h:bF w ps s K):Calls Tryz.prog 96 #[iM ps] w fun e w' =>e=.returned (.bool true)/\w' =w:=by
 obtain⟨pa,pt,mb,n,vl,la,lT,lb,c,hB,rfl,c0,c1,c2,c3,c4,c5,c6⟩:=h.open;clear h hB;go_enter Tryz.func96,Tryz.ntmps96
 go_wp2
 go_ret;exact⟨rfl,rfl⟩
theorem zO(h:bF w ps s K)(id:Nat)(hid:id<18446744073709551616):Calls Tryz.prog 136 #[iM ps,.int .u64 id] w fun e w' =>e=.returned (.tuple #[.int .i64 ((s.M.find id).getD 0),.bool (s.M.find id).isSome])/\Fr [] w w' :=by
 have HV:=qA (kT h);obtain⟨pa,pt,mb,n,vl,la,lT,lb,c,hB,rfl,c0,c1,c2,c3,c4,c5,c6⟩:=h.open;have HL:=qA (aDZ id hid hB.tb);clear h hB;generalize (s.M.find id).getD 0=i at *;generalize (s.M.find id).isSome=b at *;go_enter Tryz.func136,Tryz.ntmps136
 go_wp2_with fail
 refine HV.out.mono ?_;rintro _ w ⟨rfl,rfl⟩;go_wp2_with fail
 refine HL.out.mono ?_;rintro _ w1 ⟨rfl,_,hb⟩;have HB:=qA (Fr.of_below hb);clear hb;go_wp2
 go_ret2;exact⟨rfl,HB.out⟩
def Sm.ids(s:Sm):List Nat:=oD (s.M.L.map (·.1))
theorem Sm.ids_len(s:Sm):s.ids.length=s.M.L.length:=by unfold Sm.ids;rw[aGC,List.length_map]
end
end Go.Proofs.YtjdgpcjbgjnahaaGreatDoor
