/- A region that draws its order, of whose operations ONE changes the world (a call, a store, an append): one walk in the order of the text serves every order. -/
import Derived.Test.YtjdgpcjbgjnahaaGreatDoorG2
import Derived.Maps.OwnOps
import Derived.Maps.OwnSet
import Derived.Test.YtjdgpcjbgjnahaaGreatDoorG1
import Derived.Deep.WholeRow
import Derived.StillTailTactics
import Derived.Sort.WalkA
import Derived.Sort.Walk13a
import Derived.CellFam
import Derived.BigGuard
import Derived.BigCall
import Derived.Deep.Draws
import Derived.Sort.WalkB3
import Derived.Sort.WalkB12
import Derived.Sort.WalkD1
import Derived.Sort.LotD4
import Derived.Shelf.Lay
import Derived.Shelf.Small.Bits
import Derived.Ground.Names2Prog
import Derived.Sort.Walk7
import Derived.Sort.WalkC
import Derived.Sort.WalkC4
import Derived.Sort.WalkA6
import Derived.Sort.Walk13
import Derived.Sort.AssemblyPlain
import Derived.Deep.Cut
import Derived.Deep.RegionHeld3
import Derived.Shelf.SlGeneric
import Derived.Ground.SlgnProg
import Derived.Shelf.SlicesE.Clone
import Derived.Deep.Quiet
set_option maxRecDepth 100000
set_option maxHeartbeats 12800000
set_option linter.unusedSimpArgs false
set_option linter.unusedVariables false
/- The contracts of package intern over the plain model. -/
namespace Go.Proofs.YtjdgpcjbgjnahaaGreatDoor
open Go.RowKit
def gL(w:World)(pt:Nat)(M:Md)(l:List Nat):Prop:=
  ∃T,cB w pt T l/\T.A=M.ar/\M.Ok/\∀id i,(id,i)∈M.L↔(T.used i/\T.ids i=id)
theorem gL.ok{w:World}{pt:Nat}{M:Md}{l:List Nat}(h:gL w pt M l):M.Ok:=by obtain⟨_,_,_,h,_⟩:=h;exact h
theorem gL.lt{w:World}{pt:Nat}{M:Md}{l:List Nat}(h:gL w pt M l):∀b∈l,b<w.heap.size:=by obtain⟨_,h,_⟩:=h;exact h.lt
theorem gL.fr{w w' :World}{pt:Nat}{M:Md}{l S:List Nat}(h:gL w pt M l)(hf:Fr S w w')(hd:∀b∈l,b∉S):gL w' pt M l:=by
 obtain⟨T,h,r⟩:=h;exact⟨T,h.fr hf hd,r⟩
theorem gL.below{w w' :World}{pt:Nat}{M:Md}{l:List Nat}(h:gL w pt M l)(hf:Below w.heap.size w w'):gL w' pt M l:=
  h.fr (Fr.of_below hf) (by simp)
def Next(l l' :List Nat)(w w' :World):Prop:=Fr l w w' /\ ∀b∈l', b∈l∨w.heap.size<=b
theorem Next.of_below{l:List Nat}{w w' :World}(h:Below w.heap.size w w'):Next l l w w' :=⟨(Fr.of_below h).mono (by simp),fun _ h=>.inl h⟩
theorem aMD(slots:Nat)(w:World)(h:slots<=65536):
    Calls Tryz.prog 128 #[.int .i64 slots] w fun e w' =>∃pt,e=.returned (.tuple #[ptr pt,.int .i64 0])/\∃l,gL w' pt (Md.new slots) l/\Next [] l w w' :=by
 refine(aFM slots w h).mono ?_;rintro e w' ⟨pt,rfl,l,hT,hF,hl⟩;refine⟨pt,rfl,l,⟨_,hT,rfl,Md.ok_new h,fun id i=>?_⟩,hF,fun b hb=>.inr (hl b hb)⟩;simp only[Md.new,List.not_mem_nil,false_iff,not_and];intro hu;exact absurd hu.1 (Nat.not_lt_zero _)
theorem aME{w:World}{pt:Nat}{M:Md}{l:List Nat}(id:Nat)(hid:id<18446744073709551616)(h:gL w pt M l):
    Calls Tryz.prog 173 #[ptr pt,.int .u64 id] w fun e w' =>e=.returned (.tuple #[.int .i64 (M.put id).idx,.bool (M.put id).added,.int .i64 (M.put id).err]) /\
      ∃l', gL w' pt (M.put id).M l' /\ Next l l' w w' :=by
 have h0:=h;obtain⟨T,hT,hA,hok,hiff⟩:=h;cases hf:M.find id with
 | some i=>{
 have hm:=(hiff id i).1 (Md.find_mem hf);have e:M.put id=⟨i,false,0,M⟩:=by simp only[Md.put,hf]
 rw[e];refine(rM hid hT hm.1 hm.2).mono ?_;rintro e w' ⟨rfl,hB⟩;exact⟨rfl,l,h0.below hB,Next.of_below hB⟩}
 | none=>{
 have hno:∀i,T.used i->T.ids i≠id:=fun i hu e=>Md.find_none.1 hf i ((hiff id i).2 ⟨hu,e⟩);cases hn:M.next with
 | none=>{
 have e:M.put id=⟨0,false,4,M⟩:=by simp only[Md.put,hf,hn]
 rw[e];refine(sH hid hT hno (by rw[hA,Md.ar_next];exact hn)).mono ?_;rintro e w' ⟨rfl,hB⟩;exact⟨rfl,l,h0.below hB,Next.of_below hB⟩}
 | some i=>{
 have e:M.put id=⟨i,true,0,M.add id i⟩:=by simp only[Md.put,hf,hn]
 rw[e];have hn' :T.A.next=some i:=by rw[hA,Md.ar_next];exact hn
 refine(uH hid hT hno hn').mono ?_;rintro e w' ⟨rfl,l', hT', hF,hs⟩;refine⟨rfl,l', ⟨T.put id i,hT', ?_,Md.ok_add hok hid hf hn,fun id' j=>?_⟩,hF,hs⟩
 · rw[Md.ar_add hn,<-hA];rfl
 {
 have hu:=isUsed_alloc (by rw[hA];exact hok.ar) hn';simp only[Md.add,qE,qH,zD,hiff];have hu2:(T.put id i).used j↔(T.used j∨j=i):=hu.2 j;rw[hu2];simp only[Tb.put];constructor
 {
 rintro(⟨h1,h2⟩|⟨rfl,rfl⟩)
 {
 have:j≠i:=fun e=>hu.1 (e▸h1);rw[aE this];exact⟨.inl h1,h2⟩}
 · rw[bC];exact⟨.inr rfl,rfl⟩}
 {
 rintro⟨h1,h2⟩;by_cases e:j=i
 · rw[e,bC]at h2;exact .inr ⟨h2.symm,e⟩
 · rw[aE e]at h2;exact .inl ⟨h1.resolve_right e,h2⟩}}}}
theorem aMF{w:World}{pt:Nat}{M:Md}{l:List Nat}(id:Nat)(hid:id<18446744073709551616)(h:gL w pt M l):
    Calls Tryz.prog 155 #[ptr pt,.int .u64 id] w fun e w' =>e=.returned (.int .i64 (M.del id).err)/\gL w' pt (M.del id).M l/\Next l l w w' :=by
 have h0:=h;obtain⟨T,hT,hA,hok,hiff⟩:=h;cases hf:M.find id with
 | none=>{
 have hno:∀i,T.used i->T.ids i≠id:=fun i hu e=>Md.find_none.1 hf i ((hiff id i).2 ⟨hu,e⟩);have e:M.del id=⟨5,M⟩:=by simp only[Md.del,hf]
 rw[e];refine(sI hid hT hno).mono ?_;rintro e w' ⟨rfl,hB⟩;exact⟨rfl,h0.below hB,Next.of_below hB⟩}
 | some i=>{
 have hm:=(hiff id i).1 (Md.find_mem hf);have e:M.del id=⟨0,M.rem id i⟩:=by simp only[Md.del,hf]
 rw[e];refine(aFK hid hT hm.1 hm.2).mono ?_;rintro e w' ⟨rfl,hT', hF⟩;refine⟨rfl,⟨T.del i,hT', ?_,Md.ok_rem hok (Md.find_mem hf),fun id' j=>?_⟩,hF,fun _ h=>.inl h⟩
 · rw[Md.ar_rem,<-hA];rfl
 {
 have hu2:(T.del i).used j↔(T.used j/\j≠i):=isUsed_put hm.1 j;simp only[Md.rem,qZ,bne_iff_ne,hiff];rw[hu2];simp only[Tb.del];constructor
 {
 rintro⟨⟨h1,h2⟩,h3⟩;have e:j≠i:=by rintro rfl;exact h3 (h2.symm.trans hm.2)
 rw[aE e];exact⟨⟨h1,e⟩,h2⟩}
 {
 rintro⟨⟨h1,h3⟩,h2⟩;rw[aE h3]at h2;refine⟨⟨h1,h2⟩,fun e=>?_⟩;have a1:=(hiff id j).2 ⟨h1,h2.trans e⟩;have a2:=Md.mem_find hok.ids a1;rw[hf]at a2;exact h3 (by simpa using a2.symm)}}}
theorem aDT{w:World}{pt:Nat}{M:Md}{l:List Nat}(id:Nat)(hid:id<18446744073709551616)(h:gL w pt M l):
    Calls Tryz.prog 133 #[ptr pt,.int .u64 id] w fun e w' =>e=.returned (.tuple #[.int .i64 ((M.find id).getD 0),.bool (M.find id).isSome])/\gL w' pt M l/\Below w.heap.size w w' :=by
 have h0:=h;obtain⟨T,hT,hA,hok,hiff⟩:=h;cases hf:M.find id with
 | none=>{
 have hno:∀i,T.used i->T.ids i≠id:=fun i hu e=>Md.find_none.1 hf i ((hiff id i).2 ⟨hu,e⟩);refine(wQ hid hT hno).mono ?_;rintro e w' ⟨rfl,hB⟩;exact⟨rfl,h0.below hB,hB⟩}
 | some i=>{
 have hm:=(hiff id i).1 (Md.find_mem hf);refine(uG hid hT hm.1 hm.2).mono ?_;rintro e w' ⟨rfl,hB⟩;exact⟨rfl,h0.below hB,hB⟩}
theorem aMG{w:World}{pt:Nat}{M:Md}{l:List Nat}(h:gL w pt M l):
    Calls Tryz.prog 97 #[ptr pt] w fun e w' =>e=.returned (.int .i64 M.L.length)/\w=w' :=by
 obtain⟨T,hT,hA,hok,hiff⟩:=h;refine(aFH hT).mono ?_;rintro e w' ⟨rfl,rfl⟩;refine⟨aDM ?_,rfl⟩;have:=hok.cnt;rw[hA];simp only[Md.ar,Ar.used];omega
def fF(A:Ar)(i:Nat):List Nat:=(List.range i).filter fun k=> !A.free.contains k
def kP(A:Ar):List Nat:=fF A A.begun
def fM(l:List Nat):List Value:=l.map fun(x:Nat)=>.int .i64 x
theorem rN{A:Ar}{i:Nat}(h:i∉A.free):fF A (i+1)=fF A i++[i]:=by
 simp[fF,List.range_succ,List.filter_append,h]
theorem sJ{A:Ar}{i:Nat}(h:i∈A.free):fF A (i+1)=fF A i:=by
 simp[fF,List.range_succ,List.filter_append,h]
theorem aBV(A:Ar)(i:Nat):(fF A i).length<=i:=zG (List.length_filter_le _ _) (by simp)
theorem vE{A:Ar}(h:A.ok):(kP A).length=A.used:=by
 unfold kP fF Ar.used;have h1:((List.range A.begun).filter fun k=> !A.free.contains k).length+((List.range A.begun).filter fun k=>A.free.contains k).length=A.begun:=by {
 rw[<-List.countP_eq_length_filter,<-List.countP_eq_length_filter];have:=List.length_eq_countP_add_countP (fun k=>A.free.contains k) (l:=List.range A.begun);simp only[List.length_range]at this;have e:(List.range A.begun).countP (fun k=> !A.free.contains k)=(List.range A.begun).countP (fun a=>decide (¬A.free.contains a=true)):=by apply List.countP_congr;intro x _;simp
 omega};have h2:((List.range A.begun).filter fun k=>A.free.contains k).length=A.free.length:=by {
 apply List.Perm.length_eq;rw[List.perm_ext_iff_of_nodup (List.filter_sublist.nodup List.nodup_range) h.nd];intro k;simp only[qZ,List.mem_range,List.contains_iff_mem];exact⟨fun h=>h.2,fun hk=>⟨h.lt k hk,hk⟩⟩};omega
theorem pF{A:Ar}{k:Nat}:k∈kP A↔A.isUsed k:=by
 simp[kP,fF,Ar.isUsed]
theorem pU(A:Ar):(kP A).Nodup:=List.filter_sublist.nodup List.nodup_range
def stI(A:Ar)(k:Nat):Int:=if k∈A.free then 2 else 1
theorem yR{w:World}{pa:Nat}{A:Ar}{l:List Nat}(h:aU w pa A l){k:Nat}(hk:k<A.begun):
    Calls Tryz.prog 145 #[ptr pa,.int .i64 k] w fun e w' =>e=.returned (.int .i64 (stI A k))/\w=w' :=by
 obtain⟨v,bs,st,af,h1,h2,h3,rfl,hnd,hl,hok,hst,hch⟩:=h;have hs:=hok.hs;have hb:=hok.hb;obtain⟨g,cap,b,tm,rfl,hbk,hg1,hg2,hbp,c1,c2,c3,c4,hfz⟩:=aU.slot h2 h3 hnd hl (show k/64<bs.length by omega);have e:st k=stI A k:=by {
 unfold stI;by_cases hf:k∈A.free
 · rw[qD hf,hst.1 k hk hf]
 · rw[qC hf,hst.2 k hk hf]};rw[<-e];exact mT pa g bs.length cap b k A.begun (st k) w (h1.cell 1) (by omega) (by omega) (h1.cell 3) hk c1 c2
theorem aFN(c:Nat)(w:World)(hn:c<=1048576):(Instr.makeSlice 158 (.int .i64 0) (.int .i64 c)).run Tryz.prog w=.ok (.slice (some ⟨w.heap.size,0,none⟩) 0 c) (w.alloc (.cells (cC c (eF (fun _=>0))).toArray 3)):=by
 obtain⟨i0,hi,hz0,hz1,hz2⟩:=info_parts Tryz.info3;have h:=run_make (P:=Tryz.prog) w 158 3 i0 (.int .i64 0) Tryz.underlying158 hi hz0 .i64 .i64 0 c (by omega) (by omega) (by rw[hz2];omega) (by omega);rw[hz1]at h;simp only[zC,Nat.mul_one]at h;rw[vD]at h;exact h
theorem aFO{w:World}{e:TypeId}{cs:List Value}(c:Nat)(hc:cs.length=c)(hm:c<=1048576):(w.alloc (.cells cs.toArray e)).ownsRow 0 e 1 (.slice (some ⟨w.heap.size,0,none⟩) 0 c) 0 []:=
  ⟨rfl,.inr ⟨w.heap.size,c,cs.toArray,rfl,qR _,World.alloc_heap_new w _,qR _,by unfold maxLen;omega,by simp[hc],by simp⟩⟩
theorem aU.fr{w w' :World}{pa:Nat}{A:Ar}{l S:List Nat}(h:aU w pa A l)(hf:Fr S w w')(hd:∀b∈l,b∉S):aU w' pa A l:=
  h.same fun b hb=>hf.keep b (h.lt b hb) (hd b hb)
theorem aBW{w:World}{pa:Nat}{A:Ar}{l:List Nat}(h:aU w pa A l):
    Calls Tryz.prog 103 #[ptr pa] w fun e w' =>∃v,e=.returned v/\w'.ownsRow 0 3 1 v (kP A).length (fM (kP A))/\(∀q,v.ownBlock=some q->w.heap.size<=q)/\Fr [] w w' :=by
 have hok:=h.ok;have hs:=hok.hs;have hb:=hok.hb;have hlt:=h.lt;have HA:=qA h;obtain⟨v0,bs,st,af,h1,_⟩:=h;have c0:=h1.cell 0;have c3:=h1.cell 3;have c4:=h1.cell 4;simp only[zI,zJ]at c0 c3 c4;have hpa:=h1.lt;have husd:A.used<=65536:=by unfold Ar.used;omega
 have hmk:=aFN A.used w (by omega);have hown0:=aFO (w:=w) (e:=3) (cs:=cC A.used (eF fun _=>0)) A.used (cT _ _) (by omega);have HO0:=qA hown0;clear hown0 h1;have HLt:=qA hlt;clear hlt;have d3:(w.alloc (.cells (cC A.used (eF fun _=>0)).toArray 3)).cell? ⟨pa,3,none⟩=some (.int .i64 A.begun):=((Fr.refl [] w).alloc _).cell c3 (by simp);have HF0:Hid (Fr [] w (w.alloc (.cells (cC A.used (eF fun _=>0)).toArray 3))):=qA ((Fr.refl [] w).alloc _);go_enter Tryz.func103,Tryz.ntmps103
 go_wp2_with (go_at_call 144;refine(cD pa _ c0).mono ?_;rintro e w' ⟨rfl,rfl⟩)
 generalize w.alloc (.cells (cC A.used (eF fun _=>0)).toArray 3)=w1 at *;clear c0 c3 c4 hmk d3;go_loopw [3,17] (fun v si wr=>∃i:Nat,i<=A.begun/\si=.int .i64 i/\Hid (Fr [] w wr)/\wr.ownsRow 0 3 1 v (fF A i).length (fM (fF A i))/\Hid (∀q,v.ownBlock=some q->w.heap.size<=q)) (fun _ si _=>A.begun-(intOf si).toNat)
 case atStart=>exact⟨0,qR _,rfl,HF0,by simpa[fF,fM] using HO0.out,qA (fun q e=>by simp[Value.ownBlock]at e;omega)⟩
 case round=>
  clear HO0 HF0;obtain⟨i,hi,rfl,HF,hown,HQ⟩:=hrel;obtain⟨a8,c8,rfl⟩:=aT hown;by_cases hlt:i<A.begun
  {
  have hil:(i:Int)<A.begun:=by omega
  have HSt:=qA (yR (HA.out.fr HF.out (by simp)) hlt);have hul:=aBV A i;by_cases hf:i∈A.free
  {
  have e1:stI A i=2:=by unfold stI;rw[qD hf]
  rw[e1]at HSt;have Hu:=qA (sJ hf);clear e1 hf;go_wp2_with (go_at_call 145;refine HSt.out.mono ?_;rintro e w' ⟨rfl,rfl⟩)
  go_roundw
  case rel=>exact⟨i+1,by omega,by go_num,HF,by rw[Hu.out];exact hown,HQ⟩
  case measure=>simp[intOf];omega}
  {
  have e1:stI A i=1:=by unfold stI;rw[qC hf]
  rw[e1]at HSt;have Hu:=qA (rN hf);clear e1 hf;generalize fF A i=us at *;go_wp2_with (first|(go_at_call 145;refine HSt.out.mono ?_;rintro e w' ⟨rfl,rfl⟩)|(at_builtin;refine aB rfl _ _ 158 rfl 3 (.int .i64 0) 8 Tryz.underlying158 Tryz.info3 rfl (.slice a8 us.length c8) us.length _ rfl (hown.alloc _) wr.heap.size (.int .i64 i) rfl (aC _ _ _ _ rfl) rfl (by omega) (by decide) ?_;intro g' cap' w4 hown4 hgrow4 hg4;have hF4:Fr (Value.slice a8 us.length c8).ownBlock.toList wr w4:=((Fr.refl _ _).alloc _).grown hgrow4 (fun q e=>.inl (by simp[e]))))
  go_roundw
  case rel=>
   have hs4:=HF.out.size;simp only[World.size_alloc]at hg4;refine⟨i+1,by omega,by go_num,qA (HF.out.trans hF4 (fun q hq=>.inr (HQ.out q (by simpa using hq)))),?_,qA (fun q e=>?_)⟩
   {
   rw[Hu.out,zE];have:fM (us++[i])=fM us++[.int .i64 i]:=by simp[fM]
   rw[this];exact hown4}
   {
   simp only[Value.ownBlock,qI]at e;subst e;rcases hg4 with e|e
   · exact HQ.out _ e
   · omega}
  case measure=>simp[intOf];omega}}
  {
  obtain rfl:i=A.begun:=by omega
  have Hown:=qA hown;clear hown;go_wp2
  go_ret;exact⟨_,rfl,Hown.out,HQ.out,HF.out⟩}
end Go.Proofs.YtjdgpcjbgjnahaaGreatDoor
namespace Go.Proofs.YtjdgpcjbgjnahaaGreatDoor
structure Lv where
  slot:Nat
  seq:Nat
  u:Nat
  v:Nat
  wt:Int
  t:Int
  x:Int
deriving DecidableEq
def Lv.z:Lv:=⟨0,0,0,0,0,0,0⟩
def Lv.at(e:Lv)(id:Nat):Bool:=e.u == id||e.v == id
def bU(L:List Lv)(id:Nat):List Nat:=(L.filter fun e=>e.at id).map (·.slot)
def aG(L:List Lv)(i:Nat):Lv:=(L.find? fun e=>e.slot == i).getD Lv.z
structure Sm where
  V:Nat
  E:Nat
  last:Nat
  A:Ar
  M:Md
  L:List Lv
namespace Sm
structure Ok (s:Sm):Prop where
  ar:s.A.ok
  sl:s.A.slots=s.E
  md:s.M.Ok
  ms:s.M.slots=s.V
  used:∀i,s.A.isUsed i↔∃e∈s.L,e.slot=i
  one:(s.L.map (·.slot)).Nodup
  seq:s.L.Pairwise fun a b=>a.seq<b.seq
  last:∀e∈s.L,e.seq<=s.last
  vert:∀id,(s.M.find id).isSome=true↔bU s.L id≠[]
  ne:∀e∈s.L,e.u≠e.v
  u64:∀e∈s.L,e.u<18446744073709551616/\e.v<18446744073709551616
  leV:s.V<=4096
  leE:s.E<=16384
  lt:s.last<18446744073709551616
def new(V E last:Nat):Sm:={ V:=V,E:=E,last:=last,A:=Ar.new E,M:=Md.new V,L:=[] }
def more(s:Sm)(u v:Nat):Nat:=(if (s.M.find u).isSome=true then 0 else 1)+if (s.M.find v).isSome=true then 0 else 1
def chk(s:Sm)(u v:Nat):Nat:=if u=v then 9 else if s.E<=s.A.used then 12 else if s.V<s.M.L.length+s.more u v then 11 else 0
def slot(s:Sm):Nat:=s.A.next.getD 0
def edge(s:Sm)(u v:Nat)(wt t x:Int):Lv:=⟨s.slot,s.last+1,u,v,wt,t,x⟩
def ins(s:Sm)(u v:Nat)(wt t x:Int):Sm:={ s with last:=s.last+1,A:=s.A.alloc,M:=((s.M.put u).M.put v).M,L:=s.L++[s.edge u v wt t x] }
def delIf(M:Md)(L:List Lv)(id:Nat):Md:=if bU L id=[] then(M.del id).M else M
def rem(s:Sm)(i:Nat):Sm:=
  { s with A:=s.A.put i,L:=s.L.filter (fun e=>e.slot != i),M:=delIf (delIf s.M (s.L.filter fun e=>e.slot != i) (aG s.L i).u) (s.L.filter fun e=>e.slot != i) (aG s.L i).v }
end Sm
theorem vF(L:List Lv)(e:Lv)(id:Nat):bU (L++[e]) id=bU L id++if e.at id then [e.slot] else []:=by
 unfold bU;rw[List.filter_append,List.map_append];congr 1
 by_cases h:e.at id=true<;>simp[h]
theorem eM{L:List Lv}{id i:Nat}:i∈bU L id↔∃e∈L,e.at id=true/\e.slot=i:=by
 unfold bU;simp[qV,qZ,and_assoc]
theorem sK{L:List Lv}(h:(L.map (·.slot)).Nodup)(id:Nat):(bU L id).Nodup:=(List.Sublist.map _ List.filter_sublist).nodup h
theorem iH(L:List Lv)(id i:Nat):bU (L.filter fun e=>e.slot != i) id=(bU L id).filter (· != i):=by
 unfold bU;rw[List.filter_map,List.filter_filter,List.filter_filter];congr 1
 exact List.filter_congr fun e _=>by simp[Bool.and_comm]
theorem kQ(L:List Lv)(id:Nat):(bU L id).length<=L.length:=by
 unfold bU;rw[List.length_map];exact List.length_filter_le _ _
theorem fN{L:List Lv}(h:(L.map (·.slot)).Nodup){e:Lv}(he:e∈L):aG L e.slot=e:=by
 unfold aG;induction L with
 | nil=>cases he
 | cons a r ih=>{
 simp only[List.map_cons,qN]at h;by_cases e0:a.slot=e.slot
 {
 rcases qB.1 he with rfl|he
 · simp
 · exact absurd (qV.2 ⟨_,he,e0.symm⟩) h.1}
 {
 rcases qB.1 he with rfl|he
 · exact absurd rfl e0
 · rw[List.find?_cons_of_neg (by simpa using e0)];exact ih h.2 he}}
theorem pV{L:List Lv}{i:Nat}(h:∀e∈L,e.slot≠i):aG L i=Lv.z:=by
 unfold aG;rw[List.find?_eq_none.2 (fun e he=>by simpa using h e he)];rfl
theorem yS{L:List Lv}{e:Lv}(h:∀x∈L,x.slot≠e.slot)(i:Nat):aG (L++[e]) i=if i=e.slot then e else aG L i:=by
 unfold aG;by_cases hi:i=e.slot
 {
 subst hi;rw[qD rfl,List.find?_append,List.find?_eq_none.2 (fun x hx=>by simpa using h x hx)];simp}
 {
 rw[qC hi,List.find?_append];have hn:(e.slot == i)=false:=by simp;omega
 simp[hn]}
theorem uJ{L:List Lv}(i j:Nat):aG (L.filter fun e=>e.slot != i) j=if j=i then Lv.z else aG L j:=by
 by_cases hj:j=i
 {
 subst hj;rw[qD rfl];exact pV fun e he=>by simpa using (qZ.1 he).2}
 {
 rw[qC hj];unfold aG;rw[List.find?_filter];congr 1
 congr 1
 funext e
 by_cases he:e.slot=j
 · subst he;simp[hj]
 · simp[he]}
theorem wR{A:Ar}(h:A.used<A.slots):∃i,A.next=some i:=by
 obtain⟨s,b,f⟩:=A;cases f with
 | nil=>{
 have hb:b<s:=by simpa[Ar.used] using h
 exact⟨b,qD hb⟩}
 | cons k r=>exact⟨k,rfl⟩
theorem sL{A:Ar}(hok:A.ok){i:Nat}(h:A.next=some i):i<A.slots:=by
 obtain⟨s,b,f⟩:=A;cases f with
 | nil=>{
 simp only[Ar.next]at h;split at h
 · cases h;assumption
 · cases h}
 | cons k r=>{
 cases h;exact Nat.lt_of_lt_of_le (hok.lt _ (List.mem_cons_self ..)) hok.hb}
theorem aFP{A:Ar}(h:A.ok){k:Nat}(hu:A.isUsed k):(A.put k).ok:=by
 refine⟨h.hs,h.hb,?_,?_⟩
 · simp only[Ar.put,qN];exact⟨hu.2,h.nd⟩
 {
 intro x hx;simp only[Ar.put,qB]at hx;rcases hx with rfl|hx
 · exact hu.1
 · exact h.lt x hx}
theorem sM(A:Ar):A.alloc.slots=A.slots:=by
 obtain⟨s,b,f⟩:=A;cases f<;>rfl
theorem jQ(M:Md)(id:Nat):(M.put id).M.slots=M.slots:=by
 unfold Md.put;cases M.find id with
 | some i=>rfl
 | none=>cases M.next<;>rfl
theorem wS(M:Md)(id:Nat):(M.del id).M.slots=M.slots:=by
 unfold Md.del;cases M.find id<;>rfl
theorem aMH{M:Md}(h:M.Ok)(hl:M.L.length<M.slots):∃i,M.next=some i:=by
 have hc:=h.cnt;obtain⟨s,L,f,g⟩:=M;cases f with
 | nil=>{
 have hb:g<s:=by simp at hc hl;omega
 exact⟨g,qD hb⟩}
 | cons k r=>exact⟨k,rfl⟩
def aBX(M:Md)(id:Nat):Prop:=(M.find id).isSome=true∨M.L.length<M.slots
theorem sN{M:Md}(h:M.Ok){id i:Nat}(hid:id<18446744073709551616)(hf:M.find id=none)(hn:M.next=some i)(x:Nat):(M.add id i).find x=if x=id then some i else M.find x:=by
 have hok:=Md.ok_add h hid hf hn;by_cases hx:x=id
 {
 subst hx;rw[qD rfl];exact(Md.find_iff hok).2 (by simp[Md.add])}
 {
 rw[qC hx];cases hy:M.find x with
 | some j=>exact(Md.find_iff hok).2 (by have:=Md.find_mem hy;simp[Md.add,this])
 | none=>{
 refine Md.find_none.2 fun j hm=>?_;simp only[Md.add,qE,qH,zD]at hm;rcases hm with hm|⟨e,_⟩
 · exact Md.find_none.1 hy j hm
 · exact hx e}}
theorem kR{M:Md}(h:M.Ok){id:Nat}(hid:id<18446744073709551616)(hf:aBX M id):
    (M.put id).err=0/\(∀x,((M.put id).M.find x).isSome=true↔((M.find x).isSome=true∨x=id))/\(M.put id).M.L.length=M.L.length+(if (M.find id).isSome=true then 0 else 1)/\(M.put id).M.find id=some (M.put id).idx:=by
 unfold Md.put;cases hi:M.find id with
 | some i=>{
 refine⟨rfl,fun x=>⟨.inl,fun hx=>hx.elim (fun h=>h) fun e=>?_⟩,by simp,hi⟩;subst e;rw[hi];rfl}
 | none=>{
 have hl:M.L.length<M.slots:=hf.resolve_left (by rw[hi];simp);obtain⟨i,hn⟩:=aMH h hl;simp only[hn];refine⟨trivial,fun x=>?_,by simp[Md.add],by rw[sN h hid hi hn,qD rfl]⟩;rw[sN h hid hi hn];by_cases hx:x=id
 · simp[hx]
 · simp[hx]}
theorem aHS{M:Md}(h:M.Ok)(id x:Nat):((M.del id).M.find x).isSome=true↔((M.find x).isSome=true/\x≠id):=by
 unfold Md.del;cases hi:M.find id with
 | none=>{
 refine⟨fun hx=>⟨hx,fun e=>?_⟩,fun hx=>hx.1⟩;subst e;rw[hi]at hx;cases hx}
 | some i=>{
 have hok:=Md.ok_rem h (Md.find_mem hi);simp only[qU];constructor
 {
 rintro⟨j,hj⟩;have hm:=Md.find_mem hj;simp only[Md.rem,qZ,bne_iff_ne]at hm;exact⟨⟨j,(Md.find_iff h).2 hm.1⟩,hm.2⟩}
 {
 rintro⟨⟨j,hj⟩,hne⟩;refine⟨j,(Md.find_iff hok).2 ?_⟩;simp only[Md.rem,qZ,bne_iff_ne];exact⟨Md.find_mem hj,hne⟩}}
namespace Sm
section
variable {s:Sm}
theorem ok_new{V E last:Nat}(hV:V<=4096)(hE:E<=16384)(hl:last<18446744073709551616):(new V E last).Ok:=by
 refine⟨⟨by simp[new,Ar.new];omega,by simp[new,Ar.new],by simp[new,Ar.new],by simp[new,Ar.new]⟩,rfl,Md.ok_new (by omega),rfl,fun i=>?_,by simp[new],by simp[new],by simp[new],fun id=>?_,by simp[new],by simp[new],hV,hE,hl⟩
 · simp[new,Ar.new,Ar.isUsed]
 · simp[new,Md.new,Md.find,bU]
theorem len_used(h:s.Ok):s.A.used=s.L.length:=by
 rw[<-vE h.ar];have:=((List.perm_ext_iff_of_nodup (pU s.A) h.one).2 fun i=>by rw[pF,h.used];simp).length_eq;rw[List.length_map]at this;exact this
theorem chk_ok(_h:s.Ok){u v:Nat}(hc:s.chk u v=0):u≠v/\s.A.used<s.E/\s.M.L.length+s.more u v<=s.V:=by
 unfold chk at hc;split at hc
 · cases hc
 {
 split at hc
 · cases hc
 {
 split at hc
 · cases hc
 · exact⟨by assumption,by omega,by omega⟩}}
theorem slot_next(h:s.Ok){u v:Nat}(hc:s.chk u v=0):s.A.next=some s.slot:=by
 obtain⟨i,hi⟩:=wR (A:=s.A) (by rw[h.sl];exact(chk_ok h hc).2.1);unfold slot;rw[hi];rfl
theorem fits_uv(h:s.Ok){u v:Nat}(hu:u<18446744073709551616)(hc:s.chk u v=0):aBX s.M u/\aBX (s.M.put u).M v:=by
 obtain⟨hne,_,hle⟩:=chk_ok h hc;unfold more at hle;have hs:=h.ms;have h1:aBX s.M u:=by {
 unfold aBX;by_cases hf:(s.M.find u).isSome=true
 · exact .inl hf
 · rw[qC hf]at hle;exact .inr (by omega)};obtain⟨_,p2,p3,_⟩:=kR h.md hu h1;refine⟨h1,?_⟩;unfold aBX;rw[p2,p3,jQ];by_cases hf:(s.M.find v).isSome=true
 · exact .inl (.inl hf)
 {
 rw[qC hf]at hle;refine .inr ?_;omega}
theorem ok_ins(h:s.Ok){u v:Nat}(hu:u<18446744073709551616)(hv:v<18446744073709551616)(hc:s.chk u v=0)(hl:s.last+1<18446744073709551616)(wt t x:Int):(s.ins u v wt t x).Ok:=by
 obtain⟨hne,hlt,_⟩:=chk_ok h hc;have hn:=slot_next h hc;obtain⟨f1,f2⟩:=fits_uv h hu hc;obtain⟨hnu,hiff⟩:=Md.isUsed_alloc' h.ar hn;have hnew:∀e∈s.L,e.slot≠s.slot:=fun e he ee=>hnu ((h.used _).2 ⟨e,he,ee⟩);obtain⟨_,p2,_,_⟩:=kR h.md hu f1;have hok1:=Md.ok_put h.md hu;obtain⟨_,q2,_,_⟩:=kR hok1 hv f2;refine⟨Md.alloc_ok h.ar hn,(sM _).trans h.sl,Md.ok_put hok1 hv,(jQ _ _).trans ((jQ _ _).trans h.ms),fun i=>?_,?_,?_,?_,fun id=>?_,?_,?_,h.leV,h.leE,hl⟩
 {
 simp only[ins];rw[hiff,h.used];simp only[qE,qH];constructor
 {
 rintro(⟨e,he,rfl⟩|rfl)
 · exact⟨e,.inl he,rfl⟩
 · exact⟨_,.inr rfl,rfl⟩}
 {
 rintro⟨e,he|rfl,rfl⟩
 · exact .inl ⟨e,he,rfl⟩
 · exact .inr rfl}}
 {
 simp only[ins,List.map_append,List.map_cons,List.map_nil,qM];refine⟨h.one,by simp,fun a ha b hb e=>?_⟩;simp only[qH]at hb;obtain⟨x,hx,rfl⟩:=qV.1 ha;exact hnew x hx (e.trans hb)}
 {
 simp only[ins];rw[List.pairwise_append];refine⟨h.seq,by simp,fun a ha b hb=>?_⟩;obtain rfl:=qH.1 hb;exact Nat.lt_succ_of_le (h.last a ha)}
 {
 intro e he;simp only[ins,qE,qH]at he;rcases he with he|rfl
 · exact Nat.le_succ_of_le (h.last e he)
 · exact qJ _}
 {
 simp only[ins];rw[q2,p2,h.vert,vF];have hat:(s.edge u v wt t x).at id=true↔u=id∨v=id:=by simp[Lv.at,edge]
 by_cases h1:(s.edge u v wt t x).at id=true
 {
 rw[qD h1];refine⟨fun _=>by simp,fun _=>?_⟩;rcases hat.1 h1 with e|e
 · exact .inl (.inr e.symm)
 · exact .inr e.symm}
 {
 rw[qC h1,List.append_nil];refine⟨fun h2=>?_,fun h2=>.inl (.inl h2)⟩;rcases h2 with(h2|h2)|h2
 · exact h2
 · exact absurd (hat.2 (.inl h2.symm)) h1
 · exact absurd (hat.2 (.inr h2.symm)) h1}}
 {
 intro e he;simp only[ins,qE,qH]at he;rcases he with he|rfl
 · exact h.ne e he
 · exact hne}
 {
 intro e he;simp only[ins,qE,qH]at he;rcases he with he|rfl
 · exact h.u64 e he
 · exact⟨hu,hv⟩}
theorem live_used(h:s.Ok){i:Nat}(hu:s.A.isUsed i):aG s.L i∈s.L/\(aG s.L i).slot=i:=by
 obtain⟨e,he,rfl⟩:=(h.used i).1 hu;rw[fN h.one he];exact⟨he,rfl⟩
theorem delIf_ok{M:Md}(h:M.Ok)(L:List Lv)(id:Nat):(delIf M L id).Ok:=by
 unfold delIf;split
 · exact Md.ok_del h id
 · exact h
theorem delIf_slots(M:Md)(L:List Lv)(id:Nat):(delIf M L id).slots=M.slots:=by
 unfold delIf;split
 · exact wS M id
 · rfl
theorem delIf_find{M:Md}(h:M.Ok)(L:List Lv)(id x:Nat):((delIf M L id).find x).isSome=true↔((M.find x).isSome=true/\(x=id->bU L id≠[])):=by
 unfold delIf;split
 {
 rename_i hn;rw[aHS h];refine and_congr_right fun _=>⟨fun h1 h2=>absurd h2 h1,fun h1 h2=>h1 h2 hn⟩}
 {
 rename_i hn;exact⟨fun h1=>⟨h1,fun _=>hn⟩,fun h1=>h1.1⟩}
theorem ok_rem(h:s.Ok){i:Nat}(hu:s.A.isUsed i):(s.rem i).Ok:=by
 obtain⟨hm,hs⟩:=live_used h hu;have hiff:=Md.isUsed_put' hu;have ho1:=delIf_ok h.md (s.L.filter fun e=>e.slot != i) (aG s.L i).u;refine⟨aFP h.ar hu,h.sl,delIf_ok ho1 _ _,?_,fun j=>?_,(List.Sublist.map _ List.filter_sublist).nodup h.one,h.seq.sublist List.filter_sublist,fun e he=>h.last e (qZ.1 he).1,fun id=>?_,fun e he=>h.ne e (qZ.1 he).1,fun e he=>h.u64 e (qZ.1 he).1,h.leV,h.leE,h.lt⟩
 · simp only[rem,delIf_slots];exact h.ms
 {
 simp only[rem];rw[hiff,h.used];simp only[qZ,bne_iff_ne];constructor
 · rintro⟨⟨e,he,rfl⟩,hj⟩;exact⟨e,⟨he,hj⟩,rfl⟩
 · rintro⟨e,⟨he,hj⟩,rfl⟩;exact⟨⟨e,he,rfl⟩,hj⟩}
 {
 simp only[rem];rw[delIf_find ho1,delIf_find h.md,h.vert];constructor
 {
 rintro⟨⟨h1,h2⟩,h3⟩;by_cases e1:id=(aG s.L i).u
 · rw[e1];exact h2 e1
 {
 by_cases e2:id=(aG s.L i).v
 · rw[e2];exact h3 e2
 {
 intro e3;apply h1;refine List.eq_nil_iff_forall_not_mem.2 fun k hk=>?_;rw[iH]at e3;have hki:k=i:=by {
 apply qP;intro hne;have:k∈(bU s.L id).filter (· != i):=qZ.2 ⟨hk,by simpa using hne⟩;rw[e3]at this;cases this};subst hki;obtain⟨e,he,hat,hes⟩:=eM.1 hk;have:e=aG s.L k:=by rw[<-hes,fN h.one he]
 subst this;unfold Lv.at at hat;simp only[Bool.or_eq_true,beq_iff_eq]at hat;rcases hat with hat|hat
 · exact e1 hat.symm
 · exact e2 hat.symm}}}
 {
 intro h1;refine⟨⟨fun e=>h1 ?_,fun e=>e▸h1⟩,fun e=>e▸h1⟩;rw[iH,e];rfl}}
end
end Sm
end Go.Proofs.YtjdgpcjbgjnahaaGreatDoor
namespace Go.Proofs.YtjdgpcjbgjnahaaGreatDoor
open Go.RowKit Go.Maps
def sO(ok:Value->Bool)(v:Value):Option (DataW Value×List MemPlace):=if ok v then some (.held v,[]) else none
theorem wT{ok:Value->Bool}{v:Value}(h:ok v=true):sO ok v=some (.held v,[]):=by simp[sO,h]
theorem nX{ok:Value->Bool}{v u:Value}{ps:List MemPlace}(h:sO ok v=some (.held u,ps)):v=u:=by
 unfold sO at h;split at h
 · simp only[qI,zD,DataW.held.injEq]at h;exact h.1
 · cases h
theorem mU{H:Type}{w:World}{P:Program}{k:TypeId}{R:Value->Option (DataW H×List MemPlace)}{b n:Nat}{D:DataW H}(h:w.ownsMap P k R b n D):w.ownsMap P k R b (Maps.size D) D:=by
 obtain⟨es,clock,hb,F,_,rfl⟩:=h;exact⟨es,clock,hb,F,by simp[Maps.size,length_sorted],rfl⟩
theorem wU{H:Type}{w w' :World}{P:Program}{k:TypeId}{R:Value->Option (DataW H×List MemPlace)}{b n:Nat}{D:DataW H}(h:w.ownsMap P k R b n D)(e:w'.heap[b]? =w.heap[b]?):w'.ownsMap P k R b n D:=by
 obtain⟨es,clock,hb,r⟩:=h;exact⟨es,clock,e.trans hb,r⟩
def jR(m:Int->Option Value)(a:Int)(v:Option Value):Int->Option Value:=fun x=>if x=a then v else m x
theorem cG(m:Int->Option Value)(a:Int)(v:Option Value):jR m a v a=v:=by simp[jR]
theorem bM{m:Int->Option Value}{a x:Int}{v:Option Value}(h:x≠a):jR m a v x=m x:=by simp[jR,h]
def cV(P:Program)(k:TypeId)(q:IntKind)(ok:Value->Bool)(w:World)(b:Nat)(m:Int->Option Value)(n:Nat):Prop:=
  ∃D:DataW Value,w.ownsMap P k (sO ok) b n D/\Tidy D/\Maps.size D=n /\
    ∀a:Int,(Lit.int q a).wf=true->(Maps.has D (.int q a)=(m a).isSome/\∀v,m a=some v->ok v=true/\∀z,D.atKey (.int q a) z=.held v)
section
variable {P:Program} {k t e:TypeId} {q:IntKind} {ok:Value->Bool} {w w' :World} {b n:Nat} {m:Int->Option Value}
theorem cV.same(h:cV P k q ok w b m n)(he:w'.heap[b]? =w.heap[b]?):cV P k q ok w' b m n:=by
 obtain⟨D,h1,h2⟩:=h;exact⟨D,wU h1 he,h2⟩
theorem cV.lt(h:cV P k q ok w b m n):b<w.heap.size:=by obtain⟨D,h1,_⟩:=h;exact h1.lt
theorem cV.made(w:World)(P:Program)(k:TypeId)(q:IntKind)(ok:Value->Bool):cV P k q ok (w.alloc (.map #[] 0)) w.heap.size (fun _=>none) 0:=
  ⟨_,World.ownsMap_made w P k (sO ok),tidy_empty,rfl,fun _ _=>⟨rfl,fun _ h=>by cases h⟩⟩
theorem cV.run_get(h:cV P k q ok w b m n)(hk:P.underlying k=some (.int q))(ht:P.underlying t=some (.map k e)){z:Value}(hz:(zeroValue e).run P w=.ok z w)(hzo:ok z=true){a:Int}(ha:(Lit.int q a).wf=true):
    (Instr.lookup t (.map (some b)) (.int q a) false).run P w=.ok ((m a).getD z) w:=by
 obtain⟨D,h1,h2,_,h3⟩:=h;obtain⟨v,ps,hr,hv⟩:=h1.lookup (int_keyed hk) ht hz (wT hzo) (keyOf_int_mk hk ha);rw[hr];cases hm:m a with
 | some u=>{
 rw[((h3 a ha).2 u hm).2]at hv;rw[nX hv];rfl}
 | none=>{
 have hn:=(h3 a ha).1;rw[hm]at hn;rw[atKey_of_not_has hn]at hv;rw[nX hv];rfl}
theorem cV.run_ok(h:cV P k q ok w b m n)(hk:P.underlying k=some (.int q))(ht:P.underlying t=some (.map k e)){z:Value}(hz:(zeroValue e).run P w=.ok z w)(hzo:ok z=true){a:Int}(ha:(Lit.int q a).wf=true):
    (Instr.lookup t (.map (some b)) (.int q a) true).run P w=.ok (.tuple #[(m a).getD z,.bool (m a).isSome]) w:=by
 obtain⟨D,h1,h2,_,h3⟩:=h;obtain⟨v,ps,hr,hv⟩:=h1.look_ok (int_keyed hk) ht hz (wT hzo) (keyOf_int_mk hk ha);rw[hr,(h3 a ha).1];cases hm:m a with
 | some u=>{
 rw[((h3 a ha).2 u hm).2]at hv;rw[nX hv];rfl}
 | none=>{
 have hn:=(h3 a ha).1;rw[hm]at hn;rw[atKey_of_not_has hn]at hv;rw[nX hv];rfl}
theorem Fr.of_turned(h:w.mapTurned w' b):Fr [b] w w' :=(Fr.refl [b] w).grown h.grown (fun k e=>.inl (by simp at e;simp[e]))
theorem nC(q:IntKind)(a:Int):WideAt.IsKeyLit (.int q a):=trivial
theorem cV.put(h:cV P k q ok w b m n)(hk:P.underlying k=some (.int q))(ht:P.underlying t=some (.map k e))(hn:n<maxLen){a:Int}(ha:(Lit.int q a).wf=true){v:Value}(hv:ok v=true):
    ∃w', (Instr.mapUpdate t (.map (some b)) (.int q a) v).run P w=.ok () w' /\ cV P k q ok w' b (jR m a (some v)) (if (m a).isSome then n else n+1)/\Fr [b] w w' :=by
 obtain⟨D,h1,h2,hs,h3⟩:=h;obtain⟨w', hr,h1', hT⟩:=h1.store (int_keyed hk) ht hn (keyOf_int_mk hk ha) (wT hv);refine⟨w', hr,⟨D.put (.int q a) (.held v),?_,h2.put (nC q a) _,?_,fun x hx=>?_⟩,Fr.of_turned hT⟩
 {
 have:=mU h1';rw[size_put h2,(h3 a ha).1,hs]at this;exact this}
 · rw[size_put h2,(h3 a ha).1,hs]
 {
 by_cases e:x=a
 {
 subst e;rw[cG];refine⟨has_put_same h2.isMap (nC q x) _,fun u hu=>?_⟩;cases hu;exact⟨hv,fun z=>atKey_put_same h2.isMap (nC q x) _ z⟩}
 {
 have hne:(Lit.int q x)≠.int q a:=fun h=>e (by injection h);rw[bM e,has_put_other hne];exact⟨(h3 x hx).1,fun u hu=>⟨((h3 x hx).2 u hu).1,fun z=>by rw[atKey_put_other hne];exact((h3 x hx).2 u hu).2 z⟩⟩}}
theorem cV.del(h:cV P k q ok w b m n)(hk:P.underlying k=some (.int q))(ht:P.underlying t=some (.map k e)){a:Int}(ha:(Lit.int q a).wf=true)(ty:TypeId):
    ∃w', (Builtin.delete_ #[t,k] ty #[.map (some b),.int q a]).run P w=.ok (.tuple #[]) w' /\ cV P k q ok w' b (jR m a none) (if (m a).isSome then n-1 else n)/\Fr [b] w w' :=by
 obtain⟨D,h1,h2,hs,h3⟩:=h;obtain⟨w', hr,h1', hT⟩:=h1.drop (int_keyed hk) ht (keyOf_int_mk hk ha) ty;have hsz:Maps.size (D.del (.int q a))=if (m a).isSome then n-1 else n:=by {
 have:=size_del (k:=.int q a) h2;rw[(h3 a ha).1,hs]at this;cases hm:(m a).isSome<;>rw[hm]at this<;>simp at this ⊢ <;> omega};refine⟨w', hr,⟨D.del (.int q a),?_,h2.del _,hsz,fun x hx=>?_⟩,Fr.of_turned hT⟩
 {
 have:=mU h1';rw[hsz]at this;exact this}
 {
 by_cases e:x=a
 {
 subst e;rw[cG];exact⟨has_del_same,fun u hu=>by cases hu⟩}
 {
 have hne:(Lit.int q x)≠.int q a:=fun h=>e (by injection h);rw[bM e,has_del_other hne];exact⟨(h3 x hx).1,fun u hu=>⟨((h3 x hx).2 u hu).1,fun z=>by rw[atKey_del_other hne];exact((h3 x hx).2 u hu).2 z⟩⟩}}
end
theorem rO{P:Program}{w:World}{ops:Array Oper}{rest:List Oper}{o:Oper}{act:Act}{Q:Exit->Act->World->Prop}(hg:o.guard=none)(mo x v:Operand)(t:TypeId)(hop:o.op=Op.mapUpdate t mo x v)
    {k e:TypeId} {q:IntKind} {ok:Value->Bool} {b n:Nat} {m:Int->Option Value} (h:cV P k q ok w b m n) (hk:P.underlying k=some (.int q)) (ht:P.underlying t=some (.map k e)) (hn:n<maxLen)
    (hm:act.eval mo=.map (some b)) (a:Int) (hx:act.eval x=.int q a) (ha:(Lit.int q a).wf=true) (u:Value) (hv:act.eval v=u) (hu:ok u=true)
    (hK:∀w', cV P k q ok w' b (jR m a (some u)) (if (m a).isSome then n else n+1)->Fr [b] w w' -> wpList P ops Q rest (act.put o.dst undef) w'):wpList P ops Q (o::rest) act w:=by
 refine wpList_plain hg fun K' hK' =>?_;obtain⟨w', hrun,r1,r2⟩:=h.put hk ht hn ha hu;unfold Oper.wp;simp[execOp,hop,hm,hx,hv,hrun,Result.andThen];exact hK' _ _ (hK w' r1 r2)
end Go.Proofs.YtjdgpcjbgjnahaaGreatDoor
namespace Go.Proofs.YtjdgpcjbgjnahaaGreatDoor
open Go.RowKit
theorem sP{w:World}{pa:Nat}{A:Ar}{l:List Nat}(h:aU w pa A l):
    Calls Tryz.prog 115 #[ptr pa] w fun e w' =>∃pa', e=.returned (ptr pa')/\∃l', aU w' pa' A l' /\ Fr [] w w' /\ ∀b∈l', w.heap.size<=b:=by
 have hok:=h.ok;have hs:=hok.hs;have hb:=hok.hb;have HA:=qA h;obtain⟨v0,bs,st,af,h1,h2,h3,rfl,hnd,hl,_,hst,hch⟩:=h;have c0:=h1.cell 0;have c1:=h1.cell 1;have c2:=h1.cell 2;have c3:=h1.cell 3;have c4:=h1.cell 4;have c5:=h1.cell 5;simp only[zI,zJ]at c0 c1 c2 c3 c4 c5;obtain⟨a2,cp2,rfl⟩:=aT h2;have hpa:=h1.lt;have H1:=qA (zH h1 (zH h2 h3));clear h1 h2 h3;have hbl:bs.length<=1024:=by omega
 go_enter Tryz.func115,Tryz.ntmps115
 go_wp2_with (go_at_call 144;refine(cD pa _ c0).mono ?_;rintro e w' ⟨rfl,rfl⟩)
 go_still_tail 16,(by kernel_rfl)
 change wpList _ _ _ _ _ w.drew;have hF0:Fr [] w (w.alloc (.cells #[.pointer (some ⟨w.heap.size,0,none⟩),.slice none 0 0,.int .i64 A.slots,.int .i64 A.begun,.int .i64 A.used,.int .i64 (eH A.free)] 214)).drew:=((Fr.refl [] w).alloc _).drew;have hb0:=(Blk.new w [ptr w.heap.size,.slice none 0 0,.int .i64 A.slots,.int .i64 A.begun,.int .i64 A.used,.int .i64 (eH A.free)] 214).drew;have d1:(w.alloc (.cells #[.pointer (some ⟨w.heap.size,0,none⟩),.slice none 0 0,.int .i64 A.slots,.int .i64 A.begun,.int .i64 A.used,.int .i64 (eH A.free)] 214)).cell? ⟨pa,1,none⟩=some (.slice a2 bs.length cp2):=((Fr.refl [] w).alloc _).cell c1 (by simp);go_wp2
 have hsz1:(w.alloc (.cells #[.pointer (some ⟨w.heap.size,0,none⟩),.slice none 0 0,.int .i64 A.slots,.int .i64 A.begun,.int .i64 A.used,.int .i64 (eH A.free)] 214)).drew.heap.size=w.heap.size+1:=by simp
 have HB0:Hid (Blk (w.alloc (.cells #[.pointer (some ⟨w.heap.size,0,none⟩),.slice none 0 0,.int .i64 A.slots,.int .i64 A.begun,.int .i64 A.used,.int .i64 (eH A.free)] 214)).drew w.heap.size 214 [ptr w.heap.size,.slice none 0 0,.int .i64 A.slots,.int .i64 A.begun,.int .i64 A.used,.int .i64 (eH A.free)]):=qA hb0;have HF0:=qA hF0;clear hF0 hb0;generalize (w.alloc (.cells #[.pointer (some ⟨w.heap.size,0,none⟩),.slice none 0 0,.int .i64 A.slots,.int .i64 A.begun,.int .i64 A.used,.int .i64 (eH A.free)] 214)).drew=w1 at *;clear c0 c1 c2 c3 c4 c5 d1
 go_loopw [37] (fun si wr=>∃(i:Nat) (v:Value) (bs' :List Nat),i<=bs.length/\si=.int .i64 i/\bs'.length=i/\Hid (Fr [] w wr)/\Hid (Blk wr w.heap.size 214 [ptr w.heap.size,v,.int .i64 A.slots,.int .i64 A.begun,.int .i64 A.used,.int .i64 (eH A.free)]) /\
   wr.ownsRow 0 232 1 v i (bs'.map ptr)/\Hid (∀q,v.ownBlock=some q->w.heap.size<q/\q∉bs')/\Hid (bs'.Nodup/\∀b∈bs', w.heap.size<b) /\
   Hid (∀(j b b' :Nat),bs[j]? =some b->bs'[j]? =some b' -> ∃cs,Blk w b 236 cs/\Blk wr b' 236 cs)) (fun si _=>bs.length-(intOf si).toNat)
 case atStart=>exact⟨0,.slice none 0 0,[],qR _,rfl,rfl,HF0,HB0,World.ownsRow_nil _ _ _ _,qA (fun q e=>by cases e),qA ⟨List.nodup_nil,by simp⟩,qA (fun j b b' _ h=>by simp at h)⟩
 case round=>
  clear HB0 HF0 hsz1;obtain⟨i,v,bs', hi,rfl,hbl', HF,HB,hown,HQ,HN,HC⟩:=hrel;obtain⟨a8,c8,rfl⟩:=aT hown;have c1:=HB.out.cell 1;have z1:=HB.out.frozen 1;simp only[zI,zJ]at c1;by_cases hlt:i<bs.length
  {
  have hil:(i:Int)<bs.length:=by omega
  obtain⟨g,cap,e,_,hg,hcg,_⟩:=cL H1.out.2.1 hlt;simp only[qO,true_and]at e;obtain⟨rfl,rfl⟩:=e;have hbi:bs[i]? =some bs[i]:=qK hlt;obtain⟨cs,hcs,hrs⟩:=H1.out.2.2 i bs[i] hbi;generalize bs[i]=b at *;have hcg' :wr.cell? ⟨g,i,none⟩=some (ptr b):=HF.out.cell (by rw[hcg];simp[hbi]) (by simp);have hcsr:=HF.out.blk hcs (by simp);have hcl:=(hrs 0 (by decide)).2.2.2;have hone:∀u∈cs,u.oneCell' =true:=by {
  intro u hu;obtain⟨k,hk⟩:=List.mem_iff_getElem?.1 hu;have hk2:k<192:=by rw[<-hcl];exact(qS.1 hk).1
  obtain⟨r0,r1,⟨t,r2⟩,_⟩:=hrs (k/3) (by omega);rcases(show k=k/3*3∨k=k/3*3+1∨k=k/3*3+2 by omega) with e|e|e
  · rw[<-e,hk]at r0;cases r0;rfl
  · rw[<-e,hk]at r1;cases r1;rfl
  · rw[<-e,hk]at r2;cases r2;rfl};have hinfo:(Tryz.prog.info? 236).map (·.size)=some cs.toArray.size:=by {
  have:(Tryz.prog.info? 236).map (·.size)=some 192:=by kernel_rfl
  rw[this];simp[hcl]};have hz:Tryz.zeroCells236.size=cs.toArray.size:=by {
  have:=kN;simp only[Array.length_toList]at this;rw[this];simp[hcl]};have Hone:=qA hone;clear hone;have Hcs:=qA hcs;clear hcs hrs;go_wp2
  refine wp_load_row 236 _ rfl b rfl 236 cs.toArray (0,0) _ hcsr Tryz.underlying236 rfl hinfo ?_;have hst:=run_storeCells_new (P:=Tryz.prog) wr 236 Tryz.zeroCells236 cs.toArray hinfo hz (by simpa using Hone.out);simp only[List.toList_toArray]at hst;have hFa:Fr [] wr (wr.alloc (.cells cs.toArray 236)):=(Fr.refl [] wr).alloc _;have c1' :=hFa.cell c1 (by simp);have hbn:Blk (wr.alloc (.cells cs.toArray 236)) wr.heap.size 236 cs:=Blk.new wr cs 236;have Hbn:=qA hbn;clear hbn;have HFa:=qA hFa;clear hFa;go_wp2_with (at_builtin;refine aB rfl _ _ 212 rfl 232 (.pointer none) 8 Tryz.underlying212 Tryz.info232 rfl (.slice a8 i c8) i _ rfl ((hown.alloc _).alloc _) (wr.heap.size+1) (ptr wr.heap.size) rfl (aC _ _ _ _ (by simp)) rfl (by omega) (by decide) ?_;intro g' cap' w4 hown4 hgrow4 hg4;have hF4:Fr (Value.slice a8 i c8).ownBlock.toList (wr.alloc (.cells cs.toArray 236)) w4:=((Fr.refl _ _).alloc _).grown hgrow4 (fun q e=>.inl (by simp[e]));have hB4:Blk w4 w.heap.size 214 [ptr w.heap.size,.slice a8 i c8,.int .i64 A.slots,.int .i64 A.begun,.int .i64 A.used,.int .i64 (eH A.free)]:=hF4.blk (HFa.out.blk HB.out (by simp)) (fun hm=>by have:=(HQ.out w.heap.size (by simpa using hm)).1;omega);have c4:=hB4.cell 1;have z4:=hB4.frozen 1;simp only[zI,zJ]at c4)
  have hlow:∀b' ∈ bs', b' < wr.heap.size:=by {
  intro b' hb';obtain⟨j,hj,e⟩:=List.mem_iff_getElem.1 hb';obtain⟨_,_,h2⟩:=HC.out j _ b' (qK (show j<bs.length by omega)) (by rw[qK hj,e]);exact h2.lt};have hhd:=HB.out.lt;have hol:∀q,(Value.slice a8 i c8).ownBlock=some q->q<wr.heap.size:=fun q hq=>(hown.lt q hq).2;simp only[World.size_alloc]at hg4;have hgn:g' ≠ w.heap.size:=by {
  rintro rfl;rcases hg4 with e|e
  · have:=(HQ.out _ e).1;omega
  · omega};go_roundw
  case rel=>
   refine⟨i+1,.slice (some ⟨g', 0,none⟩) (i+1) cap', bs' ++ [wr.heap.size],by omega,by go_num,by simp;omega,qA ?_,qA (hB4.set 1 _),?_,qA (fun q e=>?_),qA ⟨?_,fun x hx=>?_⟩,qA (fun j x y hj hy=>?_)⟩
   · exact((HF.out.trans' HFa.out).trans hF4 (fun q hq=>.inr (Nat.le_of_lt (HQ.out q (by simpa using hq)).1))).setCell _ _ (.inr (qJ _))
   {
   have e:(bs' ++ [wr.heap.size]).map ptr=bs'.map ptr++[ptr wr.heap.size]:=by simp
   rw[e];exact bN hown4 _ _ (by simpa[Value.ownBlock] using hgn)}
   {
   simp only[Value.ownBlock,qI]at e;subst e;simp only[qE,qH,not_or];rcases hg4 with e|e
   {
   have h1:=hol _ e;exact⟨(HQ.out _ e).1,(HQ.out _ e).2,by omega⟩}
   {
   refine⟨by omega,fun hm=>?_,by omega⟩;have:=hlow _ hm;omega}}
   {
   rw[qM];refine⟨HN.out.1,by simp,fun x hx y hy e=>?_⟩;simp at hy;have:=hlow x hx;omega}
   {
   simp only[qE,qH]at hx;rcases hx with hx|rfl
   · exact HN.out.2 x hx
   · omega}
   {
   by_cases hji:j<i
   {
   rw[List.getElem?_append_left (by omega)]at hy;obtain⟨cs', k1,k2⟩:=HC.out j x y hj hy;have hym:=List.mem_of_getElem? hy;refine⟨cs', k1,(hF4.blk (HFa.out.blk k2 (by simp)) (fun hm=>(HQ.out y (by simpa using hm)).2 hym)).other _ _ ?_⟩;have:=HN.out.2 y hym;simp;omega}
   {
   have hjl:j<(bs' ++ [wr.heap.size]).length:=(qS.1 hy).1;simp at hjl;obtain rfl:j=i:=by omega
   rw[List.getElem?_append_right (by omega)]at hy;simp[hbl']at hy;subst hy;have:x=b:=by rw[hbi]at hj;simpa using hj.symm
   subst this;refine⟨cs,Hcs.out,(hF4.blk Hbn.out (fun hm=>?_)).other _ _ ?_⟩
   {
   have:=hol wr.heap.size (by simpa using hm);omega}
   · simp;omega}}
  case measure=>simp[intOf];omega}
  {
  obtain rfl:i=bs.length:=by omega
  have Hown:=qA hown;clear hown;go_wp2
  go_ret;refine⟨w.heap.size,rfl,w.heap.size::((Value.slice a8 bs.length c8).ownBlock.toList++bs'),⟨.slice a8 bs.length c8,bs', st,af,HB.out,by rw[hbl'];exact Hown.out,?_,rfl,?_,by rw[hbl', hl],hok,hst,hch⟩,HF.out,?_⟩
  {
  intro j b' hj;have hjl:j<bs'.length:=(qS.1 hj).1;have hbj:bs[j]? =some bs[j]:=qK (by omega);obtain⟨cs,k1,k2⟩:=HC.out j _ b' hbj hj;obtain⟨cs0,k3,k4⟩:=H1.out.2.2 j _ hbj;obtain rfl:=k1.eq k3;exact⟨cs,k2,k4⟩}
  {
  rw[qN,qM];refine⟨?_,by cases (Value.slice a8 bs.length c8).ownBlock<;>simp,HN.out.1,?_⟩
  {
  simp only[qE,Option.mem_toList,not_or];refine⟨fun e=>?_,fun hm=>?_⟩
  · have:=(HQ.out _ e).1;omega
  · have:=HN.out.2 _ hm;omega}
  {
  intro x hx y hy e;subst e;exact(HQ.out x (by simpa using hx)).2 hy}}
  {
  intro x hx;simp only[qB,qE,Option.mem_toList]at hx;rcases hx with rfl|hx|hx
  · exact qJ _
  · exact Nat.le_of_lt (HQ.out x hx).1
  · exact Nat.le_of_lt (HN.out.2 x hx)}}
end Go.Proofs.YtjdgpcjbgjnahaaGreatDoor
namespace Go.Proofs.YtjdgpcjbgjnahaaGreatDoor
open Go.RowKit Go.Sort
def encU(d:Array Int):List Value:=d.toList.map (Value.int .u64)
structure SR (w wr:World) (blk off:Nat) (d:Array Int):Prop where
  off0:off=0
  row:∃rest,Blk wr blk 36 (encU d++rest)/\∃l0,Blk w blk 36 l0/\l0.length=d.size+rest.length
  fr:Fr [blk] w wr
section
variable {w wr:World} {blk off:Nat} {d:Array Int}
end
structure SM (w wr:World) (blk off:Nat) (d:Array Int) (sb s:Nat):Prop where
  sr:SR w wr blk off d
  cnt:Blk wr sb 3 [.int .i64 s]
  ne:sb≠blk
  new:w.heap.size<=sb
section
variable {w wr:World} {blk off:Nat} {d:Array Int} {sb s:Nat}
end
def Tryz.laysLen_ren:Go.Shelf.Ren:=⟨fun|125=>147|128=>193|129=>194|n=>n,fun|46=>27|3=>3|51=>23|53=>36|4=>4|5=>5|9=>9|n=>n,fun|n=>n⟩
theorem Tryz.laysLen:Go.Proofs.Lays.n125 Tryz.prog Tryz.laysLen_ren:={
  mixed:=by kernel_rfl
  f125:=Tryz.func147.trans (congrArg some (by kernel_rfl))
  f128:=Tryz.func193.trans (congrArg some (by kernel_rfl))
  f129:=Tryz.func194.trans (congrArg some (by kernel_rfl))
  t3:=Tryz.underlying3
  a3:=Tryz.isAgg3
  z3:=Tryz.sizeOf3
  v3:=Tryz.zeroValue3
  t4:=Tryz.underlying4
  a4:=Tryz.isAgg4
  z4:=Tryz.sizeOf4
  v4:=Tryz.zeroValue4
  t5:=Tryz.underlying5
  a5:=Tryz.isAgg5
  z5:=Tryz.sizeOf5
  v5:=Tryz.zeroValue5
  t9:=Tryz.underlying9
  a9:=Tryz.isAgg9
  z9:=Tryz.sizeOf9
  v9:=Tryz.zeroValue9
  t46:=Tryz.underlying27
  a46:=Tryz.isAgg27
  z46:=Tryz.sizeOf27
  v46:=Tryz.zeroValue27
  t51:=Tryz.underlying23
  a51:=Tryz.isAgg23
  z51:=Tryz.sizeOf23
  v51:=Tryz.zeroValue23
  t53:=Tryz.underlying36
  a53:=Tryz.isAgg36
  z53:=Tryz.sizeOf36
  v53:=Tryz.zeroValue36 }
structure SX (w wr:World) (blk off:Nat) (d:Array Int) (rb R:Nat):Prop where
  sr:SR w wr blk off d
  cnt:Blk wr rb 292 [.int .u64 R]
  ne:rb≠blk
  new:w.heap.size<=rb
section
variable {w wr:World} {blk off:Nat} {d:Array Int} {rb R:Nat}
end
structure PdqR (d:Array Int) (a b lim:Nat) (wb wp:Bool) (R:Rd Int):Prop where
  bal:wb=true->R.d1=d/\R.lim=lim
  unb:wb=false->R.d1=breakPatterns d a b/\R.lim=lim-1
  c:R.c=choosePivot ltInt R.d1 a b
  dec:R.c.2=.decreasing->R.d2=reverseRange R.d1 a b/\R.pivot=(b-1)-(R.c.1-a)/\R.hint=.increasing
  ndec:R.c.2≠.decreasing->R.d2=R.d1/\R.pivot=R.c.1/\R.hint=R.c.2
  yes:(wb&&wp&&decide (R.hint=.increasing))=true->R.pi=partialInsertionSort ltInt R.d2 a b
  no:(wb&&wp&&decide (R.hint=.increasing))=false->R.pi=(R.d2,false)
  s1:R.d1.size=d.size
  c1:a<=R.c.1/\R.c.1<b
  s2:R.d2.size=d.size
  pv:a<=R.pivot/\R.pivot<b
  s3:R.pi.1.size=d.size
  B3:Sort.Below ltInt a b R.pi.1
  lm:R.lim<=lim
  done:R.pi.2=true->pdq ltInt d a b lim wb wp=R.pi.1
  eq:R.pi.2=false->(decide (a>0)&&!ltInt R.pi.1[a-1]! R.pi.1[R.pivot]!)=true->∀mid d4,partitionEqual ltInt R.pi.1 a b R.pivot=(mid,d4)->a<mid/\mid<=b->pdq ltInt d a b lim wb wp=pdq ltInt d4 mid b R.lim wb wp
  left:R.pi.2=false->(decide (a>0)&&!ltInt R.pi.1[a-1]! R.pi.1[R.pivot]!)=false->∀mid ap d4,partition ltInt R.pi.1 a b R.pivot=(mid,ap,d4)->a<=mid/\mid<b->mid-a<b-mid ->
    pdq ltInt d a b lim wb wp=pdq ltInt (pdq ltInt d4 a mid R.lim true true) (mid+1) b R.lim (decide (mid-a≥(b-a)/8)) ap
  right:R.pi.2=false->(decide (a>0)&&!ltInt R.pi.1[a-1]! R.pi.1[R.pivot]!)=false->∀mid ap d4,partition ltInt R.pi.1 a b R.pivot=(mid,ap,d4)->a<=mid/\mid<b->¬mid-a<b-mid ->
    pdq ltInt d a b lim wb wp=pdq ltInt (pdq ltInt d4 (mid+1) b R.lim true true) a mid R.lim (decide (b-mid≥(b-a)/8)) ap
end Go.Proofs.YtjdgpcjbgjnahaaGreatDoor
namespace Go.Proofs.YtjdgpcjbgjnahaaGreatDoor
open Go.RowKit
def nY(l:List Nat):List Nat:=l.mergeSort (fun x y=>decide (x<=y))
theorem aFQ(l:List Nat):(nY l).length=l.length:=by simp[nY]
def Tryz.laysCloneU_ren:Go.Shelf.Ren:=⟨fun|41=>158|n=>n,fun|22=>104|23=>36|4=>4|n=>n,fun|n=>n⟩
theorem Tryz.laysCloneU:Go.Proofs.SlLaysE0.n41 Tryz.prog Tryz.laysCloneU_ren:={
  mixed:=by kernel_rfl
  f41:=⟨Tryz.f158.name,by decide,Tryz.func158.trans (congrArg some (by kernel_rfl))⟩
  t4:=Tryz.underlying4
  a4:=Tryz.isAgg4
  z4:=Tryz.sizeOf4
  v4:=Tryz.zeroValue4
  t22:=Tryz.underlying104
  a22:=Tryz.isAgg104
  z22:=Tryz.sizeOf104
  v22:=Tryz.zeroValue104 }
def Tryz.laysCloneI_ren:Go.Shelf.Ren:=⟨fun|41=>119|n=>n,fun|22=>158|23=>3|4=>4|n=>n,fun|n=>n⟩
theorem Tryz.laysCloneI:Go.Proofs.SlLaysE0.n41 Tryz.prog Tryz.laysCloneI_ren:={
  mixed:=by kernel_rfl
  f41:=⟨Tryz.f119.name,by decide,Tryz.func119.trans (congrArg some (by kernel_rfl))⟩
  t4:=Tryz.underlying4
  a4:=Tryz.isAgg4
  z4:=Tryz.sizeOf4
  v4:=Tryz.zeroValue4
  t22:=Tryz.underlying158
  a22:=Tryz.isAgg158
  z22:=Tryz.sizeOf158
  v22:=Tryz.zeroValue158 }
theorem kS{w:World}{base:Nat}{e:TypeId}{size:Nat}{v:Value}{n:Nat}{xs:List Value}(h:w.ownsRow base e size v n xs):w.ownsRow 0 e size v n xs:=
  ⟨h.1,h.2.elim .inl (fun⟨g,cap,cur,k1,_,k3⟩=>.inr ⟨g,cap,cur,k1,qR _,k3⟩)⟩
theorem kT{w:World}{base:Nat}{e:TypeId}{size:Nat}{v:Value}{n:Nat}{xs:List Value}(h:w.ownsRow base e size v n xs):∀q,v.ownBlock=some q->base<=q:=by
 intro q hq;rcases h.2 with⟨rfl,_⟩|⟨g,cap,cur,rfl,hb,_⟩
 · cases hq
 · simp[Value.ownBlock]at hq;omega
theorem aFR{w:World}{v:Value}{n:Nat}{f:Nat->Nat}(h:w.ownsRow 0 36 1 v n (cC n (idF f)))(hn:n<=65536):
    Calls Tryz.prog 158 #[v] w fun e w' =>∃v', e=.returned v' /\ w'.ownsRow 0 36 1 v' n (cC n (idF f))/\(∀q,v'.ownBlock=some q->w.heap.size<=q)/\Fr [] w w' :=by
 obtain⟨i0,hi,hz0,hz1,hz2⟩:=info_parts Tryz.info36;rcases h.2 with⟨rfl,rfl⟩|⟨g,cap,cur,rfl,hg,hcur,hnc,hcm,hcs,htk⟩
 {
 refine(AnyE.slices_Clone_nil Tryz.laysCloneU 0 0 w).mono ?_;rintro _ _ ⟨rfl,rfl⟩;exact⟨_,rfl,h,fun q e=>(by cases e),Fr.refl _ _⟩}
 {
 refine(AnyE.slices_Clone Tryz.laysCloneU i0 (.int .u64 0) 1 8 hi hz0 hz1 hz2 rfl (by decide) Tryz.sizeOf36 g 0 n cap (cC n (idF f)) w (by rw[cT];omega) (by unfold maxLen;omega) (by omega) (fun j u hj=>?_) (fun u hu=>?_)).mono ?_
 · rw[Nat.zero_add,h.cellAt j (by have:=(qS.1 hj).1;rw[cT]at this;omega)];exact hj
 {
 simp only[cC,qV]at hu;obtain⟨k,_,rfl⟩:=hu;rfl}
 {
 rintro _ w' ⟨v', rfl,h1,_,hB⟩;exact⟨v', rfl,kS h1,kT h1,Fr.of_below hB⟩}}
theorem yT{w:World}{g n cap:Nat}{C:Nat->Nat}{rst:List Value}(h:Blk w g 3 (gJ n C rst))(h0:0<n)(hn:n<=131072):
    Calls Tryz.prog 119 #[.slice (some ⟨g,0,none⟩) n cap] w fun e w' =>∃g' cap' rst', e=.returned (.slice (some ⟨g', 0,none⟩) n cap')/\Blk w' g' 3 (gJ n C rst')/\w.heap.size<=g' /\ Fr [] w w' :=by
 obtain⟨i0,hi,hz0,hz1,hz2⟩:=info_parts Tryz.info3;refine(AnyE.slices_Clone Tryz.laysCloneI i0 (.int .i64 0) 1 8 hi hz0 hz1 hz2 rfl (by decide) Tryz.sizeOf3 g 0 n cap (cC n (eF C)) w (by rw[cT];omega) (by unfold maxLen;omega) (by omega) (fun j u hj=>?_) (fun u hu=>?_)).mono ?_
 {
 have hjl:j<n:=by have:=(qS.1 hj).1;rwa[cT]at this
 rw[Nat.zero_add,h.cell,fE hjl,<-hj,eL hjl]}
 {
 simp only[cC,qV]at hu;obtain⟨k,_,rfl⟩:=hu;rfl}
 {
 rintro _ w' ⟨v', rfl,h1,_,hB⟩;rcases h1.2 with⟨_,hz⟩|⟨g', cap', cur,rfl,hg', hcur,hnc,hcm,hcs,htk⟩
 · omega
 {
 refine⟨g', cap', cur.toList.drop n,rfl,?_,hg', Fr.of_below hB⟩;unfold gJ;rw[<-htk,Nat.mul_one,List.take_append_drop];unfold Blk;rw[Array.toArray_toList];exact hcur}}
theorem aBY{w:World}{pt:Nat}{T:Tb}{l:List Nat}(h:cB w pt T l):
    Calls Tryz.prog 116 #[ptr pt] w fun e w' =>∃pt', e=.returned (ptr pt')/\∃l', cB w' pt' T l' /\ Fr [] w w' /\ ∀b∈l', w.heap.size<=b:=by
 obtain⟨cpc,rst,pa,gc,n,vi,C,la,h1,h2,h3,h4,rfl,hnd,hM,hs,hT,hinj,hb64⟩:=h;have hok:=h2.ok;have hs1:=hok.hs;have hs2:=hok.hb;have hn:=hM.pos;have hn2:=hM.le;have c0:=h1.cell 0;have c1:=h1.cell 1;have c2:=h1.cell 2;have c3:=h1.cell 3;simp only[zI,zJ]at c0 c1 c2 c3;have HR:=qA (zH hnd (zH hM (zH hs (zH hT (zH hinj hb64)))));clear hnd hM hs hT hinj hb64;have HA:=qA (sP (h2.same (w' :=w.drew) (fun _ _=>rfl)));have HI:=qA (fun(w' :World) (hf:Fr [] w w')=>aFR (aQ (w' :=w') h3 (fun k hk=>hf.keep k (h3.lt k hk).2 (by simp))) (by omega));have HC:=qA (fun(w' :World) (hf:Fr [] w w')=>yT (cap:=cpc) (hf.blk h4 (by simp)) (by omega) (by omega));have hF0:Fr [] w w.drew:=(Fr.refl [] w).drew;go_enter Tryz.func116,Tryz.ntmps116
 go_wp2_with (go_at_call 143;refine(dA pt _ c0).mono ?_;rintro e w' ⟨rfl,rfl⟩)
 go_region_held3 (fun w' => w'.cell? ⟨pt, 1, none⟩ = some (ptr pa) /\ w'.cell? ⟨pt, 2, none⟩ = some vi /\ w'.cell? ⟨pt, 3, none⟩ = some (.slice (some ⟨gc, 0, none⟩) n cpc))
   (first
     | go_keep
     | (exact⟨hF3.cell c1 (by simp),hF3.cell c2 (by simp),hF3.cell c3 (by simp)⟩)
     | (exact⟨hF4.cell c1 (by simp),hF4.cell c2 (by simp),hF4.cell c3 (by simp)⟩)
     | (exact⟨hF5.cell c1 (by simp),hF5.cell c2 (by simp),hF5.cell c3 (by simp)⟩)
     | (exact⟨(hF5.alloc _).cell c1 (by simp),(hF5.alloc _).cell c2 (by simp),(hF5.alloc _).cell c3 (by simp)⟩))
   (first
     | (go_at_call 115;refine HA.out.mono ?_;rintro e w3 ⟨pa', rfl,la', hA3,hF3,hl3⟩;have hla3:=hA3.lt;replace hF3:=hF0.trans' hF3)
     | (go_at_call 158;refine(HI.out _ hF3).mono ?_;rintro e w4 ⟨vi', rfl,hI4,hq4,hF4⟩;replace hA3:=hA3.fr hF4 (by simp);have hsz4:=hF3.size;have hF34:=hF4;replace hF4:=hF3.trans' hF4;obtain⟨ai,ci,rfl⟩:=aT hI4;have hil4:=fun q hq=>(hI4.lt q hq).2)
     | (go_at_call 119;refine(HC.out _ hF4).mono ?_;rintro e w5 ⟨gc', cpc', rst', rfl,hC5,hg5,hF5⟩;replace hA3:=hA3.fr hF5 (by simp);replace hI4:=aQ (w' :=w5) hI4 (fun k hk=>hF5.keep k (hI4.lt k hk).2 (by simp));have hsz5:=hF4.size;replace hF5:=hF4.trans' hF5))
 have hb0:=Blk.new w5 [ptr w5.heap.size,ptr pa', .slice ai T.A.begun ci,.slice (some ⟨gc', 0,none⟩) n cpc'] 211;have H5:=qA (zH hA3 (zH hI4 (zH hC5 hF5)));clear hA3 hI4 hC5;have Hb1:=qA hb0;clear hb0;have hq4' :∀q,(Value.slice ai T.A.begun ci).ownBlock=some q->w3.heap.size<=q:=hq4;have hl3' :∀b∈la', w.heap.size<=b:=fun b hb=>by have:=hl3 b hb;simpa using this
 have hlt3:=H5.out.1.lt;go_wp2
 go_ret;have hFz:Fr [] w5 (w5.alloc (.cells #[ptr w5.heap.size,ptr pa', .slice ai T.A.begun ci,.slice (some ⟨gc', 0,none⟩) n cpc'] 211)):=(Fr.refl _ _).alloc _;have hila:∀q,(Value.slice ai T.A.begun ci).ownBlock=some q->q<w5.heap.size:=fun q hq=>(H5.out.2.1.lt q hq).2;have hgl:=H5.out.2.2.1.lt;obtain⟨hnd,hM,hs,hT,hinj,hb64⟩:=HR.out;refine⟨w5.heap.size,rfl,w5.heap.size::gc' :: ((Value.slice ai T.A.begun ci).ownBlock.toList++la'),⟨cpc', rst', pa', gc', n,.slice ai T.A.begun ci,C,la', Hb1.out,H5.out.1.fr hFz (by simp),aQ H5.out.2.1 (fun k hk=>hFz.keep k (H5.out.2.1.lt k hk).2 (by simp)),hFz.blk H5.out.2.2.1 (by simp),rfl,?_,hM,hs,hT,hinj,hb64⟩,H5.out.2.2.2.trans' hFz,?_⟩
 {
 have hlan:la'.Nodup:=by obtain⟨_,_,_,_,_,_,_,_,hq,_⟩:=H5.out.1;exact hq
 rw[qN,qN,qM];refine⟨?_,?_,by cases (Value.slice ai T.A.begun ci).ownBlock<;>simp,hlan,?_⟩
 {
 simp only[qB,qE,Option.mem_toList,not_or];exact⟨by omega,fun e=>by have:=hila _ e;omega,fun hm=>by have:=hlt3 _ hm;omega⟩}
 {
 simp only[qE,Option.mem_toList,not_or];refine⟨fun e=>by have:=hil4 _ e;omega,fun hm=>?_⟩;have:=hla3 _ hm;have:=hF34.size;omega}
 {
 intro x hx y hy e;subst e;have h1:=hq4' x (by simpa using hx);have h2:=hla3 x hy;omega}}
 {
 intro b hb;simp only[qB,qE,Option.mem_toList]at hb;have:=H5.out.2.2.2.size;rcases hb with rfl|rfl|hb|hb
 · omega
 · omega
 · have:=hq4' b hb;omega
 · exact hl3' b hb}
section
variable {P:Program} {ops:Array Oper} {md:Region.Mode} (G:Nat->Sem Go.Next->Value->Prop)
def gOp(ops:Array Oper)(i:Nat)(K:Act->Prop)(a:Act):Prop:=
  match ops[i]? with
  | none=>K a
  | some o=>if Region.wanted o (yielded ops a.tmps) then ∃v,G i (execOp a.eval o) v/\K (a.put o.dst v) else K (a.put o.dst undef)
def dN(ops:Array Oper)(Q:Act->Prop):Nat->List Oper->Act->Prop
  | _,[],a=>Q a
  | k,o::rest,a=>if Region.wanted o (yielded ops a.tmps) then ∃v,G k (execOp a.eval o) v/\dN ops Q (k+1) rest (a.put o.dst v) else dN ops Q (k+1) rest (a.put o.dst undef)
def yU(md:Region.Mode)(ops:Array Oper)(Q:Act->Prop):Nat->Array Bool->Act->Prop
  | 0,listed,a=>Region.ready md ops listed=[]/\Q a
  | fuel+1,listed,a=>
    (Region.ready md ops listed=[]->Q a)/\∀i∈Region.ready md ops listed,gOp G ops i (yU md ops Q fuel (listed.setIfInBounds i true)) a
variable {G}
def eU(G:Nat->Sem Go.Next->Value->Prop)(ops:Array Oper)(i:Nat)(o:Oper)(v:Value)(a:Act):Prop:=
  (Region.wanted o (yielded ops a.tmps)=true/\G i (execOp a.eval o) v)∨(Region.wanted o (yielded ops a.tmps)=false/\v=undef)
theorem eU.op{i:Nat}{o:Oper}{v:Value}{a:Act}(hi:ops[i]? =some o)(hy:eU G ops i o v a){K:Act->Prop}(h:K (a.put o.dst v)):gOp G ops i K a:=by
 unfold gOp;simp only[hi];rcases hy with⟨hw,hv⟩|⟨hw,rfl⟩
 · rw[qD hw];exact⟨v,hv,h⟩
 · rw[qC (by simp[hw])];exact h
theorem eU.same{i:Nat}{o:Oper}{v:Value}{a a' :Act}(hy:eU G ops i o v a)(he:execOp a'.eval o=execOp a.eval o)
    (hw:Region.wanted o (yielded ops a'.tmps)=Region.wanted o (yielded ops a.tmps)):eU G ops i o v a' :=by
 unfold eU at *;rw[he,hw];exact hy
theorem aHT{i:Nat}{a:Act}{K K' :Act->Prop}(h:∀a,K a->K' a)(hh:gOp G ops i K a):gOp G ops i K' a:=by
 unfold gOp at *;cases ho:ops[i]? with
 | none=>simp only[ho]at hh ⊢;exact h _ hh
 | some o=>{
 simp only[ho]at hh ⊢;by_cases hw:Region.wanted o (yielded ops a.tmps)=true
 · rw[qD hw]at *;obtain⟨v,h1,h2⟩:=hh;exact⟨v,h1,h _ h2⟩
 · rw[qC hw]at *;exact h _ hh}
theorem uK{i:Nat}{o:Oper}{a:Act}{K:Act->Prop}(hi:ops[i]? =some o)(h:gOp G ops i K a):∃v,eU G ops i o v a/\K (a.put o.dst v):=by
 unfold gOp at h;simp only[hi]at h;by_cases hw:Region.wanted o (yielded ops a.tmps)=true
 {
 rw[qD hw]at h;obtain⟨v,h1,h2⟩:=h;exact⟨v,.inl ⟨hw,h1⟩,h2⟩}
 {
 rw[qC hw]at h;exact⟨undef,.inr ⟨by simpa using hw,rfl⟩,h⟩}
theorem aMI{i j:Nat}{oi oj:Oper}{v:Value}(hj:ops[j]? =some oj)(hap:oi.apart ops oj=true)
    (hsi:∀cs b,oi.op≠.select cs b) (hsj:∀cs b,oj.op≠.select cs b) {K:Act->Prop} {a:Act}
    (hy:eU G ops i oi v a) (h:gOp G ops j K (a.put oi.dst v)):
    gOp G ops j (fun a' =>eU G ops i oi v a' /\ K (a'.put oi.dst v)) a:=by
 obtain⟨h1,h2,h3⟩:=Oper.apart_spec hap;have keep:∀(a:Act),eU G ops i oi v a->∀u,eU G ops i oi v (a.put oj.dst u):=fun a hy u=>
   hy.same (execOp_put oi hsi a oj.dst u h3) (wanted_put oi a oj.dst u h3)
 unfold gOp at *;simp only[hj]at *;rw[wanted_put oj a oi.dst v h1]at h;by_cases hw:Region.wanted oj (yielded ops a.tmps)=true
 {
 rw[qD hw]at *;obtain⟨u,hu,hn⟩:=h;rw[execOp_put oj hsj a oi.dst v h1]at hu;exact⟨u,hu,keep a hy u,by rw[<-Act.put_comm a v u h2];exact hn⟩}
 {
 rw[qC hw]at *;exact⟨keep a hy _,by rw[<-Act.put_comm a v undef h2];exact h⟩}
theorem aBZ{Q:Act->Prop}{i:Nat}{oi:Oper}{v:Value}(hi:ops[i]? =some oi)(hsel:∀(j:Nat) (o:Oper) cs b,ops[j]? =some o->o.op≠.select cs b):
    ∀(fuel:Nat) (listed:Array Bool) (a:Act),
      (∀j oj,ops[j]? =some oj->j≠i->listed.getD j true=false->(∀e∈oj.after,Region.binds md e=true->e.on≠i)->oi.apart ops oj=true) ->
      i∈Region.ready md ops listed->eU G ops i oi v a ->
      yU G md ops Q fuel (listed.setIfInBounds i true) (a.put oi.dst v)->yU G md ops Q (fuel+1) listed a:=by
  intro fuel;induction fuel with
  | zero=>
    intro listed a _ hr hy H;refine⟨fun h=>(by rw[h]at hr;cases hr),fun j hj=>?_⟩;by_cases hji:j=i
    · subst hji;exact hy.op hi H
    · have := ready_mono hj hji
      rw[H.1]at this;cases this
  | succ fuel ih=>
    intro listed a hfree hr hy H;refine⟨fun h=>(by rw[h]at hr;cases hr),fun j hj=>?_⟩;by_cases hji:j=i
    · subst hji;exact hy.op hi H
    · have h1 := H.2 j (ready_mono hj hji)
      obtain⟨hjun,oj,hoj,hall⟩:=mem_ready.1 hj;have hnot:∀e∈oj.after,Region.binds md e=true->e.on≠i:=fun e he hb heq=>by
        have h1:=hall e he hb;have h0:=(mem_ready.1 hr).1;rw[heq]at h1;rcases Nat.lt_or_ge i listed.size with h' | h'
        · simp[h']at h0 h1;rw[h0]at h1;cases h1
        · simp[Array.getElem?_eq_none h']at h1
      have h2:=aMI hoj (hfree j oj hoj hji hjun hnot) (fun cs b=>hsel i oi cs b hi) (fun cs b=>hsel j oj cs b hoj) hy h1
      have hfree' :∀k ok,ops[k]? =some ok->k≠i->(listed.setIfInBounds j true).getD k true=false ->
          (∀e∈ok.after,Region.binds md e=true->e.on≠i)->oi.apart ops ok=true:=fun k ok hk hki hun hno=>by
        refine hfree k ok hk hki ?_ hno;by_cases hjk:j=k
        · subst hjk;exact hjun
        · rw[getD_set_ne true hjk]at hun;exact hun
      refine aHT (fun a' h3=>ih (listed.setIfInBounds j true) a' hfree' (ready_mono hr (Ne.symm hji)) h3.1 ?_) h2;rw[Array.setIfInBounds_comm _ _ hji];exact h3.2
theorem sQ{Q:Act->Prop}(hs:Region.noSelect ops=true):∀(l:List Oper) (k:Nat) (listed:Array Bool) (a:Act),(∀j,l[j]? =ops[k+j]?) ->
    Region.lexFrom md ops l.length k listed=true->dN G ops Q k l a->yU G md ops Q l.length listed a
  | [],_,_,_,_,hB,h=>⟨by simpa[Region.lexFrom] using hB,h⟩
  | o::l,k,listed,a,hl,hB,h=>by
    have h0:ops[k]? =some o:=by simpa using (hl 0).symm
    simp only[qY,Region.lexFrom,qW]at hB;obtain⟨⟨hr,hf⟩,hB'⟩:=hB;have hst:gOp G ops k (dN G ops Q (k+1) l) a:=by unfold gOp;simp only[h0];exact h
    obtain⟨v,hy,hK⟩:=uK h0 hst
    exact aBZ h0 (Region.noSelect_spec hs) l.length listed a (Region.free_spec h0 hf) (by simpa using hr) hy
      (sQ hs l (k+1) _ _ (fun j=>by have:=hl (j+1);simpa[Nat.add_assoc,Nat.add_comm 1 j] using this) hB' hK)
end
def fO(P:Program)(C1:World->Prop)(v:Value):Result Go.Next->Prop
  | .ok (.value u) w' =>u=v/\C1 w'
  | .ok .skip w' =>v=undef/\C1 w'
  | .ok (.enter f args) w' =>Calls P f args w' (fun e w'' =>e=.returned v/\C1 w'')
  | _=>False
def kU(w:World)(v:Value):Result Go.Next->Prop
  | .ok (.value u) w' =>w' =w/\u=v
  | .ok .skip w' =>w' =w/\v=undef
  | _=>False
def mL(P:Program)(c:Nat)(C0 C1:World->Prop)(i:Nat)(s:Sem Go.Next)(v:Value):Prop:=
  if i<c then ∀w,C0 w->Oper.quietUpon P C0 w v (s.run P w) else if i=c then ∀w,C0 w->fO P C1 v (s.run P w) else ∀w,kU w v (s.run P w)
theorem sR{P:Program}{o:Oper}{a:Act}{v:Value}{C:World->Prop}{w:World}{K' :Act->World->Prop}{Q' :Exit->Act->World->Prop}(hw:C w)(h:∀w', C w' -> K' (a.put o.dst v) w')
    {r:Result Go.Next} (h3:Oper.quietUpon P C w v r):o.upon P a K' Q' r:=by
 cases r with
 | halt x w' =>exact h3.elim
 | ok x w' =>{
 cases x with
 | value u=>obtain⟨rfl,rfl⟩:=h3;exact h _ hw
 | skip=>obtain⟨rfl,rfl⟩:=h3;exact h _ hw
 | enter f args=>{
 obtain⟨rfl,hc⟩:=h3;exact hc.mono fun e w'' ⟨he,hw''⟩=>by subst he;exact h _ hw''}
 | _=>exact h3.elim}
theorem sS{P:Program}{o:Oper}{a:Act}{v:Value}{C:World->Prop}{K' :Act->World->Prop}{Q' :Exit->Act->World->Prop}(h:∀w', C w' -> K' (a.put o.dst v) w')
    {r:Result Go.Next} (h3:fO P C v r):o.upon P a K' Q' r:=by
 cases r with
 | halt x w' =>exact h3.elim
 | ok x w' =>{
 cases x with
 | value u=>obtain⟨rfl,hc⟩:=h3;exact h _ hc
 | skip=>obtain⟨rfl,hc⟩:=h3;exact h _ hc
 | enter f args=>exact Calls.mono h3 fun e w'' ⟨he,hw''⟩=>by subst he;exact h _ hw''
 | _=>exact h3.elim}
theorem vG{P:Program}{o:Oper}{a:Act}{v:Value}{w:World}{K' :Act->World->Prop}{Q' :Exit->Act->World->Prop}(h:K' (a.put o.dst v) w)
    {r:Result Go.Next} (h3:kU w v r):o.upon P a K' Q' r:=by
 cases r with
 | halt x w' =>exact h3.elim
 | ok x w' =>{
 cases x with
 | value u=>obtain⟨rfl,rfl⟩:=h3;exact h
 | skip=>obtain⟨rfl,rfl⟩:=h3;exact h
 | _=>exact h3.elim}
section
variable {P:Program} {ops:Array Oper} {md:Region.Mode} {C0 C1:World->Prop} {c:Nat}
theorem gR(m j:Nat):(Array.replicate m false).getD j false=false:=by
 by_cases h:j<m<;>simp[h]
def sT(md:Region.Mode)(ops:Array Oper):Nat->Array Bool->Array Bool
  | 0,S=>S
  | j+1,S=>sT md ops j (if S.getD j false then(match ops[j]? with|some o=>o.after.toList.foldl (fun S e=>if Region.binds md e then S.setIfInBounds e.on true else S) S|none=>S) else S)
def pG(md:Region.Mode)(ops:Array Oper)(c:Nat):Bool:=(List.range c).all fun i=>(sT md ops (c+1) ((Array.replicate ops.size false).setIfInBounds c true)).getD i false
def uL(md:Region.Mode)(ops:Array Oper)(L:Array Bool):Prop:=∀j oj,ops[j]? =some oj->L.getD j false=true->∀e∈oj.after,Region.binds md e=true->L.getD e.on false=true
theorem lX{L:Array Bool}(hL:uL md ops L):∀(j:Nat) (S:Array Bool),(∀i,S.getD i false=true->L.getD i false=true)->∀i,(sT md ops j S).getD i false=true->L.getD i false=true
  | 0,S,h=>h
  | j+1,S,h=>by
    unfold sT;refine lX hL j _ ?_;by_cases hj:S.getD j false=true
    · rw [qD hj]
      cases ho:ops[j]? with
      | none=>exact h
      | some o=>
        have hcl:=hL j o ho (h j hj)
        have key:∀(es:List Edge) (T:Array Bool),(∀e∈es,e∈o.after.toList)->(∀i,T.getD i false=true->L.getD i false=true) ->
            ∀i,(es.foldl (fun S e=>if Region.binds md e then S.setIfInBounds e.on true else S) T).getD i false=true->L.getD i false=true:=by
          intro es;induction es with
          | nil=>intro T _ hT;exact hT
          | cons e es ih=>
            intro T hes hT;rw[List.foldl_cons];refine ih _ (fun e' he' =>hes e' (List.mem_cons_of_mem _ he')) ?_;by_cases hb:Region.binds md e=true
            · rw [qD hb]
              intro i hi;by_cases hei:e.on=i
              · rw[<-hei];exact hcl e (by simpa using hes e (by simp)) hb
              · rw[getD_set_ne false hei]at hi;exact hT i hi
            · rw[qC hb];exact hT
        exact key _ S (fun e he=>he) h
    · rw[qC hj];exact h
theorem uM{L:Array Bool}(hL:uL md ops L)(hB:pG md ops c=true)(hc:L.getD c false=true):∀i,i<c->L.getD i false=true:=by
 intro i hi;have h1:=List.all_eq_true.1 hB i (by simpa using hi);refine lX hL (c+1) _ ?_ i h1;intro j hj;by_cases e:c=j
 · rw[<-e];exact hc
 {
 rw[getD_set_ne false e,gR]at hj;cases hj}
theorem uL.set{L:Array Bool}{i:Nat}(h:uL md ops L)(hi:i∈Region.ready md ops L):uL md ops (L.setIfInBounds i true):=by
 obtain⟨_,oi,hoi,hall⟩:=mem_ready.1 hi;intro j oj hj hl e he hb;by_cases hij:i=j
 {
 subst hij;have:oj=oi:=Option.some.inj (hj.symm.trans hoi);subst this;exact getD_set_true (hall e he hb)}
 {
 rw[getD_set_ne false hij]at hl;exact getD_set_true (h j oj hj hl e he hb)}
def kV(c:Nat)(C0 C1:World->Prop)(listed:Array Bool)(w:World):Prop:=if listed.getD c false=true then C1 w else C0 w
def iW(md:Region.Mode)(ops:Array Oper):Bool:=(List.range ops.size).all fun j=>match ops[j]? with
  | some o=>o.after.all fun e=> !Region.binds md e||decide (e.on<j)
  | none=>true
theorem pH{listed:Array Bool}(hs:listed.size=ops.size)(hb:iW md ops=true)(h:Region.ready md ops listed=[]):∀j,j<ops.size->listed.getD j false=true:=by
 intro j;induction j using Nat.strongRecOn with
 | _ j ih=>{
 intro hj;apply qP;intro hno;have hun:listed.getD j true=false:=by simp[hs,hj]at hno ⊢;exact hno
 obtain⟨o,ho⟩:∃o,ops[j]? =some o:=⟨_,Array.getElem?_eq_getElem hj⟩;have hin:j∈Region.ready md ops listed:=by {
 refine mem_ready.2 ⟨hun,o,ho,fun e he hbe=>?_⟩;have h1:=List.all_eq_true.1 hb j (by simpa using hj);simp only[ho]at h1;have h2:=Array.all_eq_true'.1 h1 e he;simp[hbe]at h2;exact ih e.on h2 (by omega)};rw[h]at hin;cases hin}
theorem pW(hc:c<ops.size)(hb:iW md ops=true)(hbf:pG md ops c=true)(hu:∀o,ops[c]? =some o->o.guard=none){Q:Act->Prop}{Q' :Exit->Act->World->Prop}(hQ:∀a w,C1 w->Q a->Q' .normal a w):∀(fuel:Nat) (listed:Array Bool) (a:Act) (w:World),listed.size=ops.size ->
    uL md ops listed->kV c C0 C1 listed w->yU (mL P c C0 C1) md ops Q fuel listed a->wpAny P md ops Q' fuel listed a w
  | 0,listed,a,w,hs,_,hp,h=>⟨h.1,hQ _ _ (by unfold kV at hp;rw[qD (pH hs hb h.1 c hc)]at hp;exact hp) h.2⟩
  | fuel+1,listed,a,w,hs,hsh,hp,h=>by
    refine⟨fun h0=>hQ _ _ (by unfold kV at hp;rw[qD (pH hs hb h0 c hc)]at hp;exact hp) (h.1 h0),fun i hi=>?_⟩;have hg:=h.2 i hi;obtain⟨hun,oi,hoi,_⟩:=mem_ready.1 hi;have hil:i<ops.size:=(qL.1 hoi).1;have hs' :(listed.setIfInBounds i true).size=ops.size:=by simp[hs]
    have hl0:listed.getD i false=false:=by
      simp[hs,hil]at hun ⊢;exact hun
    have next:∀a' w', kV c C0 C1 (listed.setIfInBounds i true) w' -> yU (mL P c C0 C1) md ops Q fuel (listed.setIfInBounds i true) a' -> wpAny P md ops Q' fuel (listed.setIfInBounds i true) a' w' :=
      fun a' w' hp' hg' =>pW hc hb hbf hu hQ fuel _ a' w' hs' (hsh.set hi) hp' hg'
    unfold gOp at hg;unfold wpOp;simp only[hoi]at hg ⊢;by_cases hic:i=c
    · subst hic
      have hl1:(listed.setIfInBounds i true).getD i false=true:=by simp[hs,hil]
      unfold kV at hp;rw[qC (by simp[hl0])]at hp;have hw:Region.wanted oi (yielded ops a.tmps)=true:=by simp[Region.wanted,hu oi hoi]
      rw[qD hw]at hg ⊢;obtain⟨v,hv,hk⟩:=hg;unfold mL at hv;rw[qC (Nat.lt_irrefl _),qD rfl]at hv;exact .inl (sS (fun w' hc' =>next _ w' (by unfold kV;rw[qD hl1];exact hc') hk) (hv w hp))
    · have hlc : (listed.setIfInBounds i true).getD c false = listed.getD c false := getD_set_ne false hic
      by_cases hw:Region.wanted oi (yielded ops a.tmps)=true
      · rw [qD hw] at hg ⊢
        obtain⟨v,hv,hk⟩:=hg;unfold mL at hv;left
        by_cases hlt:i<c
        · have hcl : ¬ listed.getD c false = true := fun hcl => by rw [uM hsh hbf hcl i hlt] at hl0; cases hl0
          rw[qD hlt]at hv;unfold kV at hp;rw[qC hcl]at hp;exact sR hp (fun w' hc' =>next _ w' (by unfold kV;rw[hlc,qC hcl];exact hc') hk) (hv w hp)
        · rw [qC hlt, qC hic] at hv
          exact vG (next _ w (by unfold kV at hp ⊢;rw[hlc];exact hp) hk) (hv w)
      · rw [qC hw] at hg ⊢
        exact next _ w (by unfold kV at hp ⊢;rw[hlc];exact hp) hg
theorem bF(c:Nat){id:Nat}{Q:Exit->Act->World->Prop}{a:Act}{w:World}{l:List Oper}(C1:World->Prop)(hm:P.follows .mixedOrders=true)(hB:Region.lexB .any l.toArray=true)
    (hk:((iW .any l.toArray&&pG .any l.toArray c)&&match l[c]? with|some o=>o.guard.isNone|none=>false)=true)
    (h:dN (mL P c (fun w' =>∃n,w' =w.drewN n) C1) l.toArray (fun a' =>∀w', C1 w' -> Q .normal a' w') 0 l a):(Code.region id l.toArray true).wp P Q a w:=by
 simp only[Region.lexB,qW]at hB;rw[qW,qW]at hk;obtain⟨⟨hk1,hk3⟩,hk2⟩:=hk;have hcl:c<l.length:=by {
 cases ho:l[c]? with
 | none=>rw[ho]at hk2;cases hk2
 | some o=>exact(qS.1 ho).1};have hg:∀o,l.toArray[c]? =some o->o.guard=none:=by {
 intro o ho;simp only[List.getElem?_toArray]at ho;rw[ho]at hk2;simpa using hk2};refine wp_region_any hm (pW (Q:=fun a' =>∀w', C1 w' -> Q .normal a' w') (C0:=fun w' =>∃n,w' =w.drewN n) (C1:=C1) (c:=c) (by simpa using hcl) hk1 hk3 hg (fun _ w' hw' h=>h w' hw') _ _ _ _ (by simp) ?_ ?_ ?_)
 · intro j oj _ hl;rw[gR]at hl;cases hl
 {
 unfold kV;rw[qC (by simp[hcl])];exact⟨1,rfl⟩}
 {
 have:=sQ (G:=mL P c (fun w' =>∃n,w' =w.drewN n) C1) (md:=.any) hB.1 l 0 (Array.replicate l.toArray.size false) a (by simp) (by simpa using hB.2) h;simpa using this}
theorem bO{C0 C1:World->Prop}{Q:Act->Prop}{k:Nat}{o:Oper}{rest:List Oper}{a:Act}(hk:k<c)
    (h:∀K:Act->Prop,(∀a,dN (mL P c C0 C1) ops Q (k+1) rest a->K a)->if Region.wanted o (yielded ops a.tmps) then o.quiet P a C0 K else K (a.put o.dst undef)):dN (mL P c C0 C1) ops Q k (o::rest) a:=by
 have h:=h _ (fun _ h=>h);unfold dN;by_cases hw:Region.wanted o (yielded ops a.tmps)=true
 {
 rw[qD hw]at *;obtain⟨v,h1,h2⟩:=h;refine⟨v,?_,h2⟩;unfold mL;rw[qD hk];exact h1}
 · rw[qC hw]at *;exact h
theorem aW{C0 C1:World->Prop}{Q:Act->Prop}{o:Oper}{rest:List Oper}{a:Act}(hg:o.guard=none)(v:Value)
    (h0:∀w,C0 w->fO P C1 v ((execOp a.eval o).run P w)) (h:dN (mL P c C0 C1) ops Q (c+1) rest (a.put o.dst v)):dN (mL P c C0 C1) ops Q c (o::rest) a:=by
 unfold dN;rw[qD (by simp[Region.wanted,hg])];refine⟨v,?_,h⟩;unfold mL;rw[qC (Nat.lt_irrefl _),qD rfl];exact h0
def Oper.pure_(P:Program)(o:Oper)(a:Act)(next:Act->Prop):Prop:=∃v,(∀w,kU w v ((execOp a.eval o).run P w))/\next (a.put o.dst v)
theorem eA{C0 C1:World->Prop}{Q:Act->Prop}{k:Nat}{o:Oper}{rest:List Oper}{a:Act}(hk:c<k)
    (h:∀K:Act->Prop,(∀a,dN (mL P c C0 C1) ops Q (k+1) rest a->K a)->if Region.wanted o (yielded ops a.tmps) then Oper.pure_ P o a K else K (a.put o.dst undef)):dN (mL P c C0 C1) ops Q k (o::rest) a:=by
 have h:=h _ (fun _ h=>h);unfold dN;by_cases hw:Region.wanted o (yielded ops a.tmps)=true
 {
 rw[qD hw]at *;obtain⟨v,h1,h2⟩:=h;refine⟨v,?_,h2⟩;unfold mL;rw[qC (by omega),qC (by omega)];exact h1}
 · rw[qC hw]at *;exact h
theorem bP{C0 C1:World->Prop}{Q:Act->Prop}{k:Nat}{a:Act}(h:Q a):dN (mL P c C0 C1) ops Q k [] a:=h
attribute [go_sem] Oper.pure_ kU fO
end
end Go.Proofs.YtjdgpcjbgjnahaaGreatDoor
