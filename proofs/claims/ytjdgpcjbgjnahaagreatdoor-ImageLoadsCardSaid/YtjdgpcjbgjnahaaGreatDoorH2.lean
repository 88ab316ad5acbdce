/- intern: Copy. -/
import Derived.Test.YtjdgpcjbgjnahaaGreatDoorH1
import Derived.Maps.OwnOps
import Derived.Maps.OwnSet
import Derived.Deep.WholeRow
import Derived.StillTailTactics
import Derived.Sort.WalkA
import Derived.Sort.Walk13a
import Derived.CellFam
import Derived.BigGuard
import Derived.BigCall
import Derived.Deep.Draws
import Derived.Sort.WalkB3
import Derived.Sort.WalkB12
import Derived.Sort.WalkD1
import Derived.Sort.LotD4
import Derived.Shelf.Lay
import Derived.Shelf.Small.Bits
import Derived.Ground.Names2Prog
import Derived.Sort.Walk7
import Derived.Sort.WalkC
import Derived.Sort.WalkC4
import Derived.Sort.WalkA6
import Derived.Sort.Walk13
import Derived.Sort.AssemblyPlain
import Derived.Deep.Cut
import Derived.Deep.RegionHeld3
import Derived.Shelf.SlGeneric
import Derived.Ground.SlgnProg
import Derived.Shelf.SlicesE.Clone
set_option maxRecDepth 100000
set_option maxHeartbeats 12800000
set_option linter.unusedSimpArgs false
set_option linter.unusedVariables false
/- The contracts of package intern: New, Put, Get, ID, Del, Len, over an abstract table. -/
namespace Go.Proofs.YtjdgpcjbgjnahaaGreatDoor
open Go.RowKit
@[go_sem] theorem aSZ(a:Addr)(w:World):(binOp .eql 142 (.pointer (some a)) (.pointer (some a))).run Tryz.prog w=.ok (.bool true) w:=by
 obtain⟨j,hj⟩:=qV.1 (show(Tryz.prog.info? 211).isSome=true by kernel_rfl);exact run_eql_ptr_same w a Tryz.underlying142 hj
@[go_sem] theorem aMS(a:Addr)(w:World):(binOp .eql 142 (.pointer none) (.pointer (some a))).run Tryz.prog w=.ok (.bool false) w:=by
 have h:∀d:Nat,(Op.equalIn (d+1) 142 (.pointer none) (.pointer (some a))).run Tryz.prog w=.ok false w:=fun d=>by
   simp[Op.equalIn,run_underlying Tryz.underlying142]
 simp only[binOp];simp[Op.equal,Op.maxDepth,h 9999]
theorem fB(pt:Nat)(w:World)(hc:w.cell? ⟨pt,0,none⟩=some (ptr pt)):
    Calls Tryz.prog 143 #[ptr pt] w fun e w' =>e=.returned (.bool true)/\w=w' :=by
 go_enter Tryz.func143,Tryz.ntmps143
 go_wp2
 go_ret;exact⟨rfl,rfl⟩
structure Tb where
  A:Ar
  ids:Nat->Nat
def Tb.used(T:Tb)(i:Nat):Prop:=T.A.isUsed i
def cT(w:World)(pt:Nat)(T:Tb)(l:List Nat):Prop:=
  ∃(cpc:Nat) (rst:List Value) (pa gc n:Nat) (vi:Value) (C:Nat->Nat) (la:List Nat),
    Blk w pt 211 [ptr pt,ptr pa,vi,.slice (some ⟨gc,0,none⟩) n cpc]/\bB w pa T.A la /\
    w.ownsRow 0 36 1 vi T.A.begun (cP T.A.begun (idF T.ids))/\Blk w gc 3 (mK n C rst) /\
    l=pt::gc::(vi.ownBlock.toList++la)/\l.Nodup/\wP n/\2*T.A.slots<=n/\iS n (hm n) C T.ids T.used /\
    (∀i j,T.used i->T.used j->T.ids i=T.ids j->i=j)/\(∀i,i<T.A.begun->T.ids i<18446744073709551616)
theorem cT.same{w w' :World}{pt:Nat}{T:Tb}{l:List Nat}(h:cT w pt T l)(hs:∀b∈l,w'.heap[b]? =w.heap[b]?):cT w' pt T l:=by
 obtain⟨cpc,rst,pa,gc,n,vi,C,la,h1,h2,h3,h4,rfl,r⟩:=h;exact⟨cpc,rst,pa,gc,n,vi,C,la,h1.of_same (hs _ (by simp)),h2.same (fun b hb=>hs b (by simp[hb])),aU h3 (fun k hk=>hs k (by simp[hk])),h4.of_same (hs _ (by simp)),rfl,r⟩
theorem cT.lt{w:World}{pt:Nat}{T:Tb}{l:List Nat}(h:cT w pt T l):∀b∈l,b<w.heap.size:=by
 obtain⟨cpc,rst,pa,gc,n,vi,C,la,h1,h2,h3,h4,rfl,r⟩:=h;intro b hb;simp only[qB,qE,Option.mem_toList]at hb;rcases hb with rfl|rfl|hb|hb
 · exact h1.lt
 · exact h4.lt
 · exact(h3.lt b hb).2
 · exact h2.lt b hb
theorem cT.fr{w w' :World}{pt:Nat}{T:Tb}{l S:List Nat}(h:cT w pt T l)(hf:Fr S w w')(hd:∀b∈l,b∉S):cT w' pt T l:=
  h.same fun b hb=>hf.keep b (h.lt b hb) (hd b hb)
theorem aBN{n:Nat}{C ids:Nat->Nat}{A:Ar}(t:iS n (hm n) C ids A.isUsed)(hok:A.ok)(hn:1<n)(hs:2*A.slots<=n):∃z,z<n/\C z=0:=by
 apply qQ;intro hno;have hall:∀z,z<n->C z≠0:=fun z hz h0=>hno ⟨z,hz,h0⟩;have hnd:((List.range n).map (fun z=>C z-1)++A.free).Nodup:=by {
 rw[qN];refine⟨?_,hok.nd,?_⟩
 {
 rw[List.nodup_iff_pairwise_ne,List.pairwise_map];refine List.Pairwise.imp_of_mem ?_ (List.nodup_iff_pairwise_ne.1 List.nodup_range);intro a b ha hb hne e;simp at ha hb;have h1:=hall a ha;have h2:=hall b hb;exact hne (t.inj a b ha hb h1 (by omega))}
 {
 intro a ha b hb e;subst e;simp only[qW,List.mem_range]at ha;obtain⟨z,hz,rfl⟩:=ha;exact(t.live z hz (hall z hz)).2 hb}};have hlen:=nO hnd (n:=A.begun) (by
   intro k hk;simp only[qE,qW,List.mem_range]at hk;rcases hk with⟨z,hz,rfl⟩|hk
   · exact(t.live z hz (hall z hz)).1
   · exact hok.lt k hk)
 simp at hlen;have:=hok.hb;omega
theorem gZ{n:Nat}{C ids:Nat->Nat}{U:Nat->Prop}{id c:Nat}(t:iS n (hm n) C ids U)(hn:0<n)(h:yL n C ids id c true):∃i,c<n/\C c=i+1/\U i/\ids i=id:=by
 obtain⟨k,hk,rfl,_,h⟩:=h;rcases h with⟨h,_⟩|⟨_,h0,h⟩
 · cases h
 {
 have hc:=Nat.mod_lt (hm n id+k) hn;exact⟨C ((hm n id+k)%n)-1,hc,by omega,t.live _ hc h0,h⟩}
theorem kL{n:Nat}{C ids:Nat->Nat}{U:Nat->Prop}{id c:Nat}(t:iS n (hm n) C ids U)(hn:0<n)(h:yL n C ids id c false):
    c<n/\C c=0/\(∀i,U i->ids i≠id)/\(∀q,q<n->dst n (hm n id) q<dst n (hm n id) c->C q≠0):=by
 obtain⟨k,hk,rfl,hs,h⟩:=h;rcases h with⟨_,h0⟩|⟨h,_⟩
 {
 have hh:=aHO hn id;obtain⟨hc,hd⟩:=aQE hh hk;have hpath:∀q,q<n->dst n (hm n id) q<dst n (hm n id) ((hm n id+k)%n)->C q≠0/\ids (C q-1)≠id:=by {
 intro q hq hl;rw[hd]at hl;have:=hs _ hl;rw[(aBM hh hq).2]at this;exact this};refine⟨hc,h0,?_,fun q hq hl=>(hpath q hq hl).1⟩;intro i hu e;subst e;obtain⟨p,hp,hpc,hpp⟩:=t.at_ i hu;rcases Nat.lt_trichotomy (dst n (hm n (ids i)) p) (dst n (hm n (ids i)) ((hm n (ids i)+k)%n)) with hl|he|hg
 {
 have:=(hpath p hp hl).2;rw[hpc]at this;exact this rfl}
 {
 have:p=(hm n (ids i)+k)%n:=by {
 have h1:=(aBM hh hp).2;have h2:=(aBM hh hc).2;rw[he,h2]at h1;exact h1.symm};rw[this]at hpc;omega}
 · exact hpp _ hc hg h0}
 · cases h
theorem iA{w:World}{pt pa gc n cpc:Nat}{rst:List Value}{vi:Value}{C:Nat->Nat}{T:Tb}{la:List Nat}(id:Nat)(hid:id<18446744073709551616)
    (h1:Blk w pt 211 [ptr pt,ptr pa,vi,.slice (some ⟨gc,0,none⟩) n cpc]) (h2:bB w pa T.A la)
    (h3:w.ownsRow 0 36 1 vi T.A.begun (cP T.A.begun (idF T.ids))) (h4:Blk w gc 3 (mK n C rst)) (hM:wP n) (hs:2*T.A.slots<=n) (hT:iS n (hm n) C T.ids T.used):
    Calls Tryz.prog 171 #[ptr pt,.int .u64 id] w fun e w' =>∃(c:Nat) (b:Bool),e=.returned (.tuple #[.int .i64 c,.bool b])/\yL n C T.ids id c b/\Below w.heap.size w w' :=by
 have hok:=h2.ok;have hn:=hM.pos;have hb:=hok.hb;have hss:=hok.hs;refine aQD pt gc n cpc T.A.begun id C T.ids vi w (fun c hc=>?_) hM (by omega) hid ⟨h1.lt,h4.lt,h1.cell 3,h1.cell 2,fun c hc=>(h4.cell c).trans (kK hc)⟩ (aBN hT hok hn hs) ?_
 {
 by_cases h0:C c=0
 · omega
 · have:=(hT.live c hc h0).1;omega}
 {
 intro i hi;obtain⟨g,cap,rfl,_,hg,hc,_⟩:=dK h3 hi;exact⟨g,cap,rfl,hg,hc.trans (gY hi)⟩}
theorem aFH{w:World}{pt:Nat}{T:Tb}{l:List Nat}(h:cT w pt T l):
    Calls Tryz.prog 97 #[ptr pt] w fun e w' =>e=.returned (.int .i64 T.A.used)/\w=w' :=by
 obtain⟨cpc,rst,pa,gc,n,vi,C,la,h1,h2,h3,h4,rfl,hnd,hM,hs,hT,hinj,hb64⟩:=h;have c0:=h1.cell 0;have c1:=h1.cell 1;simp only[zJ,zK]at c0 c1;go_enter Tryz.func97,Tryz.ntmps97
 go_wp2_with (first|(go_at_call 143;refine(fB pt _ c0).mono ?_;rintro e w' ⟨rfl,rfl⟩)|(go_at_call 98;refine(oU h2).mono ?_;rintro e w' ⟨rfl,rfl⟩))
 go_ret;exact⟨rfl,rfl⟩
theorem tW{w:World}{pt:Nat}{T:Tb}{l:List Nat}{id i:Nat}(hid:id<18446744073709551616)(h:cT w pt T l)(hu:T.used i)(hi:T.ids i=id):
    Calls Tryz.prog 133 #[ptr pt,.int .u64 id] w fun e w' =>e=.returned (.tuple #[.int .i64 i,.bool true])/\Below w.heap.size w w' :=by
 obtain⟨cpc,rst,pa,gc,n,vi,C,la,h1,h2,h3,h4,rfl,hnd,hM,hs,hT,hinj,hb64⟩:=h;have c0:=h1.cell 0;have c3:=h1.cell 3;simp only[zJ,zK]at c0 c3;have hpt:=h1.lt;have hn:=hM.pos;have hn2:=hM.le;have hbl:i<65536:=by have:=h2.ok.hs;have:=h2.ok.hb;have:=hu.1;omega
 have hfind:=iA id hid h1 h2 h3 h4 hM hs hT;have HF:=qA hfind;clear hfind;have HI:=qA hi;clear hi;go_enter Tryz.func133,Tryz.ntmps133
 go_wp2_with (go_at_call 143;refine(fB pt _ c0).mono ?_;rintro e w' ⟨rfl,rfl⟩)
 refine HF.out.mono ?_;rintro e w1 ⟨c,b,rfl,hf,hB⟩;have d3:=(hB.cell (p:=⟨pt,3,none⟩) hpt).trans c3;cases b with
 | false=>exact absurd HI.out ((kL hT (by omega) hf).2.2.1 i hu)
 | true=>{
 obtain⟨j,hc,hcj,huj,hej⟩:=gZ hT (by omega) hf;obtain rfl:j=i:=hinj j i huj hu (hej.trans HI.out.symm);have dc:w1.cell? ⟨gc,c,none⟩=some (.int .i64 ((j:Int)+1)):=by rw[hB.cell (p:=⟨gc,c,none⟩) h4.lt,h4.cell,kK hc];simp[fA,hcj]
 have H1:=qA hcj;clear hcj;have H2:=qA hej;clear hej;clear hf;go_wp2
 go_ret2;exact⟨rfl,hB⟩}
theorem wR{w:World}{pt:Nat}{T:Tb}{l:List Nat}{id:Nat}(hid:id<18446744073709551616)(h:cT w pt T l)(hno:∀i,T.used i->T.ids i≠id):
    Calls Tryz.prog 133 #[ptr pt,.int .u64 id] w fun e w' =>e=.returned (.tuple #[.int .i64 0,.bool false])/\Below w.heap.size w w' :=by
 obtain⟨cpc,rst,pa,gc,n,vi,C,la,h1,h2,h3,h4,rfl,hnd,hM,hs,hT,hinj,hb64⟩:=h;have c0:=h1.cell 0;simp only[zJ]at c0;have hn:=hM.pos;have hfind:=iA id hid h1 h2 h3 h4 hM hs hT;have HF:=qA hfind;clear hfind;have HN:=qA hno;clear hno;go_enter Tryz.func133,Tryz.ntmps133
 go_wp2_with (go_at_call 143;refine(fB pt _ c0).mono ?_;rintro e w' ⟨rfl,rfl⟩)
 refine HF.out.mono ?_;rintro e w1 ⟨c,b,rfl,hf,hB⟩;cases b with
 | true=>{
 obtain⟨j,hc,hcj,huj,hej⟩:=gZ hT (by omega) hf;exact absurd hej (HN.out j huj)}
 | false=>{
 clear hf;go_wp2
 go_ret2;exact⟨rfl,hB⟩}
theorem rF{w:World}{pt:Nat}{T:Tb}{l:List Nat}{id i:Nat}(hid:id<18446744073709551616)(h:cT w pt T l)(hu:T.used i)(hi:T.ids i=id):
    Calls Tryz.prog 173 #[ptr pt,.int .u64 id] w fun e w' =>e=.returned (.tuple #[.int .i64 i,.bool false,.int .i64 0])/\Below w.heap.size w w' :=by
 obtain⟨cpc,rst,pa,gc,n,vi,C,la,h1,h2,h3,h4,rfl,hnd,hM,hs,hT,hinj,hb64⟩:=h;have c0:=h1.cell 0;have c3:=h1.cell 3;simp only[zJ,zK]at c0 c3;have hpt:=h1.lt;have hn:=hM.pos;have hn2:=hM.le;have hbl:i<65536:=by have:=h2.ok.hs;have:=h2.ok.hb;have:=hu.1;omega
 have hfind:=iA id hid h1 h2 h3 h4 hM hs hT;have HF:=qA hfind;clear hfind;have HI:=qA hi;clear hi;go_enter Tryz.func173,Tryz.ntmps173
 go_wp2_with (go_at_call 143;refine(fB pt _ c0).mono ?_;rintro e w' ⟨rfl,rfl⟩)
 refine HF.out.mono ?_;rintro e w1 ⟨c,b,rfl,hf,hB⟩;have d3:=(hB.cell (p:=⟨pt,3,none⟩) hpt).trans c3;cases b with
 | false=>exact absurd HI.out ((kL hT (by omega) hf).2.2.1 i hu)
 | true=>{
 obtain⟨j,hc,hcj,huj,hej⟩:=gZ hT (by omega) hf;obtain rfl:j=i:=hinj j i huj hu (hej.trans HI.out.symm);have dc:w1.cell? ⟨gc,c,none⟩=some (.int .i64 ((j:Int)+1)):=by rw[hB.cell (p:=⟨gc,c,none⟩) h4.lt,h4.cell,kK hc];simp[fA,hcj]
 have H1:=qA hcj;clear hcj;have H2:=qA hej;clear hej;clear hf;go_wp2
 go_ret3;exact⟨rfl,hB⟩}
theorem rZ{w:World}{pt:Nat}{T:Tb}{l:List Nat}{id:Nat}(hid:id<18446744073709551616)(h:cT w pt T l)(hno:∀i,T.used i->T.ids i≠id)(hfull:T.A.next=none):
    Calls Tryz.prog 173 #[ptr pt,.int .u64 id] w fun e w' =>e=.returned (.tuple #[.int .i64 0,.bool false,.int .i64 4])/\Below w.heap.size w w' :=by
 obtain⟨cpc,rst,pa,gc,n,vi,C,la,h1,h2,h3,h4,rfl,hnd,hM,hs,hT,hinj,hb64⟩:=h;have c0:=h1.cell 0;have c1:=h1.cell 1;simp only[zJ,zK]at c0 c1;have hpt:=h1.lt;have hn:=hM.pos;have hfind:=iA id hid h1 h2 h3 h4 hM hs hT;have HF:=qA hfind;clear hfind;have HN:=qA hno;clear hno;have HX:=qA hfull;clear hfull;go_enter Tryz.func173,Tryz.ntmps173
 go_wp2_with (go_at_call 143;refine(fB pt _ c0).mono ?_;rintro e w' ⟨rfl,rfl⟩)
 refine HF.out.mono ?_;rintro e w1 ⟨c,b,rfl,hf,hB⟩;have d1:=(hB.cell (p:=⟨pt,1,none⟩) hpt).trans c1;cases b with
 | true=>{
 obtain⟨j,hc,hcj,huj,hej⟩:=gZ hT (by omega) hf;exact absurd hej (HN.out j huj)}
 | false=>{
 clear hf;have h2' :bB w1 pa T.A la:=h2.same (fun b hb=>hB.block b (h2.lt b hb));go_wp2_with (go_at_call 172;refine(oT h2' HX.out).mono ?_;rintro e w2 ⟨rfl,hE⟩)
 go_ret3;exact⟨rfl,hB.trans ⟨hE.os,hE.tape,hE.output,by rw[hE.heap];exact qK _,fun k _=>by rw[hE.heap]⟩⟩}
theorem isUsed_alloc{A:Ar}{i:Nat}(hok:A.ok)(hn:A.next=some i):(¬A.isUsed i)/\∀j,A.alloc.isUsed j↔(A.isUsed j∨j=i):=by
 obtain⟨slots,begun,free⟩:=A;cases free with
 | cons k r=>{
 obtain rfl:k=i:=by simpa[Ar.next] using hn
 have hnd:=hok.nd;have hlt:=hok.lt k (by simp);simp only[qO]at hnd;dsimp only at hlt
 refine⟨by simp[Ar.isUsed],fun j=>?_⟩;simp only[Ar.isUsed,Ar.alloc,qB,not_or];constructor
 {
 rintro⟨a,b⟩;by_cases e:j=k
 · exact .inr e
 · exact .inl ⟨a,e,b⟩}
 {
 rintro(⟨a,_,b⟩|rfl)
 · exact⟨a,b⟩
 · exact⟨hlt,hnd.1⟩}}
 | nil=>{
 simp only[Ar.next]at hn;by_cases hb:begun<slots
 {
 rw[qD hb]at hn;obtain rfl:begun=i:=by simpa using hn
 refine⟨by simp[Ar.isUsed],fun j=>?_⟩;simp only[Ar.isUsed,Ar.alloc,List.not_mem_nil,not_false_eq_true,and_true];omega}
 · rw[qC hb]at hn;cases hn}
theorem mT{A:Ar}{i:Nat}(hok:A.ok)(hn:A.next=some i):(i<A.begun/\A.alloc.begun=A.begun)∨(i=A.begun/\A.alloc.begun=A.begun+1):=by
 obtain⟨slots,begun,free⟩:=A;cases free with
 | cons k r=>{
 obtain rfl:k=i:=by simpa[Ar.next] using hn
 exact .inl ⟨hok.lt k (by simp),rfl⟩}
 | nil=>{
 simp only[Ar.next]at hn;by_cases hb:begun<slots
 {
 rw[qD hb]at hn;obtain rfl:begun=i:=by simpa using hn
 exact .inr ⟨rfl,rfl⟩}
 · rw[qC hb]at hn;cases hn}
theorem pT(A:Ar):A.alloc.slots=A.slots:=by
 obtain⟨slots,begun,free⟩:=A;cases free<;>rfl
def Tb.put(T:Tb)(id i:Nat):Tb:={ A:=T.A.alloc,ids:=iK T.ids i id }
theorem aFI(m:Nat)(ids:Nat->Nat)(x:Nat):cP m (idF ids)++[.int .u64 x]=cP (m+1) (idF (iK ids m x)):=by
 simp only[cP,List.range_succ,List.map_append,List.map_cons,List.map_nil];congr 1
 {
 apply List.map_congr_left;intro a ha;simp at ha;simp only[idF];rw[aV (by omega)]}
 · simp[idF,bV]
theorem Tb.put_ok{n:Nat}{C:Nat->Nat}{T:Tb}{id i c:Nat}(hok:T.A.ok)(hid:id<18446744073709551616)(hM:wP n)(hT:iS n (hm n) C T.ids T.used)(hn:T.A.next=some i)
    (hinj:∀i j,T.used i->T.used j->T.ids i=T.ids j->i=j) (hb64:∀i,i<T.A.begun->T.ids i<18446744073709551616) (hf:yL n C T.ids id c false):
    c<n/\iS n (hm n) (iK C c (i+1)) (T.put id i).ids (T.put id i).used/\(∀a b,(T.put id i).used a->(T.put id i).used b->(T.put id i).ids a=(T.put id i).ids b->a=b) /\
      (∀a,a<(T.put id i).A.begun->(T.put id i).ids a<18446744073709551616):=by
 have hpos:=hM.pos;obtain⟨hc,h0,hno,hpath⟩:=kL hT (by omega) hf;obtain⟨hnu,hiff⟩:=isUsed_alloc hok hn;refine⟨hc,?_,?_,?_⟩
 · exact(hT.put hc h0 hnu hpath).congr (fun j=>(hiff j).symm) (fun _ _=>rfl)
 {
 intro a b ha hb e;simp only[Tb.put]at e;rcases(hiff a).1 ha with ha|ha<;>rcases(hiff b).1 hb with hb|hb
 {
 have na:a≠i:=fun e=>hnu (e▸ha);have nb:b≠i:=fun e=>hnu (e▸hb);rw[aV na,aV nb]at e;exact hinj a b ha hb e}
 {
 have na:a≠i:=fun e=>hnu (e▸ha);rw[aV na,hb,bV]at e;exact absurd e (hno a ha)}
 {
 have nb:b≠i:=fun e=>hnu (e▸hb);rw[aV nb,ha,bV]at e;exact absurd e.symm (hno b hb)}
 · omega}
 {
 intro a ha;simp only[Tb.put]at ha ⊢;by_cases e:a=i
 · rw[e,bV];exact hid
 {
 rw[aV e];refine hb64 a ?_;rcases mT hok hn with⟨_,h⟩|⟨_,h⟩<;>omega}}
theorem Tryz.info36:(Tryz.prog.info? 36).map (fun i=>(i.zero,i.size,i.bytes))=some (some (.int .u64 0),1,8):=by kernel_rfl
theorem aFJ{rst:List Value}{T:Tb}(vi:Value)(w2 w3:World)(pt gc n _c g' cap' :Nat)(hd:List Value)(C:Nat->Nat)(m1:Blk w2 pt 211 hd)(m4:Blk w2 gc 3 (mK n C rst))
    (hown3:w3.ownsRow 0 36 1 (.slice (some ⟨g', 0,none⟩) (T.A.begun+1) cap') (T.A.begun+1) (cP T.A.begun (idF T.ids)++[.int .u64 0]))
    (hgrow3:(w2.alloc (.cells #[.int .u64 0] 36)).grownBy w3 vi.ownBlock) (hg3:vi.ownBlock=some g' ∨ (w2.alloc (.cells #[.int .u64 0] 36)).heap.size<=g')
    (hvq:∀q,vi.ownBlock=some q->q≠pt/\q≠gc/\q<w2.heap.size):
    Blk w3 pt 211 hd/\Blk w3 gc 3 (mK n C rst)/\g' ≠ pt/\g' ≠ gc/\w3.cell? ⟨g', T.A.begun,none⟩=some (.int .u64 0)/\w3.frozen? ⟨g', T.A.begun,none⟩=false /\
      Fr vi.ownBlock.toList w2 w3/\(vi.ownBlock=some g' ∨ w2.heap.size<=g'):=by
 have hb0:∀k,k<w2.heap.size->vi.ownBlock≠some k->w3.heap[k]? =w2.heap[k]? :=by {
 intro k hk hne;rw[hgrow3.block k (by simp;omega) (fun e=>hne e.symm),Below.heap_alloc _ _ _ hk]};have hg:vi.ownBlock=some g' ∨ w2.heap.size<g' :=by {
 rcases hg3 with h|h
 · exact .inl h
 · simp at h;exact .inr (by omega)};obtain⟨g,cap,e,_,_,hc,hfz⟩:=dK hown3 (Nat.lt_succ_self _);simp only[qP,qI,Addr.mk.injEq,and_true,true_and]at e;obtain⟨rfl,_⟩:=e;refine⟨m1.of_same (hb0 pt m1.lt (fun e=>(hvq pt e).1 rfl)),m4.of_same (hb0 gc m4.lt (fun e=>(hvq gc e).2.1 rfl)),?_,?_,?_,hfz _,⟨hgrow3.os,hgrow3.tape,hgrow3.output,by have:=hgrow3.size;simp at this;omega,fun k hk hn=>hb0 k hk (fun e=>hn (by simp[e]))⟩,?_⟩
 {
 rcases hg with h|h
 · exact(hvq _ h).1
 · have:=m1.lt;omega}
 {
 rcases hg with h|h
 · exact(hvq _ h).2.1
 · have:=m4.lt;omega}
 · rw[hc,List.getElem?_append_right (by rw[eG];exact qK _)];simp[eG]
 {
 rcases hg with h|h
 · exact .inl h
 · exact .inr (by omega)}
theorem tX{w:World}{pt:Nat}{T:Tb}{l:List Nat}{id i:Nat}(hid:id<18446744073709551616)(h:cT w pt T l)(hno:∀i,T.used i->T.ids i≠id)(hnext:T.A.next=some i):
    Calls Tryz.prog 173 #[ptr pt,.int .u64 id] w fun e w' =>e=.returned (.tuple #[.int .i64 i,.bool true,.int .i64 0]) /\
      ∃l', cT w' pt (T.put id i) l' /\ Fr l w w' /\ ∀b∈l', b∈l∨w.heap.size<=b:=by
 have hltw:=h.lt;obtain⟨cpc,rst,pa,gc,n,vi,C,la,h1,h2,h3,h4,rfl,hnd,hM,hs,hT,hinj,hb64⟩:=h;have hok:=h2.ok;have c0:=h1.cell 0;have c1:=h1.cell 1;have c2:=h1.cell 2;have c3:=h1.cell 3;simp only[zJ,zK]at c0 c1 c2 c3;have hpt:=h1.lt;have hgc:=h4.lt;have hn:=hM.pos;have hn2:=hM.le;have hil:i<65536/\T.A.begun<=65536:=by {
 have:=hok.hs;have:=hok.hb;rcases mT hok hnext with⟨ha,_⟩|⟨ha,hb⟩
 · omega
 {
 have:T.A.begun<T.A.slots:=by {
 obtain⟨A,ids⟩:=T;obtain⟨slots,begun,free⟩:=A;cases free with
 | cons k r=>{
 simp[Ar.next]at hnext;subst hnext;have:=hok.lt k (by simp);dsimp only at this ha;omega}
 | nil=>{
 simp only[Ar.next]at hnext;by_cases hb:begun<slots
 · exact hb
 · rw[qC hb]at hnext;cases hnext}};omega}};obtain⟨hil,hbl⟩:=hil;have hfind:=iA id hid h1 h2 h3 h4 hM hs hT;have HF:=qA hfind;clear hfind;have HN:=qA hno;clear hno;have HX:=qA hnext;clear hnext;have hnd2:pt≠gc/\(∀q,vi.ownBlock=some q->q≠pt/\q≠gc/\q∉la)/\pt∉la/\gc∉la/\la.Nodup:=by {
 simp only[qO,qN,qB,qE,Option.mem_toList,not_or]at hnd;refine⟨hnd.1.1,fun q hq=>⟨fun e=>hnd.1.2.1 (e▸hq),fun e=>hnd.2.1.1 (e▸hq),fun hm=>hnd.2.2.2.2 q (by simpa using hq) q hm rfl⟩,hnd.1.2.2,hnd.2.1.2,hnd.2.2.2.1⟩};obtain⟨hpg,hvq,hpla,hgla,hlnd⟩:=hnd2;go_enter Tryz.func173,Tryz.ntmps173
 go_wp2_with (go_at_call 143;refine(fB pt _ c0).mono ?_;rintro e w' ⟨rfl,rfl⟩)
 refine HF.out.mono ?_;rintro e w1 ⟨c,b,rfl,hf,hB⟩;cases b with
 | true=>{
 obtain⟨j,hc,hcj,huj,hej⟩:=gZ hT (by omega) hf;exact absurd hej (HN.out j huj)}
 | false=>{
 have d1:=(hB.cell (p:=⟨pt,1,none⟩) hpt).trans c1;have h2' :bB w1 pa T.A la:=h2.same (fun b hb=>hB.block b (h2.lt b hb));have k1:Blk w1 pt _ _:=h1.of_same (hB.block pt hpt);have k4:Blk w1 gc _ _:=h4.of_same (hB.block gc hgc);have k3:=aU h3 (fun q hq=>hB.block q (h3.lt q hq).2);have HFd:=qA hf;clear hf;have hBs:=hB.size;go_wp2_with fail
 refine(iR h2' HX.out).mono ?_;rintro e w2 ⟨rfl,la', hA', hFr,hsub⟩;clear d1;have m1:Blk w2 pt _ _:=hFr.blk k1 hpla;have m4:Blk w2 gc _ _:=hFr.blk k4 hgla;have m3:=aU k3 (fun q hq=>hFr.keep q (k3.lt q hq).2 (hvq q hq).2.2);have e2:=m1.cell 2;have e3:=m1.cell 3;simp only[zJ,zK]at e2 e3;have efr:=m1.frozen;obtain⟨hc,hT', hinj', hb64'⟩:=Tb.put_ok hok hid hM hT HX.out hinj hb64 HFd.out;have ec:=m4.cell c;rw[kK hc]at ec;simp only[fA]at ec;have ecf:=m4.frozen c;have HT' :=qA hT'; clear hT';have Hinj' :=qA hinj'; clear hinj';have Hb64' :=qA hb64'; clear hb64';have Hsub:=qA hsub;clear hsub;have hsz2:=hFr.size;have HA' :=qA hA'; clear hA';rcases mT hok HX.out with⟨hlt,hbe⟩|⟨heq,hbe⟩
 {
 have Hbe:=qA hbe;clear hbe;obtain⟨g,cap,rfl,hcap,hg,hci,hfz⟩:=dK m3 hlt;rw[gY hlt]at hci;simp only[idF]at hci;have hfz' :=hfz i;clear hfz;obtain⟨hgp,hgg,hgla2⟩:=hvq g rfl;have hne:((i:Int) == (T.A.begun:Int))=false:=qR.2 (by omega);clear c0 c1 c2 c3 hvq;go_wp2
 go_ret3;have hlA:=HA'.out.lt;have hgw:g<w.heap.size:=hltw g (by simp[Value.ownBlock]);refine⟨rfl,pt::gc::([g]++la'),⟨cpc,rst,pa,gc,n,_,iK C c (i+1),la', (m1.other _ _ (fun e=>hgp e.symm)).other _ _ hpg,HA'.out.same ?_,?_,?_,rfl,?_,hM,?_,HT'.out,Hinj'.out,Hb64'.out⟩,?_,?_⟩
 {
 intro b hb;have hb' :=Hsub.out b hb;have n1:b≠g:=by rcases hb' with hb' | hb'; exact fun e=>hgla2 (e▸hb');omega
 have n2:b≠gc:=by rcases hb' with hb' | hb'; exact fun e=>hgla (e▸hb');omega
 rw[Below.heap_setCell _ _ _ _ n2,Below.heap_setCell _ _ _ _ n1]}
 {
 have hx:=cY (kI m3 hlt (.int .u64 id)) ⟨gc,c,none⟩ (.int .i64 (i+1)) (by simp[Value.ownBlock];exact hgg);rw[pS]at hx;show World.ownsRow _ 0 _ 1 _ T.A.alloc.begun (cP T.A.alloc.begun (idF (iK T.ids i id)))
 rw[Hbe.out];exact hx}
 {
 have hx:=(m4.other ⟨g,i,none⟩ (.int .u64 id) (fun e=>hgg e.symm)).set c (.int .i64 ((i+1:Nat):Int));rw[uU _ hc]at hx;exact hx}
 {
 have hla' :la'.Nodup:=by obtain⟨_,_,_,_,_,_,_,_,hq,_⟩:=HA'.out;exact hq
 have q1:∀b∈la', b≠pt/\b≠gc/\b≠g:=by {
 intro b hb;rcases Hsub.out b hb with hb' | hb'
 · exact⟨fun e=>hpla (e▸hb'),fun e=>hgla (e▸hb'),fun e=>hgla2 (e▸hb')⟩
 · exact⟨by omega,by omega,by omega⟩};simp only[qO,qN,qB,qE,List.not_mem_nil,or_false,not_or];exact⟨⟨hpg,fun e=>hgp e.symm,fun hm=>(q1 pt hm).1 rfl⟩,⟨fun e=>hgg e.symm,fun hm=>(q1 gc hm).2.1 rfl⟩,by simp,hla', fun a ha b hb=>by subst ha;exact fun e=>(q1 b hb).2.2 e.symm⟩}
 {
 show 2*T.A.alloc.slots<=n
 rw[pT];exact hs}
 {
 have f1:Fr (pt::gc::((Value.slice (some ⟨g,0,none⟩) T.A.begun cap).ownBlock.toList++la)) w w2:=((Fr.of_below hB).mono (S' :=pt::gc::((Value.slice (some ⟨g,0,none⟩) T.A.begun cap).ownBlock.toList++la)) (by simp)).trans hFr (fun b hb=>.inl (by simp[hb]));exact(f1.setCell _ _ (.inl (by simp[Value.ownBlock]))).setCell _ _ (.inl (by simp))}
 {
 intro b hb;simp only[qB,qE,List.not_mem_nil,or_false]at hb;rcases hb with rfl|rfl|rfl|hb
 · exact .inl (by simp)
 · exact .inl (by simp)
 · exact .inl (by simp[Value.ownBlock])
 {
 rcases Hsub.out b hb with hb' | hb'
 · exact .inl (by simp[hb'])
 · exact .inr (by omega)}}}
 {
 subst heq;have Hbe:=qA hbe;clear hbe;have hvl:∀q,vi.ownBlock=some q->q<w.heap.size:=fun q hq=>hltw q (by simp[hq]);have hpt2:pt<w2.heap.size:=by omega
 have hgc2:gc<w2.heap.size:=by omega
 clear c0 c1 c2 c3;obtain⟨a0,cp0,rfl⟩:=bH m3;go_wp2_with (at_builtin;refine aB rfl _ _ 104 rfl 36 (.int .u64 0) 8 Tryz.underlying104 Tryz.info36 rfl (.slice a0 T.A.begun cp0) T.A.begun _ rfl (m3.alloc _) w2.heap.size (.int .u64 0) rfl (aD _ _ _ _ rfl) rfl (by omega) (by decide) ?_;intro g' cap' w3 hown3 hgrow3 hg3;obtain⟨f1,f2,f3,f4,f5,f6,f8,f9⟩:=aFJ (T:=T) (Value.slice a0 T.A.begun cp0) w2 w3 pt gc n c g' cap' _ C m1 m4 hown3 hgrow3 hg3 (fun q hq=>⟨(hvq q hq).1,(hvq q hq).2.1,by have:=hvl q hq;omega⟩);have HO:=qA hown3;have H9:=qA f9;clear f9;have f7:=f1.frozen;clear hgrow3 hown3 hg3;have g1:=f1.cell 2;have g2:=f1.cell 3;have g3:=f2.cell c;have g4:=f2.frozen c;rw[kK hc]at g3;simp only[fA]at g3;simp only[zJ,zK]at g1 g2)
 go_ret3;have hlA:=HA'.out.lt;have hla' :la'.Nodup:=by obtain⟨_,_,_,_,_,_,_,_,hq,_⟩:=HA'.out;exact hq
 have hgl:∀b∈la', b≠g' :=by {
 intro b hb e;subst e;rcases H9.out with h9|h9
 {
 have:=hvq _ h9;rcases Hsub.out _ hb with hb' | hb'
 · exact this.2.2 hb'
 · have:=hvl _ h9;omega}
 · have:=hlA _ hb;omega};have q1:∀b∈la', b≠pt/\b≠gc:=by {
 intro b hb;rcases Hsub.out b hb with hb' | hb'
 · exact⟨fun e=>hpla (e▸hb'),fun e=>hgla (e▸hb')⟩
 · exact⟨by omega,by omega⟩};refine⟨rfl,pt::gc::([g']++la'),⟨cpc,rst,pa,gc,n,.slice (some ⟨g', 0,none⟩) (T.A.begun+1) cap', iK C c (T.A.begun+1),la', ?_,HA'.out.same ?_,?_,?_,rfl,?_,hM,?_,HT'.out,Hinj'.out,Hb64'.out⟩,?_,?_⟩
 · exact(((f1.set 2 (.slice (some ⟨g', 0,none⟩) (T.A.begun+1) cap')).other ⟨g', T.A.begun,none⟩ (.int .u64 id) (fun e=>f3 e.symm)).other ⟨gc,c,none⟩ (.int .i64 (T.A.begun+1)) hpg)
 {
 intro b hb;rw[Below.heap_setCell _ _ _ _ (q1 b hb).2,Below.heap_setCell _ _ _ _ (hgl b hb),Below.heap_setCell _ _ _ _ (q1 b hb).1];refine f8.keep b (hlA b hb) ?_;intro hm;simp only[Option.mem_toList]at hm;rcases Hsub.out b hb with hb' | hb'
 · exact(hvq b hm).2.2 hb'
 · have:=hvl b hm;omega}
 {
 have hx0:=cY HO.out ⟨pt,2,none⟩ (.slice (some ⟨g', 0,none⟩) (T.A.begun+1) cap') (by simp[Value.ownBlock];exact f3);have hx:=cY (kI hx0 (Nat.lt_succ_self _) (.int .u64 id)) ⟨gc,c,none⟩ (.int .i64 (T.A.begun+1)) (by simp[Value.ownBlock];exact f4);have e0:=aFI T.A.begun T.ids 0;simp only[Int.cast_ofNat_Int]at e0;rw[e0,pS]at hx;have e1:iK (iK T.ids T.A.begun 0) T.A.begun id=iK T.ids T.A.begun id:=by funext j;simp only[iK];split<;>rfl
 rw[e1]at hx;show World.ownsRow _ 0 _ 1 _ T.A.alloc.begun (cP T.A.alloc.begun (idF (iK T.ids T.A.begun id)))
 rw[Hbe.out];exact hx}
 {
 have hx:=((f2.other ⟨pt,2,none⟩ (.slice (some ⟨g', 0,none⟩) (T.A.begun+1) cap') (fun e=>hpg e.symm)).other ⟨g', T.A.begun,none⟩ (.int .u64 id) (fun e=>f4 e.symm)).set c (.int .i64 ((T.A.begun+1:Nat):Int));rw[uU _ hc]at hx;exact hx}
 {
 simp only[qO,qN,qB,qE,List.not_mem_nil,or_false,not_or];exact⟨⟨hpg,fun e=>f3 e.symm,fun hm=>(q1 pt hm).1 rfl⟩,⟨fun e=>f4 e.symm,fun hm=>(q1 gc hm).2 rfl⟩,by simp,hla', fun a ha b hb=>by subst ha;exact fun e=>hgl b hb e.symm⟩}
 {
 show 2*T.A.alloc.slots<=n
 rw[pT];exact hs}
 {
 have p1:Fr (pt::gc::((Value.slice a0 T.A.begun cp0).ownBlock.toList++la)) w w2:=((Fr.of_below hB).mono (S' :=pt::gc::((Value.slice a0 T.A.begun cp0).ownBlock.toList++la)) (by simp)).trans hFr (fun b hb=>.inl (by simp[hb]));have p2:=p1.trans f8 (fun b hb=>.inl (by simp at hb;simp[hb]));refine((p2.setCell _ _ (.inl (by simp))).setCell _ _ ?_).setCell _ _ (.inl (by simp));rcases H9.out with h9|h9
 · exact .inl (by simp[h9])
 · exact .inr (by simp;omega)}
 {
 intro b hb;simp only[qB,qE,List.not_mem_nil,or_false]at hb;rcases hb with rfl|rfl|rfl|hb
 · exact .inl (by simp)
 · exact .inl (by simp)
 {
 rcases H9.out with h9|h9
 · exact .inl (by simp[h9])
 · exact .inr (by omega)}
 {
 rcases Hsub.out b hb with hb' | hb'
 · exact .inl (by simp[hb'])
 · exact .inr (by omega)}}}}
theorem Tryz.info3:(Tryz.prog.info? 3).map (fun i=>(i.zero,i.size,i.bytes))=some (some (.int .i64 0),1,8):=by kernel_rfl
def Tb.new(slots:Nat):Tb:={ A:=Ar.new slots,ids:=fun _=>0 }
theorem aMT(slots:Int)(w:World)(h:slots<0∨65536<slots):
    Calls Tryz.prog 128 #[.int .i64 slots] w fun e w' =>e=.returned (.tuple #[.pointer none,.int .i64 2])/\w=w' :=by
 have H:=qA h;clear h;go_enter Tryz.func128,Tryz.ntmps128
 go_wp2_with (go_at_call 127;refine(wO slots _ H.out).mono ?_;rintro e w' ⟨rfl,rfl⟩)
 go_ret2;exact⟨rfl,rfl⟩
theorem uV(n:Nat):madeCells (Value.int .i64 0).cells n=(cP n (fA (fun _=>0))).toArray:=by
 apply Array.ext
 · simp[madeCells,cP]
 {
 intro i h1 h2;simp[madeCells,cP,fA,Value.cells,Nat.mod_one]}
theorem tY(n:Nat)(w:World)(hn:n<=1048576):(Instr.makeSlice 158 (.int .i64 n) (.int .i64 n)).run Tryz.prog w=.ok (.slice (some ⟨w.heap.size,0,none⟩) n n) (w.alloc (.cells (cP n (fA (fun _=>0))).toArray 3)):=by
 obtain⟨i0,hi,hz0,hz1,hz2⟩:=info_parts Tryz.info3;have h:=run_make (P:=Tryz.prog) w 158 3 i0 (.int .i64 0) Tryz.underlying158 hi hz0 .i64 .i64 n n (by omega) (by omega) (by rw[hz2];omega) (by omega);rw[hz1]at h;simp only[zD,Nat.mul_one]at h;rw[uV]at h;exact h
theorem aFK{j:Nat}(h:2 ^ j<131072):j<17:=by
 apply qQ;intro hn;have:2 ^ 17<=2 ^ j:=Nat.pow_le_pow_right (by decide) (by omega);omega
theorem aFL(slots:Nat)(w:World)(h:slots<=65536):
    Calls Tryz.prog 128 #[.int .i64 slots] w fun e w' =>∃pt,e=.returned (.tuple #[ptr pt,.int .i64 0])/\∃l,cT w' pt (Tb.new slots) l/\Fr [] w w' /\ ∀b∈l,w.heap.size<=b:=by
 go_enter Tryz.func128,Tryz.ntmps128
 go_wp2_with (go_at_call 127;refine(uR slots _ h).mono ?_;rintro e w1 ⟨rfl,hA,hFr⟩)
 go_loop [6] (fun a=>∃j n:Nat,1<=j/\j<=17/\n<=131072/\Hid (n=2 ^ j)/\a=.int .i64 n) (fun a=>200000-(intOf a).toNat)
 case atStart=>exact⟨1,2,by omega,by omega,by omega,qA rfl,rfl⟩
 case round=>
  obtain⟨j,n,hj1,hj2,hn1,Hn,rfl⟩:=hrel;by_cases hlt:n<2*slots
  {
  go_wp2
  go_round
  case rel=>
   have hj3:j<17:=aFK (by rw[<-Hn.out];omega);have hp:2 ^ (j+1)<=2 ^ 17:=Nat.pow_le_pow_right (by decide) (by omega);have hq:n*2=2 ^ (j+1):=by rw[Hn.out];rfl
   refine⟨j+1,n*2,by omega,by omega,by omega,qA hq,by go_num⟩
  case measure=>
   have hp:1<=n:=by rw[Hn.out];exact Nat.one_le_two_pow
   simp[intOf];omega}
  {
  have hmk:=fun W=>tY n W (by omega);go_wp2
  go_ret2;have hw:w.heap.size<w1.heap.size:=hA.lt _ (by simp);have b1:=Blk.new w1 (cP n (fA fun _=>0)) 3;have b2:=Blk.new (w1.alloc (.cells (cP n (fA fun _=>0)).toArray 3)) [ptr (w1.heap.size+1),ptr w.heap.size,.slice none 0 0,.slice (some ⟨w1.heap.size,0,none⟩) n n] 211;simp only[World.size_alloc]at b2;refine⟨w1.heap.size+1,rfl,(w1.heap.size+1)::w1.heap.size::([]++[w.heap.size]),⟨n,[],w.heap.size,w1.heap.size,n,.slice none 0 0,fun _=>0,[w.heap.size],b2,?_,World.ownsRow_nil _ _ _ _,by unfold mK;rw[List.append_nil];exact b1.alloc _,rfl,?_,?_,?_,?_,?_,?_⟩,?_,?_⟩
  {
  exact hA.same (fun b hb=>by
    simp only[qH]at hb;subst hb;rw[Below.heap_alloc _ _ _ (by simp;omega),Below.heap_alloc _ _ _ hw])}
  · simp;omega
  · rw[Hn.out];exact wP.mk' j hj1 hj2
  · show 2*slots<=n;omega
  · exact⟨fun c _ h0=>absurd rfl h0,fun c d _ _ h0=>absurd rfl h0,fun i hi=>absurd hi.1 (Nat.not_lt_zero _)⟩
  · intro i j hi;exact absurd hi.1 (Nat.not_lt_zero _)
  · intro i hi;exact absurd hi (Nat.not_lt_zero _)
  · exact(hFr.alloc _).alloc _
  · intro b hb;simp at hb;omega}
end Go.Proofs.YtjdgpcjbgjnahaaGreatDoor
namespace Go.Proofs.YtjdgpcjbgjnahaaGreatDoor
structure Md where
  slots:Nat
  L:List (Nat×Nat)
  free:List Nat
  given:Nat
namespace Md
def new(slots:Nat):Md:={ slots:=slots,L:=[],free:=[],given:=0 }
def find(M:Md)(id:Nat):Option Nat:=(M.L.find? (fun x=>x.1 == id)).map (·.2)
def idOf(M:Md)(i:Nat):Option Nat:=(M.L.find? (fun x=>x.2 == i)).map (·.1)
def next(M:Md):Option Nat:=match M.free with
  | k::_=>some k
  | []=>if M.given<M.slots then some M.given else none
def add(M:Md)(id i:Nat):Md:={ M with L:=M.L++[(id,i)],free:=M.free.tail,given:=match M.free with|[]=>M.given+1|_=>M.given }
structure PutR where
  idx:Nat
  added:Bool
  err:Nat
  M:Md
def put(M:Md)(id:Nat):PutR:=match M.find id with
  | some i=>⟨i,false,0,M⟩
  | none=>match M.next with
    | none=>⟨0,false,4,M⟩
    | some i=>⟨i,true,0,M.add id i⟩
structure DelR where
  err:Nat
  M:Md
def ar(M:Md):Ar:={ slots:=M.slots,begun:=M.given,free:=M.free }
structure Ok (M:Md):Prop where
  ar:M.ar.ok
  ids:(M.L.map (·.1)).Nodup
  idx:(M.L.map (·.2)).Nodup
  used:∀x∈M.L,M.ar.isUsed x.2
  all:∀i,M.ar.isUsed i->∃id,(id,i)∈M.L
  cnt:M.L.length+M.free.length=M.given
  u64:∀x∈M.L,x.1<18446744073709551616
theorem mem_find{M:Md}(h:(M.L.map (·.1)).Nodup){id i:Nat}(hm:(id,i)∈M.L):M.find id=some i:=by
 unfold find;generalize M.L=l at *;induction l with
 | nil=>cases hm
 | cons a r ih=>{
 simp only[List.map_cons,qO]at h;by_cases e:a.1=id
 {
 rcases qB.1 hm with rfl|hm
 · simp
 · exact absurd (qW.2 ⟨_,hm,e.symm⟩) h.1}
 {
 rcases qB.1 hm with rfl|hm
 · exact absurd rfl e
 · rw[List.find?_cons_of_neg (by simpa using e)];exact ih h.2 hm}}
theorem find_mem{M:Md}{id i:Nat}(hf:M.find id=some i):(id,i)∈M.L:=by
 unfold find at hf;simp only[Option.map_eq_some_iff]at hf;obtain⟨x,hx,rfl⟩:=hf;have h1:=List.find?_some hx;have h2:=List.mem_of_find?_eq_some hx;simp at h1;subst h1;exact h2
theorem find_iff{M:Md}(h:M.Ok){id i:Nat}:M.find id=some i↔(id,i)∈M.L:=⟨find_mem,mem_find h.ids⟩
theorem find_none{M:Md}{id:Nat}:M.find id=none↔∀i,(id,i)∉M.L:=by
 unfold find;simp only[Option.map_eq_none_iff,List.find?_eq_none,beq_iff_eq];constructor
 · intro h i hm;exact h _ hm rfl
 · rintro h ⟨a,b⟩ hm e;subst e;exact h b hm
theorem mem_idOf{M:Md}(h:(M.L.map (·.2)).Nodup){id i:Nat}(hm:(id,i)∈M.L):M.idOf i=some id:=by
 unfold idOf;generalize M.L=l at *;induction l with
 | nil=>cases hm
 | cons a r ih=>{
 simp only[List.map_cons,qO]at h;by_cases e:a.2=i
 {
 rcases qB.1 hm with rfl|hm
 · simp
 · exact absurd (qW.2 ⟨_,hm,e.symm⟩) h.1}
 {
 rcases qB.1 hm with rfl|hm
 · exact absurd rfl e
 · rw[List.find?_cons_of_neg (by simpa using e)];exact ih h.2 hm}}
theorem ok_new{slots:Nat}(h:slots<=65536):(new slots).Ok:=
  ⟨⟨h,by simp[new,ar],by simp[new,ar],by simp[new,ar]⟩,by simp[new],by simp[new],by simp[new],fun i hi=>absurd hi.1 (Nat.not_lt_zero _),rfl,by simp[new]⟩
theorem ar_next(M:Md):M.ar.next=M.next:=by
 unfold ar next Ar.next;cases M.free<;>rfl
theorem ar_add{M:Md}{id i:Nat}(h:M.next=some i):(M.add id i).ar=M.ar.alloc:=by
 obtain⟨s,L,f,g⟩:=M;cases f<;>rfl
theorem alloc_ok{A:Ar}{i:Nat}(h:A.ok)(hn:A.next=some i):A.alloc.ok:=by
 obtain⟨s,b,f⟩:=A;cases f with
 | cons k r=>refine⟨h.hs,h.hb,(qO.1 h.nd).2,fun x hx=>h.lt x (List.mem_cons_of_mem _ hx)⟩
 | nil=>{
 simp only[Ar.next]at hn;by_cases hb:b<s
 · exact⟨h.hs,by simp[Ar.alloc];omega,by simp[Ar.alloc],by simp[Ar.alloc]⟩
 · rw[qC hb]at hn;cases hn}
theorem isUsed_alloc' {A:Ar}{i:Nat}(hok:A.ok)(hn:A.next=some i):(¬A.isUsed i)/\∀j,A.alloc.isUsed j↔(A.isUsed j∨j=i):=by
 obtain⟨slots,begun,free⟩:=A;cases free with
 | cons k r=>{
 obtain rfl:k=i:=by simpa[Ar.next] using hn
 have hnd:=hok.nd;have hlt:=hok.lt k (by simp);simp only[qO]at hnd;dsimp only at hlt
 refine⟨by simp[Ar.isUsed],fun j=>?_⟩;simp only[Ar.isUsed,Ar.alloc,qB,not_or];constructor
 {
 rintro⟨a,b⟩;by_cases e:j=k
 · exact .inr e
 · exact .inl ⟨a,e,b⟩}
 {
 rintro(⟨a,_,b⟩|rfl)
 · exact⟨a,b⟩
 · exact⟨hlt,hnd.1⟩}}
 | nil=>{
 simp only[Ar.next]at hn;by_cases hb:begun<slots
 {
 rw[qD hb]at hn;obtain rfl:begun=i:=by simpa using hn
 refine⟨by simp[Ar.isUsed],fun j=>?_⟩;simp only[Ar.isUsed,Ar.alloc,List.not_mem_nil,not_false_eq_true,and_true];omega}
 · rw[qC hb]at hn;cases hn}
theorem ok_add{M:Md}(h:M.Ok){id i:Nat}(hid:id<18446744073709551616)(hf:M.find id=none)(hn:M.next=some i):(M.add id i).Ok:=by
 have hn' :M.ar.next=some i:=by rw[ar_next];exact hn
 obtain⟨hnu,hiff⟩:=isUsed_alloc' h.ar hn';have hno:=find_none.1 hf;refine⟨by rw[ar_add hn];exact alloc_ok h.ar hn', ?_,?_,?_,?_,?_,?_⟩
 {
 simp only[add,List.map_append,List.map_cons,List.map_nil,qN];refine⟨h.ids,by simp,?_⟩;intro a ha b hb e;simp only[qH]at hb;obtain⟨x,hx,rfl⟩:=qW.1 ha;exact hno x.2 (by rw[<-hb,<-e];exact hx)}
 {
 simp only[add,List.map_append,List.map_cons,List.map_nil,qN];refine⟨h.idx,by simp,?_⟩;intro a ha b hb e;simp only[qH]at hb;obtain⟨x,hx,rfl⟩:=qW.1 ha;have:=h.used x hx;rw[e,hb]at this;exact hnu this}
 {
 intro x hx;rw[ar_add hn,hiff];simp only[add,qE,qH]at hx;rcases hx with hx|rfl
 · exact .inl (h.used x hx)
 · exact .inr rfl}
 {
 intro j hj;rw[ar_add hn,hiff]at hj;rcases hj with hj|rfl
 {
 obtain⟨id', hm⟩:=h.all j hj;exact⟨id', by simp[add,hm]⟩}
 · exact⟨id,by simp[add]⟩}
 {
 have:=h.cnt;obtain⟨s,L,f,g⟩:=M;cases f with
 | nil=>simp[add]at *;omega
 | cons k r=>simp[add]at *;omega}
 {
 intro x hx;simp only[add,qE,qH]at hx;rcases hx with hx|rfl
 · exact h.u64 x hx
 · exact hid}
theorem ok_put{M:Md}(h:M.Ok){id:Nat}(hid:id<18446744073709551616):(M.put id).M.Ok:=by
 unfold put;cases hf:M.find id with
 | some i=>exact h
 | none=>{
 cases hn:M.next with
 | none=>exact h
 | some i=>exact ok_add h hid hf hn}
end Md
end Go.Proofs.YtjdgpcjbgjnahaaGreatDoor
namespace Go.Proofs.YtjdgpcjbgjnahaaGreatDoor
open Go.RowKit
def jJ(w:World)(pt:Nat)(M:Md)(l:List Nat):Prop:=
  ∃T,cT w pt T l/\T.A=M.ar/\M.Ok/\∀id i,(id,i)∈M.L↔(T.used i/\T.ids i=id)
theorem jJ.ok{w:World}{pt:Nat}{M:Md}{l:List Nat}(h:jJ w pt M l):M.Ok:=by obtain⟨_,_,_,h,_⟩:=h;exact h
theorem jJ.lt{w:World}{pt:Nat}{M:Md}{l:List Nat}(h:jJ w pt M l):∀b∈l,b<w.heap.size:=by obtain⟨_,h,_⟩:=h;exact h.lt
theorem jJ.fr{w w' :World}{pt:Nat}{M:Md}{l S:List Nat}(h:jJ w pt M l)(hf:Fr S w w')(hd:∀b∈l,b∉S):jJ w' pt M l:=by
 obtain⟨T,h,r⟩:=h;exact⟨T,h.fr hf hd,r⟩
theorem jJ.below{w w' :World}{pt:Nat}{M:Md}{l:List Nat}(h:jJ w pt M l)(hf:Below w.heap.size w w'):jJ w' pt M l:=
  h.fr (Fr.of_below hf) (by simp)
def Next(l l' :List Nat)(w w' :World):Prop:=Fr l w w' /\ ∀b∈l', b∈l∨w.heap.size<=b
theorem Next.of_below{l:List Nat}{w w' :World}(h:Below w.heap.size w w'):Next l l w w' :=⟨(Fr.of_below h).mono (by simp),fun _ h=>.inl h⟩
theorem aMU(slots:Nat)(w:World)(h:slots<=65536):
    Calls Tryz.prog 128 #[.int .i64 slots] w fun e w' =>∃pt,e=.returned (.tuple #[ptr pt,.int .i64 0])/\∃l,jJ w' pt (Md.new slots) l/\Next [] l w w' :=by
 refine(aFL slots w h).mono ?_;rintro e w' ⟨pt,rfl,l,hT,hF,hl⟩;refine⟨pt,rfl,l,⟨_,hT,rfl,Md.ok_new h,fun id i=>?_⟩,hF,fun b hb=>.inr (hl b hb)⟩;simp only[Md.new,List.not_mem_nil,false_iff,not_and];intro hu;exact absurd hu.1 (Nat.not_lt_zero _)
theorem aMV{w:World}{pt:Nat}{M:Md}{l:List Nat}(id:Nat)(hid:id<18446744073709551616)(h:jJ w pt M l):
    Calls Tryz.prog 173 #[ptr pt,.int .u64 id] w fun e w' =>e=.returned (.tuple #[.int .i64 (M.put id).idx,.bool (M.put id).added,.int .i64 (M.put id).err]) /\
      ∃l', jJ w' pt (M.put id).M l' /\ Next l l' w w' :=by
 have h0:=h;obtain⟨T,hT,hA,hok,hiff⟩:=h;cases hf:M.find id with
 | some i=>{
 have hm:=(hiff id i).1 (Md.find_mem hf);have e:M.put id=⟨i,false,0,M⟩:=by simp only[Md.put,hf]
 rw[e];refine(rF hid hT hm.1 hm.2).mono ?_;rintro e w' ⟨rfl,hB⟩;exact⟨rfl,l,h0.below hB,Next.of_below hB⟩}
 | none=>{
 have hno:∀i,T.used i->T.ids i≠id:=fun i hu e=>Md.find_none.1 hf i ((hiff id i).2 ⟨hu,e⟩);cases hn:M.next with
 | none=>{
 have e:M.put id=⟨0,false,4,M⟩:=by simp only[Md.put,hf,hn]
 rw[e];refine(rZ hid hT hno (by rw[hA,Md.ar_next];exact hn)).mono ?_;rintro e w' ⟨rfl,hB⟩;exact⟨rfl,l,h0.below hB,Next.of_below hB⟩}
 | some i=>{
 have e:M.put id=⟨i,true,0,M.add id i⟩:=by simp only[Md.put,hf,hn]
 rw[e];have hn' :T.A.next=some i:=by rw[hA,Md.ar_next];exact hn
 refine(tX hid hT hno hn').mono ?_;rintro e w' ⟨rfl,l', hT', hF,hs⟩;refine⟨rfl,l', ⟨T.put id i,hT', ?_,Md.ok_add hok hid hf hn,fun id' j=>?_⟩,hF,hs⟩
 · rw[Md.ar_add hn,<-hA];rfl
 {
 have hu:=isUsed_alloc (by rw[hA];exact hok.ar) hn';simp only[Md.add,qE,qH,zE,hiff];have hu2:(T.put id i).used j↔(T.used j∨j=i):=hu.2 j;rw[hu2];simp only[Tb.put];constructor
 {
 rintro(⟨h1,h2⟩|⟨rfl,rfl⟩)
 {
 have:j≠i:=fun e=>hu.1 (e▸h1);rw[aV this];exact⟨.inl h1,h2⟩}
 · rw[bV];exact⟨.inr rfl,rfl⟩}
 {
 rintro⟨h1,h2⟩;by_cases e:j=i
 · rw[e,bV]at h2;exact .inr ⟨h2.symm,e⟩
 · rw[aV e]at h2;exact .inl ⟨h1.resolve_right e,h2⟩}}}}
theorem aDT{w:World}{pt:Nat}{M:Md}{l:List Nat}(id:Nat)(hid:id<18446744073709551616)(h:jJ w pt M l):
    Calls Tryz.prog 133 #[ptr pt,.int .u64 id] w fun e w' =>e=.returned (.tuple #[.int .i64 ((M.find id).getD 0),.bool (M.find id).isSome])/\jJ w' pt M l/\Below w.heap.size w w' :=by
 have h0:=h;obtain⟨T,hT,hA,hok,hiff⟩:=h;cases hf:M.find id with
 | none=>{
 have hno:∀i,T.used i->T.ids i≠id:=fun i hu e=>Md.find_none.1 hf i ((hiff id i).2 ⟨hu,e⟩);refine(wR hid hT hno).mono ?_;rintro e w' ⟨rfl,hB⟩;exact⟨rfl,h0.below hB,hB⟩}
 | some i=>{
 have hm:=(hiff id i).1 (Md.find_mem hf);refine(tW hid hT hm.1 hm.2).mono ?_;rintro e w' ⟨rfl,hB⟩;exact⟨rfl,h0.below hB,hB⟩}
theorem aDU{w:World}{pt:Nat}{M:Md}{l:List Nat}(h:jJ w pt M l):
    Calls Tryz.prog 97 #[ptr pt] w fun e w' =>e=.returned (.int .i64 M.L.length)/\w=w' :=by
 obtain⟨T,hT,hA,hok,hiff⟩:=h;refine(aFH hT).mono ?_;rintro e w' ⟨rfl,rfl⟩;refine⟨aDO ?_,rfl⟩;have:=hok.cnt;rw[hA];simp only[Md.ar,Ar.used];omega
def fL(A:Ar)(i:Nat):List Nat:=(List.range i).filter fun k=> !A.free.contains k
def kM(A:Ar):List Nat:=fL A A.begun
def oV(l:List Nat):List Value:=l.map fun(x:Nat)=>.int .i64 x
theorem rG{A:Ar}{i:Nat}(h:i∉A.free):fL A (i+1)=fL A i++[i]:=by
 simp[fL,List.range_succ,List.filter_append,h]
theorem sA{A:Ar}{i:Nat}(h:i∈A.free):fL A (i+1)=fL A i:=by
 simp[fL,List.range_succ,List.filter_append,h]
theorem aBO(A:Ar)(i:Nat):(fL A i).length<=i:=zH (List.length_filter_le _ _) (by simp)
theorem uW{A:Ar}(h:A.ok):(kM A).length=A.used:=by
 unfold kM fL Ar.used;have h1:((List.range A.begun).filter fun k=> !A.free.contains k).length+((List.range A.begun).filter fun k=>A.free.contains k).length=A.begun:=by {
 rw[<-List.countP_eq_length_filter,<-List.countP_eq_length_filter];have:=List.length_eq_countP_add_countP (fun k=>A.free.contains k) (l:=List.range A.begun);simp only[List.length_range]at this;have e:(List.range A.begun).countP (fun k=> !A.free.contains k)=(List.range A.begun).countP (fun a=>decide (¬A.free.contains a=true)):=by apply List.countP_congr;intro x _;simp
 omega};have h2:((List.range A.begun).filter fun k=>A.free.contains k).length=A.free.length:=by {
 apply List.Perm.length_eq;rw[List.perm_ext_iff_of_nodup (List.filter_sublist.nodup List.nodup_range) h.nd];intro k;simp only[zA,List.mem_range,List.contains_iff_mem];exact⟨fun h=>h.2,fun hk=>⟨h.lt k hk,hk⟩⟩};omega
theorem oW{A:Ar}{k:Nat}:k∈kM A↔A.isUsed k:=by
 simp[kM,fL,Ar.isUsed]
theorem pU(A:Ar):(kM A).Nodup:=List.filter_sublist.nodup List.nodup_range
def stI(A:Ar)(k:Nat):Int:=if k∈A.free then 2 else 1
theorem yM{w:World}{pa:Nat}{A:Ar}{l:List Nat}(h:bB w pa A l){k:Nat}(hk:k<A.begun):
    Calls Tryz.prog 145 #[ptr pa,.int .i64 k] w fun e w' =>e=.returned (.int .i64 (stI A k))/\w=w' :=by
 obtain⟨v,bs,st,af,h1,h2,h3,rfl,hnd,hl,hok,hst,hch⟩:=h;have hs:=hok.hs;have hb:=hok.hb;obtain⟨g,cap,b,tm,rfl,hbk,hg1,hg2,hbp,c1,c2,c3,c4,hfz⟩:=bB.slot h2 h3 hnd hl (show k/64<bs.length by omega);have e:st k=stI A k:=by {
 unfold stI;by_cases hf:k∈A.free
 · rw[qD hf,hst.1 k hk hf]
 · rw[qC hf,hst.2 k hk hf]};rw[<-e];exact tV pa g bs.length cap b k A.begun (st k) w (h1.cell 1) (by omega) (by omega) (h1.cell 3) hk c1 c2
theorem aFM(c:Nat)(w:World)(hn:c<=1048576):(Instr.makeSlice 158 (.int .i64 0) (.int .i64 c)).run Tryz.prog w=.ok (.slice (some ⟨w.heap.size,0,none⟩) 0 c) (w.alloc (.cells (cP c (fA (fun _=>0))).toArray 3)):=by
 obtain⟨i0,hi,hz0,hz1,hz2⟩:=info_parts Tryz.info3;have h:=run_make (P:=Tryz.prog) w 158 3 i0 (.int .i64 0) Tryz.underlying158 hi hz0 .i64 .i64 0 c (by omega) (by omega) (by rw[hz2];omega) (by omega);rw[hz1]at h;simp only[zD,Nat.mul_one]at h;rw[uV]at h;exact h
theorem aFN{w:World}{e:TypeId}{cs:List Value}(c:Nat)(hc:cs.length=c)(hm:c<=1048576):(w.alloc (.cells cs.toArray e)).ownsRow 0 e 1 (.slice (some ⟨w.heap.size,0,none⟩) 0 c) 0 []:=
  ⟨rfl,.inr ⟨w.heap.size,c,cs.toArray,rfl,qS _,World.alloc_heap_new w _,qS _,by unfold maxLen;omega,by simp[hc],by simp⟩⟩
theorem bB.fr{w w' :World}{pa:Nat}{A:Ar}{l S:List Nat}(h:bB w pa A l)(hf:Fr S w w')(hd:∀b∈l,b∉S):bB w' pa A l:=
  h.same fun b hb=>hf.keep b (h.lt b hb) (hd b hb)
theorem aBP{w:World}{pa:Nat}{A:Ar}{l:List Nat}(h:bB w pa A l):
    Calls Tryz.prog 103 #[ptr pa] w fun e w' =>∃v,e=.returned v/\w'.ownsRow 0 3 1 v (kM A).length (oV (kM A))/\(∀q,v.ownBlock=some q->w.heap.size<=q)/\Fr [] w w' :=by
 have hok:=h.ok;have hs:=hok.hs;have hb:=hok.hb;have hlt:=h.lt;have HA:=qA h;obtain⟨v0,bs,st,af,h1,_⟩:=h;have c0:=h1.cell 0;have c3:=h1.cell 3;have c4:=h1.cell 4;simp only[zJ,zK]at c0 c3 c4;have hpa:=h1.lt;have husd:A.used<=65536:=by unfold Ar.used;omega
 have hmk:=aFM A.used w (by omega);have hown0:=aFN (w:=w) (e:=3) (cs:=cP A.used (fA fun _=>0)) A.used (eG _ _) (by omega);have HO0:=qA hown0;clear hown0 h1;have HLt:=qA hlt;clear hlt;have d3:(w.alloc (.cells (cP A.used (fA fun _=>0)).toArray 3)).cell? ⟨pa,3,none⟩=some (.int .i64 A.begun):=((Fr.refl [] w).alloc _).cell c3 (by simp);have HF0:Hid (Fr [] w (w.alloc (.cells (cP A.used (fA fun _=>0)).toArray 3))):=qA ((Fr.refl [] w).alloc _);go_enter Tryz.func103,Tryz.ntmps103
 go_wp2_with (go_at_call 144;refine(cS pa _ c0).mono ?_;rintro e w' ⟨rfl,rfl⟩)
 generalize w.alloc (.cells (cP A.used (fA fun _=>0)).toArray 3)=w1 at *;clear c0 c3 c4 hmk d3;go_loopw [3,17] (fun v si wr=>∃i:Nat,i<=A.begun/\si=.int .i64 i/\Hid (Fr [] w wr)/\wr.ownsRow 0 3 1 v (fL A i).length (oV (fL A i))/\Hid (∀q,v.ownBlock=some q->w.heap.size<=q)) (fun _ si _=>A.begun-(intOf si).toNat)
 case atStart=>exact⟨0,qS _,rfl,HF0,by simpa[fL,oV] using HO0.out,qA (fun q e=>by simp[Value.ownBlock]at e;omega)⟩
 case round=>
  clear HO0 HF0;obtain⟨i,hi,rfl,HF,hown,HQ⟩:=hrel;obtain⟨a8,c8,rfl⟩:=bH hown;by_cases hlt:i<A.begun
  {
  have hil:(i:Int)<A.begun:=by omega
  have HSt:=qA (yM (HA.out.fr HF.out (by simp)) hlt);have hul:=aBO A i;by_cases hf:i∈A.free
  {
  have e1:stI A i=2:=by unfold stI;rw[qD hf]
  rw[e1]at HSt;have Hu:=qA (sA hf);clear e1 hf;go_wp2_with (go_at_call 145;refine HSt.out.mono ?_;rintro e w' ⟨rfl,rfl⟩)
  go_roundw
  case rel=>exact⟨i+1,by omega,by go_num,HF,by rw[Hu.out];exact hown,HQ⟩
  case measure=>simp[intOf];omega}
  {
  have e1:stI A i=1:=by unfold stI;rw[qC hf]
  rw[e1]at HSt;have Hu:=qA (rG hf);clear e1 hf;generalize fL A i=us at *;go_wp2_with (first|(go_at_call 145;refine HSt.out.mono ?_;rintro e w' ⟨rfl,rfl⟩)|(at_builtin;refine aB rfl _ _ 158 rfl 3 (.int .i64 0) 8 Tryz.underlying158 Tryz.info3 rfl (.slice a8 us.length c8) us.length _ rfl (hown.alloc _) wr.heap.size (.int .i64 i) rfl (aD _ _ _ _ rfl) rfl (by omega) (by decide) ?_;intro g' cap' w4 hown4 hgrow4 hg4;have hF4:Fr (Value.slice a8 us.length c8).ownBlock.toList wr w4:=((Fr.refl _ _).alloc _).grown hgrow4 (fun q e=>.inl (by simp[e]))))
  go_roundw
  case rel=>
   have hs4:=HF.out.size;simp only[World.size_alloc]at hg4;refine⟨i+1,by omega,by go_num,qA (HF.out.trans hF4 (fun q hq=>.inr (HQ.out q (by simpa using hq)))),?_,qA (fun q e=>?_)⟩
   {
   rw[Hu.out,zF];have:oV (us++[i])=oV us++[.int .i64 i]:=by simp[oV]
   rw[this];exact hown4}
   {
   simp only[Value.ownBlock,qI]at e;subst e;rcases hg4 with e|e
   · exact HQ.out _ e
   · omega}
  case measure=>simp[intOf];omega}}
  {
  obtain rfl:i=A.begun:=by omega
  have Hown:=qA hown;clear hown;go_wp2
  go_ret;exact⟨_,rfl,Hown.out,HQ.out,HF.out⟩}
end Go.Proofs.YtjdgpcjbgjnahaaGreatDoor
namespace Go.Proofs.YtjdgpcjbgjnahaaGreatDoor
structure Lv where
  slot:Nat
  seq:Nat
  u:Nat
  v:Nat
  wt:Int
  t:Int
  x:Int
deriving DecidableEq
def Lv.z:Lv:=⟨0,0,0,0,0,0,0⟩
def Lv.at(e:Lv)(id:Nat):Bool:=e.u == id||e.v == id
def dQ(L:List Lv)(id:Nat):List Nat:=(L.filter fun e=>e.at id).map (·.slot)
def bM(L:List Lv)(i:Nat):Lv:=(L.find? fun e=>e.slot == i).getD Lv.z
structure Sm where
  V:Nat
  E:Nat
  last:Nat
  A:Ar
  M:Md
  L:List Lv
namespace Sm
structure Ok (s:Sm):Prop where
  ar:s.A.ok
  sl:s.A.slots=s.E
  md:s.M.Ok
  ms:s.M.slots=s.V
  used:∀i,s.A.isUsed i↔∃e∈s.L,e.slot=i
  one:(s.L.map (·.slot)).Nodup
  seq:s.L.Pairwise fun a b=>a.seq<b.seq
  last:∀e∈s.L,e.seq<=s.last
  vert:∀id,(s.M.find id).isSome=true↔dQ s.L id≠[]
  ne:∀e∈s.L,e.u≠e.v
  u64:∀e∈s.L,e.u<18446744073709551616/\e.v<18446744073709551616
  leV:s.V<=4096
  leE:s.E<=16384
  lt:s.last<18446744073709551616
def new(V E last:Nat):Sm:={ V:=V,E:=E,last:=last,A:=Ar.new E,M:=Md.new V,L:=[] }
def more(s:Sm)(u v:Nat):Nat:=(if (s.M.find u).isSome=true then 0 else 1)+if (s.M.find v).isSome=true then 0 else 1
def chk(s:Sm)(u v:Nat):Nat:=if u=v then 9 else if s.E<=s.A.used then 12 else if s.V<s.M.L.length+s.more u v then 11 else 0
def slot(s:Sm):Nat:=s.A.next.getD 0
def edge(s:Sm)(u v:Nat)(wt t x:Int):Lv:=⟨s.slot,s.last+1,u,v,wt,t,x⟩
def ins(s:Sm)(u v:Nat)(wt t x:Int):Sm:={ s with last:=s.last+1,A:=s.A.alloc,M:=((s.M.put u).M.put v).M,L:=s.L++[s.edge u v wt t x] }
end Sm
theorem uX(L:List Lv)(e:Lv)(id:Nat):dQ (L++[e]) id=dQ L id++if e.at id then [e.slot] else []:=by
 unfold dQ;rw[List.filter_append,List.map_append];congr 1
 by_cases h:e.at id=true<;>simp[h]
theorem sB{L:List Lv}{id i:Nat}:i∈dQ L id↔∃e∈L,e.at id=true/\e.slot=i:=by
 unfold dQ;simp[qW,zA,and_assoc]
theorem yN(L:List Lv)(id:Nat):(dQ L id).length<=L.length:=by
 unfold dQ;rw[List.length_map];exact List.length_filter_le _ _
theorem sC{L:List Lv}(h:(L.map (·.slot)).Nodup){e:Lv}(he:e∈L):bM L e.slot=e:=by
 unfold bM;induction L with
 | nil=>cases he
 | cons a r ih=>{
 simp only[List.map_cons,qO]at h;by_cases e0:a.slot=e.slot
 {
 rcases qB.1 he with rfl|he
 · simp
 · exact absurd (qW.2 ⟨_,he,e0.symm⟩) h.1}
 {
 rcases qB.1 he with rfl|he
 · exact absurd rfl e0
 · rw[List.find?_cons_of_neg (by simpa using e0)];exact ih h.2 he}}
theorem yO{L:List Lv}{i:Nat}(h:∀e∈L,e.slot≠i):bM L i=Lv.z:=by
 unfold bM;rw[List.find?_eq_none.2 (fun e he=>by simpa using h e he)];rfl
theorem yP{L:List Lv}{e:Lv}(h:∀x∈L,x.slot≠e.slot)(i:Nat):bM (L++[e]) i=if i=e.slot then e else bM L i:=by
 unfold bM;by_cases hi:i=e.slot
 {
 subst hi;rw[qD rfl,List.find?_append,List.find?_eq_none.2 (fun x hx=>by simpa using h x hx)];simp}
 {
 rw[qC hi,List.find?_append];have hn:(e.slot == i)=false:=by simp;omega
 simp[hn]}
theorem wS{A:Ar}(h:A.used<A.slots):∃i,A.next=some i:=by
 obtain⟨s,b,f⟩:=A;cases f with
 | nil=>{
 have hb:b<s:=by simpa[Ar.used] using h
 exact⟨b,qD hb⟩}
 | cons k r=>exact⟨k,rfl⟩
theorem sD{A:Ar}(hok:A.ok){i:Nat}(h:A.next=some i):i<A.slots:=by
 obtain⟨s,b,f⟩:=A;cases f with
 | nil=>{
 simp only[Ar.next]at h;split at h
 · cases h;assumption
 · cases h}
 | cons k r=>{
 cases h;exact Nat.lt_of_lt_of_le (hok.lt _ (List.mem_cons_self ..)) hok.hb}
theorem sE(A:Ar):A.alloc.slots=A.slots:=by
 obtain⟨s,b,f⟩:=A;cases f<;>rfl
theorem jK(M:Md)(id:Nat):(M.put id).M.slots=M.slots:=by
 unfold Md.put;cases M.find id with
 | some i=>rfl
 | none=>cases M.next<;>rfl
theorem aMW{M:Md}(h:M.Ok)(hl:M.L.length<M.slots):∃i,M.next=some i:=by
 have hc:=h.cnt;obtain⟨s,L,f,g⟩:=M;cases f with
 | nil=>{
 have hb:g<s:=by simp at hc hl;omega
 exact⟨g,qD hb⟩}
 | cons k r=>exact⟨k,rfl⟩
def aBQ(M:Md)(id:Nat):Prop:=(M.find id).isSome=true∨M.L.length<M.slots
theorem sF{M:Md}(h:M.Ok){id i:Nat}(hid:id<18446744073709551616)(hf:M.find id=none)(hn:M.next=some i)(x:Nat):(M.add id i).find x=if x=id then some i else M.find x:=by
 have hok:=Md.ok_add h hid hf hn;by_cases hx:x=id
 {
 subst hx;rw[qD rfl];exact(Md.find_iff hok).2 (by simp[Md.add])}
 {
 rw[qC hx];cases hy:M.find x with
 | some j=>exact(Md.find_iff hok).2 (by have:=Md.find_mem hy;simp[Md.add,this])
 | none=>{
 refine Md.find_none.2 fun j hm=>?_;simp only[Md.add,qE,qH,zE]at hm;rcases hm with hm|⟨e,_⟩
 · exact Md.find_none.1 hy j hm
 · exact hx e}}
theorem kN{M:Md}(h:M.Ok){id:Nat}(hid:id<18446744073709551616)(hf:aBQ M id):
    (M.put id).err=0/\(∀x,((M.put id).M.find x).isSome=true↔((M.find x).isSome=true∨x=id))/\(M.put id).M.L.length=M.L.length+(if (M.find id).isSome=true then 0 else 1)/\(M.put id).M.find id=some (M.put id).idx:=by
 unfold Md.put;cases hi:M.find id with
 | some i=>{
 refine⟨rfl,fun x=>⟨.inl,fun hx=>hx.elim (fun h=>h) fun e=>?_⟩,by simp,hi⟩;subst e;rw[hi];rfl}
 | none=>{
 have hl:M.L.length<M.slots:=hf.resolve_left (by rw[hi];simp);obtain⟨i,hn⟩:=aMW h hl;simp only[hn];refine⟨trivial,fun x=>?_,by simp[Md.add],by rw[sF h hid hi hn,qD rfl]⟩;rw[sF h hid hi hn];by_cases hx:x=id
 · simp[hx]
 · simp[hx]}
namespace Sm
section
variable {s:Sm}
theorem ok_new{V E last:Nat}(hV:V<=4096)(hE:E<=16384)(hl:last<18446744073709551616):(new V E last).Ok:=by
 refine⟨⟨by simp[new,Ar.new];omega,by simp[new,Ar.new],by simp[new,Ar.new],by simp[new,Ar.new]⟩,rfl,Md.ok_new (by omega),rfl,fun i=>?_,by simp[new],by simp[new],by simp[new],fun id=>?_,by simp[new],by simp[new],hV,hE,hl⟩
 · simp[new,Ar.new,Ar.isUsed]
 · simp[new,Md.new,Md.find,dQ]
theorem len_used(h:s.Ok):s.A.used=s.L.length:=by
 rw[<-uW h.ar];have:=((List.perm_ext_iff_of_nodup (pU s.A) h.one).2 fun i=>by rw[oW,h.used];simp).length_eq;rw[List.length_map]at this;exact this
theorem chk_ok(_h:s.Ok){u v:Nat}(hc:s.chk u v=0):u≠v/\s.A.used<s.E/\s.M.L.length+s.more u v<=s.V:=by
 unfold chk at hc;split at hc
 · cases hc
 {
 split at hc
 · cases hc
 {
 split at hc
 · cases hc
 · exact⟨by assumption,by omega,by omega⟩}}
theorem slot_next(h:s.Ok){u v:Nat}(hc:s.chk u v=0):s.A.next=some s.slot:=by
 obtain⟨i,hi⟩:=wS (A:=s.A) (by rw[h.sl];exact(chk_ok h hc).2.1);unfold slot;rw[hi];rfl
theorem fits_uv(h:s.Ok){u v:Nat}(hu:u<18446744073709551616)(hc:s.chk u v=0):aBQ s.M u/\aBQ (s.M.put u).M v:=by
 obtain⟨hne,_,hle⟩:=chk_ok h hc;unfold more at hle;have hs:=h.ms;have h1:aBQ s.M u:=by {
 unfold aBQ;by_cases hf:(s.M.find u).isSome=true
 · exact .inl hf
 · rw[qC hf]at hle;exact .inr (by omega)};obtain⟨_,p2,p3,_⟩:=kN h.md hu h1;refine⟨h1,?_⟩;unfold aBQ;rw[p2,p3,jK];by_cases hf:(s.M.find v).isSome=true
 · exact .inl (.inl hf)
 {
 rw[qC hf]at hle;refine .inr ?_;omega}
theorem ok_ins(h:s.Ok){u v:Nat}(hu:u<18446744073709551616)(hv:v<18446744073709551616)(hc:s.chk u v=0)(hl:s.last+1<18446744073709551616)(wt t x:Int):(s.ins u v wt t x).Ok:=by
 obtain⟨hne,hlt,_⟩:=chk_ok h hc;have hn:=slot_next h hc;obtain⟨f1,f2⟩:=fits_uv h hu hc;obtain⟨hnu,hiff⟩:=Md.isUsed_alloc' h.ar hn;have hnew:∀e∈s.L,e.slot≠s.slot:=fun e he ee=>hnu ((h.used _).2 ⟨e,he,ee⟩);obtain⟨_,p2,_,_⟩:=kN h.md hu f1;have hok1:=Md.ok_put h.md hu;obtain⟨_,q2,_,_⟩:=kN hok1 hv f2;refine⟨Md.alloc_ok h.ar hn,(sE _).trans h.sl,Md.ok_put hok1 hv,(jK _ _).trans ((jK _ _).trans h.ms),fun i=>?_,?_,?_,?_,fun id=>?_,?_,?_,h.leV,h.leE,hl⟩
 {
 simp only[ins];rw[hiff,h.used];simp only[qE,qH];constructor
 {
 rintro(⟨e,he,rfl⟩|rfl)
 · exact⟨e,.inl he,rfl⟩
 · exact⟨_,.inr rfl,rfl⟩}
 {
 rintro⟨e,he|rfl,rfl⟩
 · exact .inl ⟨e,he,rfl⟩
 · exact .inr rfl}}
 {
 simp only[ins,List.map_append,List.map_cons,List.map_nil,qN];refine⟨h.one,by simp,fun a ha b hb e=>?_⟩;simp only[qH]at hb;obtain⟨x,hx,rfl⟩:=qW.1 ha;exact hnew x hx (e.trans hb)}
 {
 simp only[ins];rw[List.pairwise_append];refine⟨h.seq,by simp,fun a ha b hb=>?_⟩;obtain rfl:=qH.1 hb;exact Nat.lt_succ_of_le (h.last a ha)}
 {
 intro e he;simp only[ins,qE,qH]at he;rcases he with he|rfl
 · exact Nat.le_succ_of_le (h.last e he)
 · exact qK _}
 {
 simp only[ins];rw[q2,p2,h.vert,uX];have hat:(s.edge u v wt t x).at id=true↔u=id∨v=id:=by simp[Lv.at,edge]
 by_cases h1:(s.edge u v wt t x).at id=true
 {
 rw[qD h1];refine⟨fun _=>by simp,fun _=>?_⟩;rcases hat.1 h1 with e|e
 · exact .inl (.inr e.symm)
 · exact .inr e.symm}
 {
 rw[qC h1,List.append_nil];refine⟨fun h2=>?_,fun h2=>.inl (.inl h2)⟩;rcases h2 with(h2|h2)|h2
 · exact h2
 · exact absurd (hat.2 (.inl h2.symm)) h1
 · exact absurd (hat.2 (.inr h2.symm)) h1}}
 {
 intro e he;simp only[ins,qE,qH]at he;rcases he with he|rfl
 · exact h.ne e he
 · exact hne}
 {
 intro e he;simp only[ins,qE,qH]at he;rcases he with he|rfl
 · exact h.u64 e he
 · exact⟨hu,hv⟩}
theorem live_used(h:s.Ok){i:Nat}(hu:s.A.isUsed i):bM s.L i∈s.L/\(bM s.L i).slot=i:=by
 obtain⟨e,he,rfl⟩:=(h.used i).1 hu;rw[sC h.one he];exact⟨he,rfl⟩
end
end Sm
end Go.Proofs.YtjdgpcjbgjnahaaGreatDoor
namespace Go.Proofs.YtjdgpcjbgjnahaaGreatDoor
open Go.RowKit Go.Maps
def aFO(ok:Value->Bool)(v:Value):Option (DataW Value×List MemPlace):=if ok v then some (.held v,[]) else none
theorem wT{ok:Value->Bool}{v:Value}(h:ok v=true):aFO ok v=some (.held v,[]):=by simp[aFO,h]
theorem nQ{ok:Value->Bool}{v u:Value}{ps:List MemPlace}(h:aFO ok v=some (.held u,ps)):v=u:=by
 unfold aFO at h;split at h
 · simp only[qI,zE,DataW.held.injEq]at h;exact h.1
 · cases h
theorem tZ{H:Type}{w:World}{P:Program}{k:TypeId}{R:Value->Option (DataW H×List MemPlace)}{b n:Nat}{D:DataW H}(h:w.ownsMap P k R b n D):w.ownsMap P k R b (Maps.size D) D:=by
 obtain⟨es,clock,hb,F,_,rfl⟩:=h;exact⟨es,clock,hb,F,by simp[Maps.size,length_sorted],rfl⟩
theorem wU{H:Type}{w w' :World}{P:Program}{k:TypeId}{R:Value->Option (DataW H×List MemPlace)}{b n:Nat}{D:DataW H}(h:w.ownsMap P k R b n D)(e:w'.heap[b]? =w.heap[b]?):w'.ownsMap P k R b n D:=by
 obtain⟨es,clock,hb,r⟩:=h;exact⟨es,clock,e.trans hb,r⟩
def sG(m:Int->Option Value)(a:Int)(v:Option Value):Int->Option Value:=fun x=>if x=a then v else m x
theorem gV(m:Int->Option Value)(a:Int)(v:Option Value):sG m a v a=v:=by simp[sG]
theorem eX{m:Int->Option Value}{a x:Int}{v:Option Value}(h:x≠a):sG m a v x=m x:=by simp[sG,h]
def fH(P:Program)(k:TypeId)(q:IntKind)(ok:Value->Bool)(w:World)(b:Nat)(m:Int->Option Value)(n:Nat):Prop:=
  ∃D:DataW Value,w.ownsMap P k (aFO ok) b n D/\Tidy D/\Maps.size D=n /\
    ∀a:Int,(Lit.int q a).wf=true->(Maps.has D (.int q a)=(m a).isSome/\∀v,m a=some v->ok v=true/\∀z,D.atKey (.int q a) z=.held v)
section
variable {P:Program} {k t e:TypeId} {q:IntKind} {ok:Value->Bool} {w w' :World} {b n:Nat} {m:Int->Option Value}
theorem fH.same(h:fH P k q ok w b m n)(he:w'.heap[b]? =w.heap[b]?):fH P k q ok w' b m n:=by
 obtain⟨D,h1,h2⟩:=h;exact⟨D,wU h1 he,h2⟩
theorem fH.lt(h:fH P k q ok w b m n):b<w.heap.size:=by obtain⟨D,h1,_⟩:=h;exact h1.lt
theorem fH.made(w:World)(P:Program)(k:TypeId)(q:IntKind)(ok:Value->Bool):fH P k q ok (w.alloc (.map #[] 0)) w.heap.size (fun _=>none) 0:=
  ⟨_,World.ownsMap_made w P k (aFO ok),tidy_empty,rfl,fun _ _=>⟨rfl,fun _ h=>by cases h⟩⟩
theorem fH.run_get(h:fH P k q ok w b m n)(hk:P.underlying k=some (.int q))(ht:P.underlying t=some (.map k e)){z:Value}(hz:(zeroValue e).run P w=.ok z w)(hzo:ok z=true){a:Int}(ha:(Lit.int q a).wf=true):
    (Instr.lookup t (.map (some b)) (.int q a) false).run P w=.ok ((m a).getD z) w:=by
 obtain⟨D,h1,h2,_,h3⟩:=h;obtain⟨v,ps,hr,hv⟩:=h1.lookup (int_keyed hk) ht hz (wT hzo) (keyOf_int_mk hk ha);rw[hr];cases hm:m a with
 | some u=>{
 rw[((h3 a ha).2 u hm).2]at hv;rw[nQ hv];rfl}
 | none=>{
 have hn:=(h3 a ha).1;rw[hm]at hn;rw[atKey_of_not_has hn]at hv;rw[nQ hv];rfl}
theorem fH.run_ok(h:fH P k q ok w b m n)(hk:P.underlying k=some (.int q))(ht:P.underlying t=some (.map k e)){z:Value}(hz:(zeroValue e).run P w=.ok z w)(hzo:ok z=true){a:Int}(ha:(Lit.int q a).wf=true):
    (Instr.lookup t (.map (some b)) (.int q a) true).run P w=.ok (.tuple #[(m a).getD z,.bool (m a).isSome]) w:=by
 obtain⟨D,h1,h2,_,h3⟩:=h;obtain⟨v,ps,hr,hv⟩:=h1.look_ok (int_keyed hk) ht hz (wT hzo) (keyOf_int_mk hk ha);rw[hr,(h3 a ha).1];cases hm:m a with
 | some u=>{
 rw[((h3 a ha).2 u hm).2]at hv;rw[nQ hv];rfl}
 | none=>{
 have hn:=(h3 a ha).1;rw[hm]at hn;rw[atKey_of_not_has hn]at hv;rw[nQ hv];rfl}
theorem Fr.of_turned(h:w.mapTurned w' b):Fr [b] w w' :=(Fr.refl [b] w).grown h.grown (fun k e=>.inl (by simp at e;simp[e]))
theorem mU(q:IntKind)(a:Int):WideAt.IsKeyLit (.int q a):=trivial
theorem fH.put(h:fH P k q ok w b m n)(hk:P.underlying k=some (.int q))(ht:P.underlying t=some (.map k e))(hn:n<maxLen){a:Int}(ha:(Lit.int q a).wf=true){v:Value}(hv:ok v=true):
    ∃w', (Instr.mapUpdate t (.map (some b)) (.int q a) v).run P w=.ok () w' /\ fH P k q ok w' b (sG m a (some v)) (if (m a).isSome then n else n+1)/\Fr [b] w w' :=by
 obtain⟨D,h1,h2,hs,h3⟩:=h;obtain⟨w', hr,h1', hT⟩:=h1.store (int_keyed hk) ht hn (keyOf_int_mk hk ha) (wT hv);refine⟨w', hr,⟨D.put (.int q a) (.held v),?_,h2.put (mU q a) _,?_,fun x hx=>?_⟩,Fr.of_turned hT⟩
 {
 have:=tZ h1';rw[size_put h2,(h3 a ha).1,hs]at this;exact this}
 · rw[size_put h2,(h3 a ha).1,hs]
 {
 by_cases e:x=a
 {
 subst e;rw[gV];refine⟨has_put_same h2.isMap (mU q x) _,fun u hu=>?_⟩;cases hu;exact⟨hv,fun z=>atKey_put_same h2.isMap (mU q x) _ z⟩}
 {
 have hne:(Lit.int q x)≠.int q a:=fun h=>e (by injection h);rw[eX e,has_put_other hne];exact⟨(h3 x hx).1,fun u hu=>⟨((h3 x hx).2 u hu).1,fun z=>by rw[atKey_put_other hne];exact((h3 x hx).2 u hu).2 z⟩⟩}}
end
theorem rH{P:Program}{w:World}{ops:Array Oper}{rest:List Oper}{o:Oper}{act:Act}{Q:Exit->Act->World->Prop}(hg:o.guard=none)(mo x v:Operand)(t:TypeId)(hop:o.op=Op.mapUpdate t mo x v)
    {k e:TypeId} {q:IntKind} {ok:Value->Bool} {b n:Nat} {m:Int->Option Value} (h:fH P k q ok w b m n) (hk:P.underlying k=some (.int q)) (ht:P.underlying t=some (.map k e)) (hn:n<maxLen)
    (hm:act.eval mo=.map (some b)) (a:Int) (hx:act.eval x=.int q a) (ha:(Lit.int q a).wf=true) (u:Value) (hv:act.eval v=u) (hu:ok u=true)
    (hK:∀w', fH P k q ok w' b (sG m a (some u)) (if (m a).isSome then n else n+1)->Fr [b] w w' -> wpList P ops Q rest (act.put o.dst undef) w'):wpList P ops Q (o::rest) act w:=by
 refine wpList_plain hg fun K' hK' =>?_;obtain⟨w', hrun,r1,r2⟩:=h.put hk ht hn ha hu;unfold Oper.wp;simp[execOp,hop,hm,hx,hv,hrun,Result.andThen];exact hK' _ _ (hK w' r1 r2)
end Go.Proofs.YtjdgpcjbgjnahaaGreatDoor
namespace Go.Proofs.YtjdgpcjbgjnahaaGreatDoor
open Go.RowKit
end Go.Proofs.YtjdgpcjbgjnahaaGreatDoor
namespace Go.Proofs.YtjdgpcjbgjnahaaGreatDoor
open Go.RowKit Go.Sort
def encU(d:Array Int):List Value:=d.toList.map (Value.int .u64)
structure SR (w wr:World) (blk off:Nat) (d:Array Int):Prop where
  off0:off=0
  row:∃rest,Blk wr blk 36 (encU d++rest)/\∃l0,Blk w blk 36 l0/\l0.length=d.size+rest.length
  fr:Fr [blk] w wr
section
variable {w wr:World} {blk off:Nat} {d:Array Int}
end
structure SM (w wr:World) (blk off:Nat) (d:Array Int) (sb s:Nat):Prop where
  sr:SR w wr blk off d
  cnt:Blk wr sb 3 [.int .i64 s]
  ne:sb≠blk
  new:w.heap.size<=sb
section
variable {w wr:World} {blk off:Nat} {d:Array Int} {sb s:Nat}
end
def Tryz.laysLen_ren:Go.Shelf.Ren:=⟨fun|125=>147|128=>193|129=>194|n=>n,fun|46=>27|3=>3|51=>23|53=>36|4=>4|5=>5|9=>9|n=>n,fun|n=>n⟩
theorem Tryz.laysLen:Go.Proofs.Lays.n125 Tryz.prog Tryz.laysLen_ren:={
  mixed:=by kernel_rfl
  f125:=Tryz.func147.trans (congrArg some (by kernel_rfl))
  f128:=Tryz.func193.trans (congrArg some (by kernel_rfl))
  f129:=Tryz.func194.trans (congrArg some (by kernel_rfl))
  t3:=Tryz.underlying3
  a3:=Tryz.isAgg3
  z3:=Tryz.sizeOf3
  v3:=Tryz.zeroValue3
  t4:=Tryz.underlying4
  a4:=Tryz.isAgg4
  z4:=Tryz.sizeOf4
  v4:=Tryz.zeroValue4
  t5:=Tryz.underlying5
  a5:=Tryz.isAgg5
  z5:=Tryz.sizeOf5
  v5:=Tryz.zeroValue5
  t9:=Tryz.underlying9
  a9:=Tryz.isAgg9
  z9:=Tryz.sizeOf9
  v9:=Tryz.zeroValue9
  t46:=Tryz.underlying27
  a46:=Tryz.isAgg27
  z46:=Tryz.sizeOf27
  v46:=Tryz.zeroValue27
  t51:=Tryz.underlying23
  a51:=Tryz.isAgg23
  z51:=Tryz.sizeOf23
  v51:=Tryz.zeroValue23
  t53:=Tryz.underlying36
  a53:=Tryz.isAgg36
  z53:=Tryz.sizeOf36
  v53:=Tryz.zeroValue36 }
structure SX (w wr:World) (blk off:Nat) (d:Array Int) (rb R:Nat):Prop where
  sr:SR w wr blk off d
  cnt:Blk wr rb 292 [.int .u64 R]
  ne:rb≠blk
  new:w.heap.size<=rb
section
variable {w wr:World} {blk off:Nat} {d:Array Int} {rb R:Nat}
end
structure PdqR (d:Array Int) (a b lim:Nat) (wb wp:Bool) (R:Rd Int):Prop where
  bal:wb=true->R.d1=d/\R.lim=lim
  unb:wb=false->R.d1=breakPatterns d a b/\R.lim=lim-1
  c:R.c=choosePivot ltInt R.d1 a b
  dec:R.c.2=.decreasing->R.d2=reverseRange R.d1 a b/\R.pivot=(b-1)-(R.c.1-a)/\R.hint=.increasing
  ndec:R.c.2≠.decreasing->R.d2=R.d1/\R.pivot=R.c.1/\R.hint=R.c.2
  yes:(wb&&wp&&decide (R.hint=.increasing))=true->R.pi=partialInsertionSort ltInt R.d2 a b
  no:(wb&&wp&&decide (R.hint=.increasing))=false->R.pi=(R.d2,false)
  s1:R.d1.size=d.size
  c1:a<=R.c.1/\R.c.1<b
  s2:R.d2.size=d.size
  pv:a<=R.pivot/\R.pivot<b
  s3:R.pi.1.size=d.size
  B3:Sort.Below ltInt a b R.pi.1
  lm:R.lim<=lim
  done:R.pi.2=true->pdq ltInt d a b lim wb wp=R.pi.1
  eq:R.pi.2=false->(decide (a>0)&&!ltInt R.pi.1[a-1]! R.pi.1[R.pivot]!)=true->∀mid d4,partitionEqual ltInt R.pi.1 a b R.pivot=(mid,d4)->a<mid/\mid<=b->pdq ltInt d a b lim wb wp=pdq ltInt d4 mid b R.lim wb wp
  left:R.pi.2=false->(decide (a>0)&&!ltInt R.pi.1[a-1]! R.pi.1[R.pivot]!)=false->∀mid ap d4,partition ltInt R.pi.1 a b R.pivot=(mid,ap,d4)->a<=mid/\mid<b->mid-a<b-mid ->
    pdq ltInt d a b lim wb wp=pdq ltInt (pdq ltInt d4 a mid R.lim true true) (mid+1) b R.lim (decide (mid-a≥(b-a)/8)) ap
  right:R.pi.2=false->(decide (a>0)&&!ltInt R.pi.1[a-1]! R.pi.1[R.pivot]!)=false->∀mid ap d4,partition ltInt R.pi.1 a b R.pivot=(mid,ap,d4)->a<=mid/\mid<b->¬mid-a<b-mid ->
    pdq ltInt d a b lim wb wp=pdq ltInt (pdq ltInt d4 (mid+1) b R.lim true true) a mid R.lim (decide (b-mid≥(b-a)/8)) ap
end Go.Proofs.YtjdgpcjbgjnahaaGreatDoor
namespace Go.Proofs.YtjdgpcjbgjnahaaGreatDoor
open Go.RowKit
def iG(l:List Nat):List Value:=l.map fun(x:Nat)=>.int .u64 x
def nR(l:List Nat):List Nat:=l.mergeSort (fun x y=>decide (x<=y))
theorem aFP(l:List Nat):(nR l).length=l.length:=by simp[nR]
end Go.Proofs.YtjdgpcjbgjnahaaGreatDoor
