/- What the laws of images have in common. -/
import Derived.Test.YtjdgpcjbgjnahaaGreatDoorB13
import Derived.Test.YtjdgpcjbgjnahaaGreatDoorB1
import Derived.Test.YtjdgpcjbgjnahaaGreatDoorB11
import Derived.Test.YtjdgpcjbgjnahaaGreatDoorB3
import Derived.Test.YtjdgpcjbgjnahaaGreatDoorB9
import Derived.Test.YtjdgpcjbgjnahaaGreatDoorB12
set_option maxRecDepth 10000
set_option maxHeartbeats 1600000
set_option linter.unusedSimpArgs false
set_option linter.unusedVariables false
/- 'append' of bytes that may only be read to a row of bytes, among other things; the fields of an image. -/
namespace Go.Proofs.YtjdgpcjbgjnahaaGreatDoor
open Go.RowKit
theorem aKK{P:Program}{W w:World}{ts:List Th}{v:Value}{l ns:List Nat}(h:Wd W w (thY v l::ts))(t ty:TypeId)(i:TypeInfo)(z:Value)(ht:P.underlying t=some (.slice 5))(hi:P.info? 5=some i)(hz:i.zero=some z)(hsize:i.size=1)(hby:i.bytes=1)(hzs:z.cells.size=1)
    (ax:Option Addr) (m c:Nat) (hr:RdB w ax ns) (hm:ns.length=m) (hc:ax=none->c=0) (hl:l.length+m<=1073741824):
    ∃v' w', (Builtin.append_ #[t,t] ty #[v,.slice ax m c]).run P w=.ok v' w' /\ Wd W w' (thY v' (l++ns)::ts):=by
 obtain⟨K,⟨hv,rfl⟩,hs⟩:=h.open;cases ax with
 | none=>{
 have hn:ns=[]:=by {
 cases ns with
 | nil=>rfl
 | cons x ns=>obtain⟨b,off,e,_⟩:=hr 0 (by simp);cases e};subst hn;rw[hc rfl,<-hm];refine⟨_,_,run_append_owned_none w 0 t ty 5 i 1 ht hi _ l.length (bU l) hv,?_⟩;rw[List.append_nil];exact hs ⟨_,⟨hv,rfl⟩,Fr.refl _ _,fun q hq=>.inl hq⟩}
 | some ad=>{
 obtain⟨v', w', hr2,h2,h3,_,h5⟩:=run_append_own_at (P:=P) w 0 t ty 5 i z 1 1 ht hi hz hsize hby hzs (by decide) v l.length (bU l) hv ad m c (bU ns) (by rw[rW,hm]) hr.cells (aGT ns) (by unfold maxLen;omega) (by omega) (qR _);refine⟨v', w', hr2,hs ⟨_,⟨?_,rfl⟩,⟨h3.os,h3.tape,h3.output,h3.size,fun k hk hn=>h3.block k hk (fun e=>hn (by simp[<-e]))⟩,fun q hq=>?_⟩⟩
 {
 unfold dP;rw[zE,hm,nJ];exact h2}
 {
 rcases h5 with h5|h5
 · rw[h5]at hq;exact .inl hq
 · rw[h5]at hq;simp at hq;exact .inr (by omega)}}
theorem pZ{P:Program}{W w:World}{ts:List Th}{v:Value}{l ns:List Nat}(h:Wd W w (thY v l::ts)){ops:Array Oper}{rest:List Oper}{o:Oper}{a:Act}{Q:Exit->Act->World->Prop}(hgd:o.guard=none)(s x:Operand)(t:TypeId)
    (ho:o.op=.call { callee:=.builtin .append,args:=#[s,x],argTypes:=#[t,t] }) (z:Value) (ht:P.underlying t=some (.slice 5)) (hinfo:(P.info? 5).map (fun i=>(i.zero,i.size,i.bytes))=some (some z,1,1)) (hzs:z.cells.size=1)
    (ax:Option Addr) (m c:Nat) (hsv:a.eval s=v) (hx:a.eval x=.slice ax m c) (hr:RdB w ax ns) (hm:ns.length=m) (hc:ax=none->c=0) (hl:l.length+m<=1073741824)
    (k:∀v' w', Wd W w' (thY v' (l++ns)::ts)->wpList P ops Q rest (a.put o.dst v') w'):wpList P ops Q (o::rest) a w:=by
 obtain⟨i0,hi,hz0,hz1,hz2⟩:=info_parts hinfo;refine wpList_plain hgd fun K hK=>?_;obtain⟨v', w', hr2,h2⟩:=aKK (P:=P) h t o.type i0 z ht hi hz0 hz1 hz2 hzs ax m c hr hm hc hl;unfold Oper.wp execOp;simp only[ho,resolve,invoke,builtin,Sem.run_bind,Sem.run_pure,Result.andThen_ok,List.map_toArray,List.map_cons,List.map_nil,hsv,hx,hr2];exact hK _ _ (k v' w' h2)
theorem aAX{b m:List Nat}{i n:Nat}(h:i+n<=b.length):sub (b++m) i n=sub b i n:=by
 have e:=lB (b:=b++m) (i:=i) (n:=n) (k:=b.length) h;rw[List.take_left]at e;exact e.symm
theorem Ob.Pc.img_cnt{o:Ob}(h:o.Pc)(k:o.Ok):aI (sub o.img 45 8)=o.last/\aI (sub o.img 53 8)=o.gone:=by
 obtain⟨h1,h2,h3,h4,h5,h6,h7⟩:=h.ins k;have e:=aNH h1 h2 h3 h4 h5 h6 h7 (h.fit4 k) (beN 4 (crc (dI o.m o.E o.V o.D o.now o.last o.gone (o.L.map lvR)))) (aQ 4 _);unfold aQG at e;simp only[zD]at e;exact⟨e.2.2.2.2.2.1,e.2.2.2.2.2.2.1⟩
theorem Ob.Pc.img_cut{o:Ob}(h:o.Pc)(k:o.Ok){n:Nat}(hn:n<o.img.length):(cA (o.img.take n)).2=none/\((cA (o.img.take n)).1=15∨(cA (o.img.take n)).1=17):=by
 have hl:=o.img_len;have hlen:(o.img.take n).length=n:=by rw[List.length_take];omega
 by_cases h65:n<65
 · rw[pY (by omega)];exact⟨rfl,.inl rfl⟩
 {
 obtain⟨c1,c2⟩:=h.img_cnt k;have e:=k.last;exact aAR (n:=o.L.length) (by rw[lB (by omega),lB (by omega),c1,c2];omega) (by omega)}
theorem Ob.Pc.img_more{o:Ob}(h:o.Pc)(k:o.Ok){m:List Nat}(hm:m≠[]):(cA (o.img++m)).2=none/\((cA (o.img++m)).1=15∨(cA (o.img++m)).1=17):=by
 have hl:=o.img_len;obtain⟨c1,c2⟩:=h.img_cnt k;have e:=k.last;have hp:0<m.length:=List.length_pos_iff.2 hm;exact aAR (n:=o.L.length) (by rw[aAX (by omega),aAX (by omega),c1,c2];omega) (by rw[zE];omega)
theorem aAY:rA Tryz.prog 88 [.i .u8,.i .u8,.i .u8,.i .i64]:=by
 refine rA.struct Tryz.underlying88 (by kernel_rfl) (fun j k hj=>?_);have hi:rA Tryz.prog 5 [.i .u8]:=rA.int Tryz.underlying5 (by kernel_rfl);have hb:rA Tryz.prog 2 [.i .i64]:=rA.int Tryz.underlying2 (by kernel_rfl);match j,hj with
 | 0,hj=>exact⟨0,_,_,rfl,hi,by decide,hj⟩
 | 1,hj=>exact⟨1,_,_,rfl,hi,by decide,hj⟩
 | 2,hj=>exact⟨2,_,_,rfl,hi,by decide,hj⟩
 | 3,hj=>exact⟨3,_,_,rfl,hb,by decide,hj⟩
 | j+4,hj=>simp at hj
abbrev Mv:=Nat×Nat×Nat×Int
def Mv.ok(m:Mv):Prop:=m.1<256/\m.2.1<256/\m.2.2.1<256/\ -9223372036854775808<=m.2.2.2/\m.2.2.2<=9223372036854775807
def pK(w:World)(a:Option Addr)(len:Nat)(z:Nat->Mv):Prop:=
  len<=9223372036854775807/\∀i,i<len->∃b off,a=some ⟨b,off,none⟩/\b<w.heap.size/\w.cell? ⟨b,off+i*4,none⟩=some (.int .u8 (z i).1)/\w.cell? ⟨b,off+i*4+1,none⟩=some (.int .u8 (z i).2.1) /\
    w.cell? ⟨b,off+i*4+2,none⟩=some (.int .u8 (z i).2.2.1)/\w.cell? ⟨b,off+i*4+3,none⟩=some (.int .i64 (z i).2.2.2)/\(z i).ok
theorem aEK{a:Int}(h:(Lit.int .u8 a).wf=true):∃n:Nat,a=n/\n<256:=by
 have h:(decide ((0:Int)<=a)&&decide (a<=255))=true:=h;simp only[qW,decide_eq_true_eq]at h;exact⟨a.toNat,by omega,by omega⟩
theorem aQP{a:Int}(h:(Lit.int .i64 a).wf=true):-9223372036854775808<=a/\a<=9223372036854775807:=by
 have h:(decide ((-9223372036854775808:Int)<=a)&&decide (a<=9223372036854775807))=true:=h;simp only[qW,decide_eq_true_eq]at h;exact h
theorem aNM{H:Type}{enc:TypeId×Value->H}{W:World}{a:Option Addr}{len cap:Nat}{d:DataW H}{p:List MemPlace}
    (h:DataW.Trod enc Tryz.prog W 0 (fun _=>true) true 67 (.slice a len cap) d p):∃z,pK W a len z:=by
 obtain⟨z,hz⟩:=aEM Tryz.underlying67 aAY (by decide) h;have key:∀i,∃u:Mv,i<len->z i 0=.int .u8 u.1/\z i 1=.int .u8 u.2.1/\z i 2=.int .u8 u.2.2.1/\z i 3=.int .i64 u.2.2.2/\u.ok:=by {
 intro i;by_cases hi:i<len
 {
 obtain⟨b,off,rfl,_,h1⟩:=hz.2 i hi;obtain⟨n0,e0,w0⟩:=(h1 0 _ rfl).2;obtain⟨n1,e1,w1⟩:=(h1 1 _ rfl).2;obtain⟨n2,e2,w2⟩:=(h1 2 _ rfl).2;obtain⟨n3,e3,w3⟩:=(h1 3 _ rfl).2;obtain⟨m0,rfl,k0⟩:=aEK w0;obtain⟨m1,rfl,k1⟩:=aEK w1;obtain⟨m2,rfl,k2⟩:=aEK w2;have k3:=aQP w3;exact⟨(m0,m1,m2,n3),fun _=>⟨e0,e1,e2,e3,k0,k1,k2,k3.1,k3.2⟩⟩}
 · exact⟨(0,0,0,0),fun h=>absurd h hi⟩};obtain⟨F,hF⟩:=Classical.axiomOfChoice key;refine⟨F,hz.1,fun i hi=>?_⟩;obtain⟨b,off,rfl,hb,h1⟩:=hz.2 i hi;obtain⟨e0,e1,e2,e3,e4⟩:=hF i hi;refine⟨b,off,rfl,hb,?_,?_,?_,?_,e4⟩
 · rw[<-e0];exact(h1 0 _ rfl).1
 · rw[<-e1];exact(h1 1 _ rfl).1
 · rw[<-e2];exact(h1 2 _ rfl).1
 · rw[<-e3];exact(h1 3 _ rfl).1
def Ob.mvT(o:Ob)(m:Mv):Int:=o.now+(m.1%8:Nat)
def lZ(x:Nat):Nat:=x*1099511627776
def Ob.mvO(o:Ob)(m:Mv):Ob:=if m.2.1%16=m.2.2.1%16 then o.tickS (o.mvT m) else o.add (lZ (m.2.1%16)) (lZ (m.2.2.1%16)) m.2.2.2 (o.mvT m)
def Ob.mvE(o:Ob)(m:Mv):Int:=if m.2.1%16=m.2.2.1%16 then dD o.m o.now (o.mvT m) else(o.addC (lZ (m.2.1%16)) (lZ (m.2.2.1%16)) (o.mvT m):Nat)
structure Bp (s k:Nat) (o:Ob):Prop where
  pc:o.Pc
  s256:s<256
  m:o.m=1+s
  E:o.E=12
  V:o.V=9
  D:o.D=5
  now0:0<=o.now
  now:o.now<=7*k
  last:o.last<=k
  gone:o.gone<=k
theorem Bp.new{s:Nat}(hs:s<256):Bp s 0 (Ob.new (1+s) 12 9 5 0):=
  ⟨aKC (gS.2 (by omega)),hs,rfl,rfl,rfl,rfl,Int.le_refl _,Int.le_refl _,qJ _,qJ _⟩
theorem Bp.mono{s k j:Nat}{o:Ob}(h:Bp s k o)(hj:k<=j):Bp s j o:=⟨h.pc,h.s256,h.m,h.E,h.V,h.D,h.now0,by have:=h.now;omega,by have:=h.last;omega,by have:=h.gone;omega⟩
theorem Bp.tick{s k:Nat}{o:Ob}(h:Bp s k o)(ho:o.Ok){t:Int}(h0:0<=t)(ht:t<=7*(k+1:Nat)):Bp s (k+1) (o.tick t):=by
 refine⟨h.pc.tick t,h.s256,h.m,h.E,h.V,h.D,h0,ht,by have:=h.last;show o.last<=_;omega,?_⟩;show o.gone+(o.L.length-(o.left t).length)<=_
 have h1:=ho.last;have h2:=h.last;omega
theorem Bp.mv{s k:Nat}{o:Ob}(h:Bp s k o)(ho:o.Ok){m:Mv}(hm:m.ok):Bp s (k+1) (o.mvO m):=by
 have hd:m.1%8<8:=Nat.mod_lt _ (by decide);have h0:0<=o.mvT m:=by have:=h.now0;unfold Ob.mvT;omega
 have h1:o.mvT m<=7*(k+1:Nat):=by have:=h.now;unfold Ob.mvT;omega
 unfold Ob.mvO;split
 {
 unfold Ob.tickS;split
 · exact h.tick ho h0 h1
 · exact h.mono (Nat.le_succ k)}
 {
 have hp:=h.pc.add (lZ (m.2.1%16)) (lZ (m.2.2.1%16)) (wt:=m.2.2.2) ⟨hm.2.2.2.1,hm.2.2.2.2⟩ (o.mvT m);unfold Ob.add at hp ⊢;split
 {
 rename_i hc;rw[qD hc]at hp;have k1:=h.tick ho h0 h1;exact⟨hp,k1.s256,k1.m,k1.E,k1.V,k1.D,k1.now0,k1.now,by have:=h.last;show o.last+1<=_;omega,k1.gone⟩}
 · exact h.mono (Nat.le_succ k)}
theorem vY{x:Nat}(h:x<16):IntKind.u64.wrap ((x:Int)*1099511627776)=((lZ x:Nat):Int):=by unfold lZ;rw[IntKind.wrap_u64];omega
theorem aEL{x:Nat}(h:x<16):lZ x<18446744073709551616:=by unfold lZ;omega
theorem aQQ{W w:World}{ts:List Th}{p s k:Nat}{o:Ob}(h:Wd W w (thO p o::ts))(hB:Bp s k o)(hk:k<=100000)(m:Mv)(hm:m.ok):
    Calls Tryz.prog 45 #[dY p,.agg #[.int .u8 m.1,.int .u8 m.2.1,.int .u8 m.2.2.1,.int .i64 m.2.2.2]] w fun e w' =>e=.returned (.int .i64 (o.mvE m))/\Wd W w' (thO p (o.mvO m)::ts):=by
 obtain⟨a,u,v,wt⟩:=m;obtain⟨ha,hu,hv,hw1,hw2⟩:=hm;simp only at ha hu hv hw1 hw2;have hW0:=(h.new (t:=thB w.heap.size 88 [.int .u8 (a:Nat),.int .u8 (u:Nat),.int .u8 (v:Nat),.int .i64 wt]) (K:=[w.heap.size]) ((Fr.refl [] w).alloc (.cells #[.int .u8 (a:Nat),.int .u8 (u:Nat),.int .u8 (v:Nat),.int .i64 wt] 88)) ⟨Blk.new w _ _,rfl⟩ (by simp)).swap;have HW0:=qA hW0;have hnow0:=hB.now0;have hnow:=hB.now;obtain⟨now,hnw⟩:∃now,now=o.now:=⟨_,rfl⟩;have HC:=qA (fun w' (h:Wd W w' (thO p o::thB w.heap.size 88 [.int .u8 (a:Nat),.int .u8 (u:Nat),.int .u8 (v:Nat),.int .i64 wt]::ts)) j=>h.swap.blk.cell j);rw[<-hnw]at hnow0 hnow;have hbw:IntKind.i64.wrap ((a:Int).tmod 8)=((a%8:Nat):Int):=by rw[Int.tmod_eq_emod_of_nonneg (by omega)];simp[IntKind.wrap,IntKind.bits,IntKind.signed];omega
 have hb4:((a:Int)%8)=((a%8:Nat):Int):=by omega
 have hb3:a%8<8:=Nat.mod_lt _ (by omega);have HT:Hid (o.mvT (a,u,v,wt)=now+(a%8:Nat)):=qA (by unfold Ob.mvT;rw[hnw]);generalize a%8=dt at *;have HN:=qA hnw;obtain⟨t,ht⟩:∃t,t=now+dt:=⟨_,rfl⟩;have hwt:IntKind.i64.wrap (now+dt)=t:=by rw[ht];exact zF _ (by omega)
 rw[<-ht]at HT;have ht0:0<=t:=by omega
 have ht1:t<=1000000:=by omega
 have Ht:=qA ht;clear hW0 hnw ht h hnow hnow0;go_enter Tryz.func45,Tryz.ntmps45
 go_wp2_with fail
 refine dQ (fun w' =>Wd W w' (thO p o::thB w.heap.size 88 [.int .u8 (a:Nat),.int .u8 (u:Nat),.int .u8 (v:Nat),.int .i64 wt]::ts)) (by kernel_rfl) (by kernel_rfl) (HW0.out.fr0 ((Fr.refl [] _).drew)) ?_;iterate 1 (refine aL (by kernel_rfl) (fun KK hK=>?_);go_simp;refine hK.out _ ?_;clear hK KK)
 refine bS (by kernel_rfl) (.int .i64 now) (fun w' hw' =>?_) ?_
 {
 go_simp;refine(aJS hw').mono ?_;rintro _ w6 ⟨rfl,rfl⟩;exact⟨by rw[HN.out],hw'⟩};iterate 1 (refine aL (by kernel_rfl) (fun KK hK=>?_);go_simp;refine hK.out _ ?_;clear hK KK)
 refine bS (by kernel_rfl) (.int .u8 (a:Nat)) (fun w' hw' =>?_) ?_
 {
 have c0:=HC.out w' hw' 0;simp only[zI]at c0;go_simp;first|exact hw' | exact⟨rfl,hw'⟩|skip};iterate 4 (refine aL (by kernel_rfl) (fun KK hK=>?_);go_simp;refine hK.out _ ?_;clear hK KK)
 refine iB ?_;intro w5 hf5;have n1:=HC.out w5 hf5 1;have n2:=HC.out w5 hf5 2;have n3:=HC.out w5 hf5 3;simp only[zI,zJ]at n1 n2 n3;have HW5:=qA hf5;clear hf5 hbw hb4 hwt;have hx16:u%16<16:=Nat.mod_lt _ (by decide);have hy16:v%16<16:=Nat.mod_lt _ (by decide);have htu:(u:Int).tmod 16=((u%16:Nat):Int):=by rw[Int.tmod_eq_emod_of_nonneg (by omega)];omega
 have htv:(v:Int).tmod 16=((v%16:Nat):Int):=by rw[Int.tmod_eq_emod_of_nonneg (by omega)];omega
 have htu2:(u:Int)%16=((u%16:Nat):Int):=by omega
 have htv2:(v:Int)%16=((v%16:Nat):Int):=by omega
 have hO:o.mvO (a,u,v,wt)=if u%16=v%16 then o.tickS t else o.add (lZ (u%16)) (lZ (v%16)) wt t:=by unfold Ob.mvO;rw[HT.out]
 have hE:o.mvE (a,u,v,wt)=if u%16=v%16 then dD o.m o.now t else(o.addC (lZ (u%16)) (lZ (v%16)) t:Nat):=by unfold Ob.mvE;rw[HT.out]
 generalize u%16=x at *;generalize v%16=y at *;have hwx:=vY hx16;have hwy:=vY hy16;have hwx1:IntKind.u64.wrap (x:Int)=x:=by rw[IntKind.wrap_u64];omega
 have hwy1:IntKind.u64.wrap (y:Int)=y:=by rw[IntKind.wrap_u64];omega
 have hxb:=aEL hx16;have hyb:=aEL hy16;by_cases hxy:x=y
 {
 subst hxy;rw[qD rfl]at hO hE;have d1:((x:Int) == (x:Int))=true:=by simp
 have HTk:=qA (aNE HW5.out t (by omega) (by omega));have HOE:=qA (zH hO hE);clear hO hE hx16 hy16 hwx hwy hxb hyb;go_wp2_with fail
 refine HTk.out.mono ?_;rintro _ w6 ⟨rfl,hW⟩;have HW6:=qA hW;clear hW;go_wp2
 go_ret;rw[HOE.out.1,HOE.out.2];exact⟨rfl,HW6.out.drop2⟩}
 {
 rw[qC hxy]at hO hE;have d1:((x:Int) == (y:Int))=false:=by simp;omega
 have d2:(x == y)=false:=by simp;omega
 generalize lZ x=X at *;generalize lZ y=Y at *;have HTk:=qA (aPW HW5.out X Y hxb hyb wt t (by omega) (by omega));have HOE:=qA (zH hO hE);clear hO hE hx16 hy16 hxb hyb;go_wp2_with fail
 refine HTk.out.mono ?_;rintro _ w6 ⟨rfl,hW⟩;have HW6:=qA hW;clear hW;go_wp2
 go_ret;rw[HOE.out.1,HOE.out.2];exact⟨rfl,HW6.out.drop2⟩}
theorem pK.fr{W w:World}{a:Option Addr}{len:Nat}{z:Nat->Mv}(h:pK W a len z)(hf:Fr [] W w):pK w a len z:=⟨h.1,fun i hi=>by
 obtain⟨b,off,e,hb,h0,h1,h2,h3,h4⟩:=h.2 i hi;exact⟨b,off,e,Nat.lt_of_lt_of_le hb hf.size,hf.cell h0 (by simp),hf.cell h1 (by simp),hf.cell h2 (by simp),hf.cell h3 (by simp),h4⟩⟩
theorem aKL{W w:World}{ts:List Th}{s len cap:Nat}{a:Option Addr}{z:Nat->Mv}(h:Wd W w ts)(hs:s<256)(hz:pK W a len z):
    Calls Tryz.prog 38 #[.int .u8 (s:Nat),.slice a len cap] w fun e w' =>∃p o,e=.returned (dY p)/\Wd W w' (thO p o::ts)/\Bp s 80 o:=by
 have HN:=qA (aJU h (1+s) 5 12 9 (by omega) (by omega) (by decide) (by decide) (by decide) (by decide) (by decide) (by decide));have hw1:IntKind.i64.wrap (s:Int)=s:=zF _ (by omega);have hw2:IntKind.i64.wrap (1+(s:Int))=1+s:=zF _ (by omega);have HS:=qA hs;have HZ:=qA hz;clear h hs hz;go_enter Tryz.func38,Tryz.ntmps38
 go_wp2_with fail
 refine HN.out.mono ?_;rintro _ w1 ⟨p,rfl,hW⟩;have HP0:=qA (show ∃o,Wd W w1 (thO p o::ts)/\Bp s 0 o from⟨_,hW,Bp.new HS.out⟩);clear hW HN hw1 hw2;go_wp2_with fail
 go_loopw [7] (fun c wr=>∃i:Nat,i<=len/\i<=80/\c=.int .i64 i/\Hid (∃o,Wd W wr (thO p o::ts)/\Bp s i o)) (fun c _=>80-(intOf c).toNat)
 case atStart=>exact⟨0,by omega,by omega,rfl,HP0⟩
 case round=>
  clear HP0;obtain⟨i,hi,hi8,rfl,HP⟩:=hrel;rename World=>wr
  by_cases hlt:i<len
  {
  by_cases h80:i<80
  {
  have e1:(i:Int)<len:=by omega
  have e2:(i:Int)<80:=by omega
  have e0:(0:Int)<=i:=by omega
  have d1:decide ((i:Int)<len)=true:=qG e1;have d2:decide ((i:Int)<80)=true:=qG e2;have hw1:IntKind.i64.wrap ((i:Int)+1)=((i+1:Nat):Int):=by rw[show(i:Int)+1=((i+1:Nat):Int) by omega];exact zF _ (by omega)
  obtain⟨o,hW,hB⟩:=HP.out;obtain⟨b,off,rfl,hb,m0,m1,m2,m3,hok⟩:=(HZ.out.fr hW.frm).2 i hlt;have HM:=qA (aQQ hW hB (by omega) (z i) hok);have hnew:=hB.mv hW.ob hok;have HB:=qA hnew;clear hW hB hok hnew HP;generalize z i=mv at *;obtain⟨ma,mu,mvv,mw⟩:=mv;simp only at m0 m1 m2 m3;go_wp2_with fail
  refine HM.out.mono ?_;rintro _ w2 ⟨rfl,hW⟩;have HP2:=qA (show ∃o,Wd W w2 (thO p o::ts)/\Bp s (i+1) o from⟨_,hW,HB.out⟩);clear hW HM HB m0 m1 m2 m3;go_wp2_with fail
  go_roundw
  case rel=>exact⟨i+1,by omega,by omega,by go_num,HP2⟩
  case measure=>simp[intOf];omega}
  {
  have d1:decide ((i:Int)<len)=true:=qG (by omega);have d2:decide ((i:Int)<80)=false:=qF (by omega);have d3:(i:Int)<len:=by omega
  have d4:¬(i:Int)<80:=by omega
  go_wp2
  go_ret;obtain⟨o,hW,hB⟩:=HP.out;exact⟨p,rfl,o,hW,hB.mono (by omega)⟩}}
  {
  have d1:decide ((i:Int)<len)=false:=qF (by omega);have d3:¬(i:Int)<len:=by omega
  go_wp2
  go_ret;obtain⟨o,hW,hB⟩:=HP.out;exact⟨p,rfl,o,hW,hB.mono (by omega)⟩}
theorem aQR{a:Int}(h:(Lit.int .u16 a).wf=true):∃n:Nat,a=n/\n<65536:=by
 have h:(decide ((0:Int)<=a)&&decide (a<=65535))=true:=h;simp only[qW,decide_eq_true_eq]at h;exact⟨a.toNat,by omega,by omega⟩
theorem Wd.formB{W w:World}{ts:List Th}{v:Value}{l:List Nat}(h:Wd W w (thY v l::ts))(h0:0<l.length):∃b cap,v=.slice (some ⟨b,0,none⟩) l.length cap/\l.length<=cap/\RdB w (some ⟨b,0,none⟩) l:=by
 have hr:=h.rowB;obtain⟨b,cap,rfl,hc,_⟩:=hr.at h0;exact⟨b,cap,rfl,hc,hr.rd⟩
theorem dP.rd2{w:World}{a:Option Addr}{n cap:Nat}{l:List Nat}(h:dP w (.slice a n cap) l):RdB w a l:=by
 obtain⟨a', c', e⟩:=h.slice;simp only[qO]at e;obtain⟨rfl,rfl,rfl⟩:=e;exact h.rd
theorem xV{W w:World}{ts:List Th}{a:Option Addr}{l:List Nat}{n cap:Nat}(h:Wd W w ts)(hL:eC W)(hr:RdB w a l)(hb:Byt l)(hn:l.length=n)(hl:n<=1073741824)(hc:n<=cap)(hR:(cA l).2=none):
    Calls Tryz.prog 21 #[.slice a n cap] w fun e w' =>e=.returned (.tuple #[.pointer none,.int .i64 (cA l).1])/\Wd W w' ts:=
  (xU h hL hr hb hn hl hc).mono fun e w' k=>by
 unfold LdE at k;rw[hR]at k;exact k
theorem dP.mt(w:World):dP (w.alloc (.cells #[] 5)) (.slice (some ⟨w.heap.size,0,none⟩) 0 0) []:=
  ⟨rfl,.inr ⟨w.heap.size,0,#[],rfl,qR _,Blk.new w [] 5,qJ _,by decide,by decide,rfl⟩⟩
theorem walk_imageEnds(W:World)(s:Int)(ws:(Lit.int .u8 s).wf=true)(am:Option Addr)(lm cm:Nat)(z:Nat->Mv)(hz:pK W am lm z)(ct:Int)(wc:(Lit.int .u16 ct).wf=true)(a:Option Addr)(len cap:Nat)(zs:List Int)(hr:uP .u8 W a len cap zs)(hL:eC W):
    Calls Tryz.prog 10 #[.int .u8 s,.slice am lm cm,.int .u16 ct,.slice a len cap] W fun e W' =>e=.returned (.bool true)/\Below W.heap.size W W' :=by
 obtain⟨s,rfl,hs⟩:=aEK ws;obtain⟨ct,rfl,hct⟩:=aQR wc;obtain⟨hl,hcap⟩:=pI hr;have hrd:=aAW hr;have hb:=pJ hr;have hnil:a=none->cap=0:=by {
 rcases hr with⟨_,_,h2,_⟩|⟨x,rfl,_⟩
 · exact fun _=>h2
 · exact fun h=>by cases h};generalize gJ len zs=ns at *;have HL:=qA hL;clear hr ws wc;by_cases hbig:100<len
 {
 have HW:=qA (lP (Wd.begin W) hL);have d1:decide ((len:Int)>100)=true:=qG (by omega);have d2:decide (100<len)=true:=qG hbig;clear hl hcap hrd hb hL hz hnil;go_enter Tryz.func10,Tryz.ntmps10
 go_wp2_with fail
 refine HW.out.mono ?_;rintro _ w1 ⟨rfl,hW⟩;have hB:=hW.below;clear HW hW;go_wp2
 go_ret;exact⟨rfl,hB⟩}
 {
 have d1:decide ((len:Int)>100)=false:=qF (by omega);have d2:decide (100<len)=false:=qF hbig;have HP:=qA (aKL (cap:=cm) (Wd.begin W) hs hz);have HR:=qA (zH hrd (zH hb (zH hl (zH hcap hnil))));clear hl hcap hrd hb hL hz hnil hs;go_enter Tryz.func10,Tryz.ntmps10
 go_wp2_with fail
 refine HP.out.mono ?_;rintro _ w1 ⟨p,o,rfl,hW,hB⟩;have hok:=hW.ob;have HO:=qA (zH hok hB.pc);have HS:=qA (rS hW HL.out hB.pc);have hlen:=o.img_len;have hLn:=hok.leE;have hLE:=hok.mE;have hbyt:=o.img_byt;have hcutL:=fun n (hn:n<o.img.length)=>hB.pc.img_cut hok hn;have hmore:=fun m (hm:m≠[])=>hB.pc.img_more hok (m:=m) hm;have hload:=hB.pc.load hok;clear HP hW hB hok d1 d2;obtain⟨I,hI⟩:∃I,I=o.img:=⟨_,rfl⟩;rw[<-hI]at HS hlen hbyt hcutL hmore hload;have HC:=qA (zH hcutL (zH hmore (zH hload hbyt)));obtain⟨n,hn⟩:∃n,n=I.length:=⟨_,rfl⟩;have HI:=qA (zH hI hn);rw[<-hn]at hlen;clear hcutL hmore hload hbyt hI hn;have hn65:65<=n:=by omega
 have hnb:n<=600000:=by omega
 clear hlen hLn hLE;go_wp2_with fail
 refine HS.out.mono ?_;rintro _ w2 ⟨v,rfl,hW⟩;clear HS;obtain⟨b,cb,rfl,hcb,hrd⟩:=hW.formB (by rw[<-HI.out.2];omega);rw[<-HI.out.2]at hcb hW ⊢;have e1:decide ((n:Int)<65)=false:=qF (by omega);have e2:decide (n<65)=false:=qF (by omega);have k1:IntKind.i64.wrap (ct:Int)=ct:=zF _ (by omega);have k2:(ct:Int).tmod n=((ct%n:Nat):Int):=by rw[Int.tmod_eq_emod_of_nonneg (by omega)];omega
 have k3:(ct:Int)%n=((ct%n:Nat):Int):=by omega
 have hk:ct%n<n:=Nat.mod_lt _ (by omega);have hn0:¬n=0:=by omega
 have hn0' :¬(n:Int)=0:=by omega
 obtain⟨k,hkk⟩:∃k,k=ct%n:=⟨_,rfl⟩;rw[<-hkk]at k2 k3 hk;clear hkk;have k4:IntKind.i64.wrap (k:Int)=k:=zF _ (by omega);have k5:(0:Int)<=k:=by omega
 have k6:(k:Int)<=cb:=by omega
 have k7:¬cb=0:=by omega
 obtain⟨q1,q2⟩:=HC.out.1 k (by rw[<-HI.out.2];exact hk);have HLd:=qA (xV (cap:=cb) hW HL.out (hrd.take k) (HC.out.2.2.2.take k) (n:=k) (by rw[List.length_take,<-HI.out.2];omega) (by omega) (by omega) q1);generalize (cA (I.take k)).1=c1 at *;have HQ:=qA q2;have HB:=qA (zH hcb hk);clear hW hrd q1 q2 hcb hk;go_wp2_with fail
 refine HLd.out.mono ?_;rintro _ w3 ⟨rfl,hW⟩;clear HLd k1 k2 k3 k4 k5 k6 k7 e1 e2;have hF3:Fr [] w3 (w3.alloc (.cells #[] 5)):=(Fr.refl [] w3).alloc _;have hW4:=hW.new (t:=thY (.slice (some ⟨w3.heap.size,0,none⟩) 0 0) []) hF3 ⟨dP.mt w3,rfl⟩ (by simp[Value.ownBlock]);have hrd4:=hW4.swap.rowB.rd2;have HW4:=qA (zH hW4 hrd4);clear hW hF3 hW4 hrd4;go_wp2_with (first|(at_builtin;refine pZ HW4.out.1 rfl (.tmp 49) (.tmp 50) 22 rfl (.int .u8 0) Tryz.underlying22 Tryz.info5 rfl (some ⟨b,0,none⟩) n cb rfl rfl HW4.out.2 HI.out.2.symm (by simp) (by simp;omega) ?_;intro v5 w5 hW5;rw[List.nil_append]at hW5;have HW5:=qA (zH hW5 (HR.out.1.fr hW5.frm));clear hW5 HW4)|(at_builtin;refine pZ HW5.out.1 rfl (.tmp 51) (.tmp 52) 22 rfl (.int .u8 0) Tryz.underlying22 Tryz.info5 rfl a len cap rfl rfl HW5.out.2 HR.out.2.2.1 HR.out.2.2.2.2 (by rw[<-HI.out.2];omega) ?_;intro v6 w6 hW6)|fail)
 clear HW5;have hl6:(I++ns).length=n+len:=by rw[zE,HR.out.2.2.1,<-HI.out.2]
 obtain⟨b6,c6,rfl,hc6,hrd6⟩:=hW6.formB (by rw[hl6];omega);rw[hl6]at hc6 hW6 ⊢;have hbyt6:=HC.out.2.2.2.app HR.out.2.1;have HLd:=qA (xU (cap:=c6) hW6 HL.out hrd6 hbyt6 hl6 (by omega) hc6);have HN6:=qA (show ns=[]∨0<len/\(cA (I++ns)).2=none/\((cA (I++ns)).1=15∨(cA (I++ns)).1=17) from by
   by_cases hns:ns=[]
   · exact .inl hns
   · exact .inr ⟨by rw[<-HR.out.2.2.1];exact List.length_pos_iff.2 hns,HC.out.2.1 ns hns⟩)
 have HZ:=qA (show ns=[]->len=0 by intro h;rw[<-HR.out.2.2.1,h];rfl);have HLo:=qA (show ns=[]->cA (I++ns)=(0,some o) by intro h;rw[h,List.append_nil];exact HC.out.2.2.1);generalize cA (I++ns)=R at *;clear hW6 hrd6 hbyt6 hl6 hc6;go_wp2_with fail
 refine HLd.out.mono ?_;intro e w7 hD;clear HLd;unfold LdE at hD;rcases HN6.out with hns|⟨hlen0,hR2,hR1⟩
 {
 have hl0:=HZ.out hns;rw[HLo.out hns]at hD;obtain⟨p2,rfl,hW⟩:=hD;have HWk:=qA (lP hW HL.out);clear hW hns;subst hl0;rcases HQ.out with rfl|rfl
 {
 go_wp2_with fail
 refine HWk.out.mono ?_;rintro _ w8 ⟨rfl,hW⟩;have hB:=hW.below;clear hW HWk;go_wp2
 go_ret;exact⟨rfl,hB⟩}
 {
 go_wp2_with fail
 refine HWk.out.mono ?_;rintro _ w8 ⟨rfl,hW⟩;have hB:=hW.below;clear hW HWk;go_wp2
 go_ret;exact⟨rfl,hB⟩}}
 {
 obtain⟨c2,oR⟩:=R;simp only at hR2 hR1;subst hR2;obtain⟨rfl,hW⟩:=hD;have HWk:=qA (lP hW HL.out);have hx0:((len:Int) == 0)=false:=by simp;omega
 have hx1:(len == 0)=false:=by simp;omega
 have hx2:¬(len:Int)=0:=by omega
 have hx3:¬len=0:=by omega
 clear hW;rcases HQ.out with rfl|rfl<;>rcases hR1 with rfl|rfl
 all_goals
  go_wp2_with fail
  refine HWk.out.mono ?_;rintro _ w8 ⟨rfl,hW⟩;have hB:=hW.below;clear hW HWk;go_wp2
  go_ret;exact⟨rfl,hB⟩}}
def oL(w:World)(v:Value):Prop:=v=.pointer none∨∃b,v=dY b/\w.cell? ⟨b,4,none⟩=some (.pointer none)
theorem oL.fr{w w' :World}{v:Value}{S:List Nat}(h:oL w v)(hf:Fr S w w')(hs:∀b,v=dY b->b∉S):oL w' v:=by
 rcases h with h|⟨b,h,c⟩
 · exact .inl h
 · exact .inr ⟨b,h,hf.cell c (hs b h)⟩
theorem oL.fr0{w w' :World}{v:Value}(h:oL w v)(hf:Fr [] w w'):oL w' v:=h.fr hf (by simp)
theorem oL.none(w:World):oL w (.pointer none):=.inl rfl
section
variable {w:World} {v:Value}
theorem aGO(h:oL w v):Calls Tryz.prog 57 #[v] w fun e w' =>e=.returned (.bool false)/\w' =w:=by
 rcases h with rfl|⟨b,rfl,c4⟩
 {
 go_enter Tryz.func57,Tryz.ntmps57
 go_wp2
 go_ret;exact⟨rfl,rfl⟩}
 {
 go_enter Tryz.func57,Tryz.ntmps57
 go_wp2
 go_ret;exact⟨rfl,rfl⟩}
theorem aCW(h:oL w v):Calls Tryz.prog 31 #[v] w fun e w' =>e=.returned (.agg #[.int .i64 0,.int .i64 0,.int .i64 0,.int .i64 0])/\Fr [] w w' :=by
 have HV:=qA (aGO (h.fr0 ((Fr.refl [] w).alloc (.cells #[.int .i64 0,.int .i64 0,.int .i64 0,.int .i64 0] 31))));clear h;have HF:=qA ((Fr.refl [] w).alloc (.cells #[.int .i64 0,.int .i64 0,.int .i64 0,.int .i64 0] 31));have hb:=Blk.new w [.int .i64 0,.int .i64 0,.int .i64 0,.int .i64 0] 31;have r0:=hb.cell 0;have r1:=hb.cell 1;have r2:=hb.cell 2;have r3:=hb.cell 3;simp only[zI,zJ]at r0 r1 r2 r3;clear hb;go_enter Tryz.func31,Tryz.ntmps31
 go_wp2_with fail
 refine HV.out.mono ?_;rintro _ w1 ⟨rfl,rfl⟩;go_wp2
 exact bodyPost_ret (v:=.agg #[.int .i64 0,.int .i64 0,.int .i64 0,.int .i64 0]) (by simp[results,Tryz.results31,go_sem,r0,r1,r2,r3]) rfl ⟨rfl,HF.out⟩
end
theorem oM{w:World}{v:Value}(h:oL w v)(hL:eC w):Calls Tryz.prog 19 #[v] w fun e w' =>e=.returned (.tuple #[.slice none 0 0,.int .i64 1])/\Fr [] w w' :=by
 have HC:=qA (aCW h);have HL:=qA hL;obtain⟨pv,rfl⟩:∃pv,v=.pointer pv:=by rcases h with rfl|⟨b,rfl,_⟩<;>exact⟨_,rfl⟩
 clear h hL;go_enter Tryz.func19,Tryz.ntmps19
 go_wp2_with fail
 refine HC.out.mono ?_;rintro _ w2 ⟨rfl,hF⟩;have HP:=qA (aPX (HL.out.fr hF (by simp)) 0 0 0 0 (by decide) rfl);have HF:=qA hF;clear hF HC;go_wp2_with fail
 refine HP.out.mono ?_;rintro _ w3 ⟨rfl,hF⟩;have HF:=qA (HF.out.trans' hF);clear hF HP;cases pv with
 | none=>{
 go_wp2_with fail
 go_ret2;exact⟨rfl,HF.out⟩}
 | some p=>{
 go_wp2_with fail
 go_ret2;exact⟨rfl,HF.out⟩}
section
variable {W w:World} {ts:List Th} {p:Nat} {o:Ob} {v:Value}
theorem aRV(h:Wd W w (thO p o::ts))(hL:eC W)(hp:o.Pc)(hb:oL w v):Calls Tryz.prog 20 #[v,dY p] w fun e w' =>e=.returned (.bool false)/\Wd W w' (thO p o::ts):=by
 have HS:=qA (oM hb (hL.fr h.frm (by simp)));have HW:=qA h;have HL:=qA hL;have HP:=qA hp;clear h hL hp hb;go_enter Tryz.func20,Tryz.ntmps20
 go_wp2_with fail
 refine HS.out.mono ?_;rintro _ w1 ⟨rfl,hF⟩;have HW1:=qA (HW.out.fr0 hF);clear hF HS HW;go_wp2_with fail
 refine(rS HW1.out HL.out HP.out).mono ?_;rintro _ w2 ⟨v', rfl,hW⟩;have HW2:=qA hW;clear hW HW1;go_wp2
 go_ret;exact⟨rfl,HW2.out.drop⟩
theorem aRW(h:Wd W w (thO p o::ts))(hL:eC W)(hp:o.Pc)(hb:∀w', Wd W w' (thO p o::ts)->oL w' v):Calls Tryz.prog 20 #[dY p,v] w fun e w' =>e=.returned (.bool false)/\Wd W w' (thO p o::ts):=by
 have HW:=qA h;have HL:=qA hL;have HP:=qA hp;have HB:=qA hb;clear h hL hp hb;go_enter Tryz.func20,Tryz.ntmps20
 go_wp2_with fail
 refine(rS HW.out HL.out HP.out).mono ?_;rintro _ w2 ⟨v', rfl,hW⟩;have HW2:=qA hW.drop;clear hW HW;go_wp2_with fail
 refine(oM (HB.out _ HW2.out) (HL.out.fr HW2.out.frm (by simp))).mono ?_;rintro _ w1 ⟨rfl,hF⟩;have HW1:=qA (HW2.out.fr0 hF);clear hF HW2;go_wp2
 go_ret;exact⟨rfl,HW1.out⟩
theorem aRX(hb:oL w v)(hL:eC w):Calls Tryz.prog 20 #[v,v] w fun e w' =>e=.returned (.bool false)/\Fr [] w w' :=by
 have HL:=qA hL;have HB:=qA hb;clear hL hb;go_enter Tryz.func20,Tryz.ntmps20
 go_wp2_with fail
 refine(oM HB.out HL.out).mono ?_;rintro _ w1 ⟨rfl,hF⟩;have HF:=qA hF;clear hF;go_wp2_with fail
 refine(oM (HB.out.fr0 HF.out) (HL.out.fr HF.out (by simp))).mono ?_;rintro _ w2 ⟨rfl,hF⟩;have HF2:=qA (HF.out.trans' hF);clear hF HF;go_wp2
 go_ret;exact⟨rfl,HF2.out⟩
end
end Go.Proofs.YtjdgpcjbgjnahaaGreatDoor
namespace Go.Proofs.YtjdgpcjbgjnahaaGreatDoor
end Go.Proofs.YtjdgpcjbgjnahaaGreatDoor
