/- What the laws of images have in common; with changed bytes and fields. -/
import Derived.Test.YtjdgpcjbgjnahaaGreatDoorD1
import Derived.Test.YtjdgpcjbgjnahaaGreatDoorD11
import Derived.Test.YtjdgpcjbgjnahaaGreatDoorD13
import Derived.Test.YtjdgpcjbgjnahaaGreatDoorD3
import Derived.Test.YtjdgpcjbgjnahaaGreatDoorD9
import Derived.Test.YtjdgpcjbgjnahaaGreatDoorD12
import Derived.Laws.IdiomArrays
set_option maxRecDepth 10000
set_option maxHeartbeats 4000000
set_option linter.unusedSimpArgs false
set_option linter.unusedVariables false
/- Windows after moves. -/
namespace Go.Proofs.YtjdgpcjbgjnahaaGreatDoor
open Go.RowKit
theorem aBT:rO Tryz.prog 88 [.i .u8,.i .u8,.i .u8,.i .i64]:=by
 refine rO.struct Tryz.underlying88 (by kernel_rfl) (fun j k hj=>?_);have hi:rO Tryz.prog 5 [.i .u8]:=rO.int Tryz.underlying5 (by kernel_rfl);have hb:rO Tryz.prog 2 [.i .i64]:=rO.int Tryz.underlying2 (by kernel_rfl);match j,hj with
 | 0,hj=>exact⟨0,_,_,rfl,hi,by decide,hj⟩
 | 1,hj=>exact⟨1,_,_,rfl,hi,by decide,hj⟩
 | 2,hj=>exact⟨2,_,_,rfl,hi,by decide,hj⟩
 | 3,hj=>exact⟨3,_,_,rfl,hb,by decide,hj⟩
 | j+4,hj=>simp at hj
abbrev Mv:=Nat×Nat×Nat×Int
def Mv.ok(m:Mv):Prop:=m.1<256/\m.2.1<256/\m.2.2.1<256/\ -9223372036854775808<=m.2.2.2/\m.2.2.2<=9223372036854775807
def nU(w:World)(a:Option Addr)(len:Nat)(z:Nat->Mv):Prop:=
  len<=9223372036854775807/\∀i,i<len->∃b off,a=some ⟨b,off,none⟩/\b<w.heap.size/\w.cell? ⟨b,off+i*4,none⟩=some (.int .u8 (z i).1)/\w.cell? ⟨b,off+i*4+1,none⟩=some (.int .u8 (z i).2.1) /\
    w.cell? ⟨b,off+i*4+2,none⟩=some (.int .u8 (z i).2.2.1)/\w.cell? ⟨b,off+i*4+3,none⟩=some (.int .i64 (z i).2.2.2)/\(z i).ok
theorem pA{a:Int}(h:(Lit.int .u8 a).wf=true):∃n:Nat,a=n/\n<256:=by
 have h:(decide ((0:Int)<=a)&&decide (a<=255))=true:=h;simp only[qW,decide_eq_true_eq]at h;exact⟨a.toNat,by omega,by omega⟩
theorem aRX{a:Int}(h:(Lit.int .i64 a).wf=true):-9223372036854775808<=a/\a<=9223372036854775807:=by
 have h:(decide ((-9223372036854775808:Int)<=a)&&decide (a<=9223372036854775807))=true:=h;simp only[qW,decide_eq_true_eq]at h;exact h
theorem aOW{H:Type}{enc:TypeId×Value->H}{W:World}{a:Option Addr}{len cap:Nat}{d:DataW H}{p:List MemPlace}
    (h:DataW.Trod enc Tryz.prog W 0 (fun _=>true) true 67 (.slice a len cap) d p):∃z,nU W a len z:=by
 obtain⟨z,hz⟩:=aFP Tryz.underlying67 aBT (by decide) h;have key:∀i,∃u:Mv,i<len->z i 0=.int .u8 u.1/\z i 1=.int .u8 u.2.1/\z i 2=.int .u8 u.2.2.1/\z i 3=.int .i64 u.2.2.2/\u.ok:=by {
 intro i;by_cases hi:i<len
 {
 obtain⟨b,off,rfl,_,h1⟩:=hz.2 i hi;obtain⟨n0,e0,w0⟩:=(h1 0 _ rfl).2;obtain⟨n1,e1,w1⟩:=(h1 1 _ rfl).2;obtain⟨n2,e2,w2⟩:=(h1 2 _ rfl).2;obtain⟨n3,e3,w3⟩:=(h1 3 _ rfl).2;obtain⟨m0,rfl,k0⟩:=pA w0;obtain⟨m1,rfl,k1⟩:=pA w1;obtain⟨m2,rfl,k2⟩:=pA w2;have k3:=aRX w3;exact⟨(m0,m1,m2,n3),fun _=>⟨e0,e1,e2,e3,k0,k1,k2,k3.1,k3.2⟩⟩}
 · exact⟨(0,0,0,0),fun h=>absurd h hi⟩};obtain⟨F,hF⟩:=Classical.axiomOfChoice key;refine⟨F,hz.1,fun i hi=>?_⟩;obtain⟨b,off,rfl,hb,h1⟩:=hz.2 i hi;obtain⟨e0,e1,e2,e3,e4⟩:=hF i hi;refine⟨b,off,rfl,hb,?_,?_,?_,?_,e4⟩
 · rw[<-e0];exact(h1 0 _ rfl).1
 · rw[<-e1];exact(h1 1 _ rfl).1
 · rw[<-e2];exact(h1 2 _ rfl).1
 · rw[<-e3];exact(h1 3 _ rfl).1
def Ob.mvT(o:Ob)(m:Mv):Int:=o.now+(m.1%8:Nat)
def mO(x:Nat):Nat:=x*1099511627776
def Ob.mvO(o:Ob)(m:Mv):Ob:=if m.2.1%16=m.2.2.1%16 then o.tickS (o.mvT m) else o.add (mO (m.2.1%16)) (mO (m.2.2.1%16)) m.2.2.2 (o.mvT m)
def Ob.mvE(o:Ob)(m:Mv):Int:=if m.2.1%16=m.2.2.1%16 then dH o.m o.now (o.mvT m) else(o.addC (mO (m.2.1%16)) (mO (m.2.2.1%16)) (o.mvT m):Nat)
structure Bp (s k:Nat) (o:Ob):Prop where
  pc:o.Pc
  s256:s<256
  m:o.m=1+s
  E:o.E=12
  V:o.V=9
  D:o.D=5
  now0:0<=o.now
  now:o.now<=7*k
  last:o.last<=k
  gone:o.gone<=k
theorem Bp.new{s:Nat}(hs:s<256):Bp s 0 (Ob.new (1+s) 12 9 5 0):=
  ⟨aLJ (gZ.2 (by omega)),hs,rfl,rfl,rfl,rfl,Int.le_refl _,Int.le_refl _,qJ _,qJ _⟩
theorem Bp.mono{s k j:Nat}{o:Ob}(h:Bp s k o)(hj:k<=j):Bp s j o:=⟨h.pc,h.s256,h.m,h.E,h.V,h.D,h.now0,by have:=h.now;omega,by have:=h.last;omega,by have:=h.gone;omega⟩
theorem Bp.tick{s k:Nat}{o:Ob}(h:Bp s k o)(ho:o.Ok){t:Int}(h0:0<=t)(ht:t<=7*(k+1:Nat)):Bp s (k+1) (o.tick t):=by
 refine⟨h.pc.tick t,h.s256,h.m,h.E,h.V,h.D,h0,ht,by have:=h.last;show o.last<=_;omega,?_⟩;show o.gone+(o.L.length-(o.left t).length)<=_
 have h1:=ho.last;have h2:=h.last;omega
theorem Bp.mv{s k:Nat}{o:Ob}(h:Bp s k o)(ho:o.Ok){m:Mv}(hm:m.ok):Bp s (k+1) (o.mvO m):=by
 have hd:m.1%8<8:=Nat.mod_lt _ (by decide);have h0:0<=o.mvT m:=by have:=h.now0;unfold Ob.mvT;omega
 have h1:o.mvT m<=7*(k+1:Nat):=by have:=h.now;unfold Ob.mvT;omega
 unfold Ob.mvO;split
 {
 unfold Ob.tickS;split
 · exact h.tick ho h0 h1
 · exact h.mono (Nat.le_succ k)}
 {
 have hp:=h.pc.add (mO (m.2.1%16)) (mO (m.2.2.1%16)) (wt:=m.2.2.2) ⟨hm.2.2.2.1,hm.2.2.2.2⟩ (o.mvT m);unfold Ob.add at hp ⊢;split
 {
 rename_i hc;rw[qD hc]at hp;have k1:=h.tick ho h0 h1;exact⟨hp,k1.s256,k1.m,k1.E,k1.V,k1.D,k1.now0,k1.now,by have:=h.last;show o.last+1<=_;omega,k1.gone⟩}
 · exact h.mono (Nat.le_succ k)}
theorem wL{x:Nat}(h:x<16):IntKind.u64.wrap ((x:Int)*1099511627776)=((mO x:Nat):Int):=by unfold mO;rw[IntKind.wrap_u64];omega
theorem aFI{x:Nat}(h:x<16):mO x<18446744073709551616:=by unfold mO;omega
theorem aRY{W w:World}{ts:List Th}{p s k:Nat}{o:Ob}(h:Wd W w (thO p o::ts))(hB:Bp s k o)(hk:k<=100000)(m:Mv)(hm:m.ok):
    Calls Tryz.prog 45 #[eO p,.agg #[.int .u8 m.1,.int .u8 m.2.1,.int .u8 m.2.2.1,.int .i64 m.2.2.2]] w fun e w' =>e=.returned (.int .i64 (o.mvE m))/\Wd W w' (thO p (o.mvO m)::ts):=by
 obtain⟨a,u,v,wt⟩:=m;obtain⟨ha,hu,hv,hw1,hw2⟩:=hm;simp only at ha hu hv hw1 hw2;have hW0:=(h.new (t:=thB w.heap.size 88 [.int .u8 (a:Nat),.int .u8 (u:Nat),.int .u8 (v:Nat),.int .i64 wt]) (K:=[w.heap.size]) ((Fr.refl [] w).alloc (.cells #[.int .u8 (a:Nat),.int .u8 (u:Nat),.int .u8 (v:Nat),.int .i64 wt] 88)) ⟨Blk.new w _ _,rfl⟩ (by simp)).swap;have HW0:=qA hW0;have hnow0:=hB.now0;have hnow:=hB.now;obtain⟨now,hnw⟩:∃now,now=o.now:=⟨_,rfl⟩;have HC:=qA (fun w' (h:Wd W w' (thO p o::thB w.heap.size 88 [.int .u8 (a:Nat),.int .u8 (u:Nat),.int .u8 (v:Nat),.int .i64 wt]::ts)) j=>h.swap.blk.cell j);rw[<-hnw]at hnow0 hnow;have hbw:IntKind.i64.wrap ((a:Int).tmod 8)=((a%8:Nat):Int):=by rw[Int.tmod_eq_emod_of_nonneg (by omega)];simp[IntKind.wrap,IntKind.bits,IntKind.signed];omega
 have hb4:((a:Int)%8)=((a%8:Nat):Int):=by omega
 have hb3:a%8<8:=Nat.mod_lt _ (by omega);have HT:Hid (o.mvT (a,u,v,wt)=now+(a%8:Nat)):=qA (by unfold Ob.mvT;rw[hnw]);generalize a%8=dt at *;have HN:=qA hnw;obtain⟨t,ht⟩:∃t,t=now+dt:=⟨_,rfl⟩;have hwt:IntKind.i64.wrap (now+dt)=t:=by rw[ht];exact zF _ (by omega)
 rw[<-ht]at HT;have ht0:0<=t:=by omega
 have ht1:t<=1000000:=by omega
 have Ht:=qA ht;clear hW0 hnw ht h hnow hnow0;go_enter Tryz.func45,Tryz.ntmps45
 go_wp2_with fail
 refine cX (fun w' =>Wd W w' (thO p o::thB w.heap.size 88 [.int .u8 (a:Nat),.int .u8 (u:Nat),.int .u8 (v:Nat),.int .i64 wt]::ts)) (by kernel_rfl) (by kernel_rfl) (HW0.out.fr0 ((Fr.refl [] _).drew)) ?_;iterate 1 (refine aH (by kernel_rfl) (fun KK hK=>?_);go_simp;refine hK.out _ ?_;clear hK KK)
 refine aS (by kernel_rfl) (.int .i64 now) (fun w' hw' =>?_) ?_
 {
 go_simp;refine(aDG hw').mono ?_;rintro _ w6 ⟨rfl,rfl⟩;exact⟨by rw[HN.out],hw'⟩};iterate 1 (refine aH (by kernel_rfl) (fun KK hK=>?_);go_simp;refine hK.out _ ?_;clear hK KK)
 refine aS (by kernel_rfl) (.int .u8 (a:Nat)) (fun w' hw' =>?_) ?_
 {
 have c0:=HC.out w' hw' 0;simp only[zI]at c0;go_simp;first|exact hw' | exact⟨rfl,hw'⟩|skip};iterate 4 (refine aH (by kernel_rfl) (fun KK hK=>?_);go_simp;refine hK.out _ ?_;clear hK KK)
 refine fZ ?_;intro w5 hf5;have n1:=HC.out w5 hf5 1;have n2:=HC.out w5 hf5 2;have n3:=HC.out w5 hf5 3;simp only[zI,zJ]at n1 n2 n3;have HW5:=qA hf5;clear hf5 hbw hb4 hwt;have hx16:u%16<16:=Nat.mod_lt _ (by decide);have hy16:v%16<16:=Nat.mod_lt _ (by decide);have htu:(u:Int).tmod 16=((u%16:Nat):Int):=by rw[Int.tmod_eq_emod_of_nonneg (by omega)];omega
 have htv:(v:Int).tmod 16=((v%16:Nat):Int):=by rw[Int.tmod_eq_emod_of_nonneg (by omega)];omega
 have htu2:(u:Int)%16=((u%16:Nat):Int):=by omega
 have htv2:(v:Int)%16=((v%16:Nat):Int):=by omega
 have hO:o.mvO (a,u,v,wt)=if u%16=v%16 then o.tickS t else o.add (mO (u%16)) (mO (v%16)) wt t:=by unfold Ob.mvO;rw[HT.out]
 have hE:o.mvE (a,u,v,wt)=if u%16=v%16 then dH o.m o.now t else(o.addC (mO (u%16)) (mO (v%16)) t:Nat):=by unfold Ob.mvE;rw[HT.out]
 generalize u%16=x at *;generalize v%16=y at *;have hwx:=wL hx16;have hwy:=wL hy16;have hwx1:IntKind.u64.wrap (x:Int)=x:=by rw[IntKind.wrap_u64];omega
 have hwy1:IntKind.u64.wrap (y:Int)=y:=by rw[IntKind.wrap_u64];omega
 have hxb:=aFI hx16;have hyb:=aFI hy16;by_cases hxy:x=y
 {
 subst hxy;rw[qD rfl]at hO hE;have d1:((x:Int) == (x:Int))=true:=by simp
 have HTk:=qA (aON HW5.out t (by omega) (by omega));have HOE:=qA (zH hO hE);clear hO hE hx16 hy16 hwx hwy hxb hyb;go_wp2_with fail
 refine HTk.out.mono ?_;rintro _ w6 ⟨rfl,hW⟩;have HW6:=qA hW;clear hW;go_wp2
 go_ret;rw[HOE.out.1,HOE.out.2];exact⟨rfl,HW6.out.drop2⟩}
 {
 rw[qC hxy]at hO hE;have d1:((x:Int) == (y:Int))=false:=by simp;omega
 have d2:(x == y)=false:=by simp;omega
 generalize mO x=X at *;generalize mO y=Y at *;have HTk:=qA (aRH HW5.out X Y hxb hyb wt t (by omega) (by omega));have HOE:=qA (zH hO hE);clear hO hE hx16 hy16 hxb hyb;go_wp2_with fail
 refine HTk.out.mono ?_;rintro _ w6 ⟨rfl,hW⟩;have HW6:=qA hW;clear hW;go_wp2
 go_ret;rw[HOE.out.1,HOE.out.2];exact⟨rfl,HW6.out.drop2⟩}
theorem nU.fr{W w:World}{a:Option Addr}{len:Nat}{z:Nat->Mv}(h:nU W a len z)(hf:Fr [] W w):nU w a len z:=⟨h.1,fun i hi=>by
 obtain⟨b,off,e,hb,h0,h1,h2,h3,h4⟩:=h.2 i hi;exact⟨b,off,e,Nat.lt_of_lt_of_le hb hf.size,hf.cell h0 (by simp),hf.cell h1 (by simp),hf.cell h2 (by simp),hf.cell h3 (by simp),h4⟩⟩
theorem aBU{W w:World}{ts:List Th}{s len cap:Nat}{a:Option Addr}{z:Nat->Mv}(h:Wd W w ts)(hs:s<256)(hz:nU W a len z):
    Calls Tryz.prog 38 #[.int .u8 (s:Nat),.slice a len cap] w fun e w' =>∃p o,e=.returned (eO p)/\Wd W w' (thO p o::ts)/\Bp s 80 o:=by
 have HN:=qA (aLB h (1+s) 5 12 9 (by omega) (by omega) (by decide) (by decide) (by decide) (by decide) (by decide) (by decide));have hw1:IntKind.i64.wrap (s:Int)=s:=zF _ (by omega);have hw2:IntKind.i64.wrap (1+(s:Int))=1+s:=zF _ (by omega);have HS:=qA hs;have HZ:=qA hz;clear h hs hz;go_enter Tryz.func38,Tryz.ntmps38
 go_wp2_with fail
 refine HN.out.mono ?_;rintro _ w1 ⟨p,rfl,hW⟩;have HP0:=qA (show ∃o,Wd W w1 (thO p o::ts)/\Bp s 0 o from⟨_,hW,Bp.new HS.out⟩);clear hW HN hw1 hw2;go_wp2_with fail
 go_loopw [7] (fun c wr=>∃i:Nat,i<=len/\i<=80/\c=.int .i64 i/\Hid (∃o,Wd W wr (thO p o::ts)/\Bp s i o)) (fun c _=>80-(intOf c).toNat)
 case atStart=>exact⟨0,by omega,by omega,rfl,HP0⟩
 case round=>
  clear HP0;obtain⟨i,hi,hi8,rfl,HP⟩:=hrel;rename World=>wr
  by_cases hlt:i<len
  {
  by_cases h80:i<80
  {
  have e1:(i:Int)<len:=by omega
  have e2:(i:Int)<80:=by omega
  have e0:(0:Int)<=i:=by omega
  have d1:decide ((i:Int)<len)=true:=qG e1;have d2:decide ((i:Int)<80)=true:=qG e2;have hw1:IntKind.i64.wrap ((i:Int)+1)=((i+1:Nat):Int):=by rw[show(i:Int)+1=((i+1:Nat):Int) by omega];exact zF _ (by omega)
  obtain⟨o,hW,hB⟩:=HP.out;obtain⟨b,off,rfl,hb,m0,m1,m2,m3,hok⟩:=(HZ.out.fr hW.frm).2 i hlt;have HM:=qA (aRY hW hB (by omega) (z i) hok);have hnew:=hB.mv hW.ob hok;have HB:=qA hnew;clear hW hB hok hnew HP;generalize z i=mv at *;obtain⟨ma,mu,mvv,mw⟩:=mv;simp only at m0 m1 m2 m3;go_wp2_with fail
  refine HM.out.mono ?_;rintro _ w2 ⟨rfl,hW⟩;have HP2:=qA (show ∃o,Wd W w2 (thO p o::ts)/\Bp s (i+1) o from⟨_,hW,HB.out⟩);clear hW HM HB m0 m1 m2 m3;go_wp2_with fail
  go_roundw
  case rel=>exact⟨i+1,by omega,by omega,by go_num,HP2⟩
  case measure=>simp[intOf];omega}
  {
  have d1:decide ((i:Int)<len)=true:=qG (by omega);have d2:decide ((i:Int)<80)=false:=qF (by omega);have d3:(i:Int)<len:=by omega
  have d4:¬(i:Int)<80:=by omega
  go_wp2
  go_ret;obtain⟨o,hW,hB⟩:=HP.out;exact⟨p,rfl,o,hW,hB.mono (by omega)⟩}}
  {
  have d1:decide ((i:Int)<len)=false:=qF (by omega);have d3:¬(i:Int)<len:=by omega
  go_wp2
  go_ret;obtain⟨o,hW,hB⟩:=HP.out;exact⟨p,rfl,o,hW,hB.mono (by omega)⟩}
theorem aRZ{a:Int}(h:(Lit.int .u16 a).wf=true):∃n:Nat,a=n/\n<65536:=by
 have h:(decide ((0:Int)<=a)&&decide (a<=65535))=true:=h;simp only[qW,decide_eq_true_eq]at h;exact⟨a.toNat,by omega,by omega⟩
theorem Wd.formB{W w:World}{ts:List Th}{v:Value}{l:List Nat}(h:Wd W w (thY v l::ts))(h0:0<l.length):∃b cap,v=.slice (some ⟨b,0,none⟩) l.length cap/\l.length<=cap/\RdB w (some ⟨b,0,none⟩) l:=by
 have hr:=h.rowB;obtain⟨b,cap,rfl,hc,_⟩:=hr.at h0;exact⟨b,cap,rfl,hc,hr.rd⟩
theorem eC.rd2{w:World}{a:Option Addr}{n cap:Nat}{l:List Nat}(h:eC w (.slice a n cap) l):RdB w a l:=by
 obtain⟨a', c', e⟩:=h.slice;simp only[qO]at e;obtain⟨rfl,rfl,rfl⟩:=e;exact h.rd
theorem pB{W w:World}{ts:List Th}{a:Option Addr}{l:List Nat}{n cap:Nat}(h:Wd W w ts)(hL:fH W)(hr:RdB w a l)(hb:Byt l)(hn:l.length=n)(hl:n<=1073741824)(hc:n<=cap)(hR:(cB l).2=none):
    Calls Tryz.prog 21 #[.slice a n cap] w fun e w' =>e=.returned (.tuple #[.pointer none,.int .i64 (cB l).1])/\Wd W w' ts:=
  (yM h hL hr hb hn hl hc).mono fun e w' k=>by
 unfold LdE at k;rw[hR]at k;exact k
theorem pC{W w:World}{ts:List Th}{a:Option Addr}{l:List Nat}{n cap:Nat}{o:Ob}(h:Wd W w ts)(hL:fH W)(hr:RdB w a l)(hb:Byt l)(hn:l.length=n)(hl:n<=1073741824)(hc:n<=cap)(hR:cB l=(0,some o)):
    Calls Tryz.prog 21 #[.slice a n cap] w fun e w' =>∃p,e=.returned (.tuple #[eO p,.int .i64 0])/\Wd W w' (thO p o::ts):=
  (yM h hL hr hb hn hl hc).mono fun e w' k=>by
 unfold LdE at k;rw[hR]at k;exact k
section
variable {w:World} {v:Value}
end
section
variable {W w:World} {ts:List Th} {p:Nat} {o:Ob} {v:Value}
end
end Go.Proofs.YtjdgpcjbgjnahaaGreatDoor
namespace Go.Proofs.YtjdgpcjbgjnahaaGreatDoor
end Go.Proofs.YtjdgpcjbgjnahaaGreatDoor
namespace Go.Proofs.YtjdgpcjbgjnahaaGreatDoor
open Go.RowKit
def dm(l:List Nat)(s:Nat)(q:List Nat):List Nat:=l.take s++(fV ((l.drop s).take q.length) q++l.drop (s+q.length))
theorem jH{l m:List Nat}(h:l.length=m.length):(fV l m).length=m.length:=by unfold fV;rw[List.length_zipWith,h,Nat.min_self]
theorem lP{l q:List Nat}{s:Nat}(h:s+q.length<=l.length):((l.drop s).take q.length).length=q.length:=by rw[List.length_take,List.length_drop];omega
theorem uH{l q:List Nat}{s:Nat}(h:s+q.length<=l.length):(dm l s q).length=l.length:=by
 unfold dm;rw[zE,zE,jH (lP h),List.length_take,List.length_drop];omega
theorem aSA(l:List Nat)(s:Nat):dm l s []=l:=by
 unfold dm fV;simp
theorem aPL{l q:List Nat}{s:Nat}(h:s+q.length<l.length):(dm l s q)[s+q.length]? =some l[s+q.length]:=by
 unfold dm;have h1:(l.take s).length=s:=by rw[List.length_take];omega
 rw[List.getElem?_append_right (by omega),h1,List.getElem?_append_right (by rw[jH (lP (Nat.le_of_lt h))];omega),jH (lP (Nat.le_of_lt h)),List.getElem?_drop];rw[show s+q.length+(s+q.length-s-q.length)=s+q.length by omega,qK h]
theorem aLT{l q:List Nat}{s y:Nat}(h:s+q.length<l.length):(dm l s q).set (s+q.length) (l[s+q.length] ^^^ y)=dm l s (q++[y]):=by
 have h1:(l.take s).length=s:=by rw[List.length_take];omega
 have h2:=jH (lP (Nat.le_of_lt h));unfold dm;rw[List.set_append_right _ _ (by omega),h1,List.set_append_right _ _ (by omega),h2,show s+q.length-s-q.length=0 by omega];rw[List.drop_eq_getElem_cons h,qX];have e1:(l.drop s).take (q++[y]).length=(l.drop s).take q.length++[l[s+q.length]]:=by rw[zE,List.length_singleton,List.take_add_one,List.getElem?_drop,qK h];rfl
 have e2:fV ((l.drop s).take q.length++[l[s+q.length]]) (q++[y])=fV ((l.drop s).take q.length) q++[l[s+q.length] ^^^ y]:=by {
 unfold fV;rw[List.zipWith_append (lP (Nat.le_of_lt h))];rfl};rw[e1,e2,zE,List.length_singleton];simp only[List.append_assoc,List.singleton_append];rfl
theorem wM:∀{l q:List Nat},l.length=q.length->(∀x∈q,x=0)->fV l q=l
  | [],[],_,_=>rfl
  | a::l,x::q,h,hq=>by
    have h1:=hq x List.mem_cons_self;subst h1;show(a ^^^ 0)::fV l q=a::l
    rw[Nat.xor_zero,wM (by simpa using h) (fun x hx=>hq x (List.mem_cons_of_mem _ hx))]
theorem yO:∀{l q:List Nat},l.length=q.length->l=fV l q->∀x∈q,x=0
  | [],[],_,_,x,hx=>by cases hx
  | a::l,y::q,h,e,x,hx=>by
    have e' :a::l=(a ^^^ y)::fV l q:=e;simp only[List.cons.injEq]at e';have hy:y=0:=by
      have h1:a ^^^ (a ^^^ y)=a ^^^ a:=by rw[<-e'.1]
      rw[<-Nat.xor_assoc,Nat.xor_self,Nat.zero_xor]at h1;exact h1
    rcases qB.1 hx with rfl|hx
    · exact hy
    · exact yO (by simpa using h) e'.2 x hx
theorem uI:∀{l q:List Nat},Byt l->Byt q->Byt (fV l q)
  | [],_,_,_,b,hb=>by cases hb
  | _::_,[],_,_,b,hb=>by cases hb
  | a::l,x::q,hl,hq,b,hb=>by
    rcases qB.1 (show b∈(a ^^^ x)::fV l q from hb) with rfl|hb
    · exact aRW (hl a List.mem_cons_self) (hq x List.mem_cons_self)
    · exact uI (fun y hy=>hl y (List.mem_cons_of_mem _ hy)) (fun y hy=>hq y (List.mem_cons_of_mem _ hy)) b hb
theorem aDT{l q:List Nat}{s:Nat}(hl:Byt l)(hq:Byt q):Byt (dm l s q):=(hl.take s).app ((uI ((hl.drop s).take _) hq).app (hl.drop _))
theorem aFJ{l q:List Nat}{s:Nat}(h:s+q.length<=l.length)(hq:∀x∈q,x=0):dm l s q=l:=by
 unfold dm;rw[wM (lP h) hq,<-List.drop_drop,List.take_append_drop,List.take_append_drop]
theorem aSB{o:Ob}{s:Nat}{q:List Nat}(hq:Byt q)(h4:q.length<=4)(hne:¬∀x∈q,x=0)(hs:s+q.length<=o.img.length-4∨o.img.length-4<=s/\s+q.length<=o.img.length):
    (cB (dm o.img s q)).2=none/\((cB (dm o.img s q)).1=15∨(cB (dm o.img s q)).1=17):=by
 obtain⟨B,hB⟩:∃B,B=cK o.m o.E o.V o.D o.now o.last o.gone (o.L.map lvR):=⟨_,rfl⟩;have hI:o.img=B++beN 4 (crc B):=by rw[hB];rfl
 have hBB:Byt B:=by rw[hB];exact gS _ _ _ _ _ _ _ _
 have hl:o.img.length=B.length+4:=by rw[hI,zE,aM]
 rw[hl]at hs;rcases hs with hs|⟨hs,hs2⟩
 {
 have hs:s+q.length<=B.length:=by omega
 have e:dm o.img s q=B.take s++fV ((B.drop s).take q.length) q++B.drop (s+q.length)++beN 4 (crc B):=by {
 rw[hI];unfold dm;rw[List.take_append_of_le_length (by omega),List.drop_append_of_le_length (by omega),List.take_append_of_le_length (by rw[List.length_drop];omega),List.drop_append_of_le_length (by omega)];simp only[List.append_assoc]};rw[e];have hm:((B.drop s).take q.length).length=q.length:=lP hs;refine aDN (p:=(B.drop s).take q.length) (by omega) (by rw[jH hm,hm]) ((hBB.drop s).take _) (uI ((hBB.drop s).take _) hq) (fun e=>hne (yO hm e)) ?_ (hBB.take s) (hBB.drop _);rw[List.append_assoc,<-List.drop_drop,List.take_append_drop,List.take_append_drop]}
 {
 obtain⟨T,hT⟩:∃T,T=beN 4 (crc B):=⟨_,rfl⟩;have hTl:T.length=4:=by rw[hT,aM]
 have hTT:Byt T:=by rw[hT];exact dN _ _
 rw[<-hT]at hI;obtain⟨r,hr⟩:∃r,s=B.length+r:=⟨s-B.length,by omega⟩;subst hr;have e:dm o.img (B.length+r) q=B++dm T r q:=by {
 rw[hI];unfold dm;rw[List.take_append,List.drop_append,List.drop_append,List.take_of_length_le (show B.length<=B.length+r by omega),List.drop_eq_nil_of_le (show B.length<=B.length+r by omega),List.drop_eq_nil_of_le (show B.length<=B.length+r+q.length by omega)];rw[show B.length+r-B.length=r by omega,show B.length+r+q.length-B.length=r+q.length by omega];simp only[List.nil_append,List.append_assoc]};have hr2:r+q.length<=T.length:=by omega
 rw[e];refine aHR hBB (aDT hTT hq) (by rw[uH hr2,hTl]) ?_;rw[<-hT];intro e2;have hm:=lP hr2;have e3:(T.take r)++((T.drop r).take q.length++T.drop (r+q.length))=T:=by rw[<-List.drop_drop,List.take_append_drop,List.take_append_drop]
 unfold dm at e2;have e5:=List.append_cancel_right (List.append_cancel_left (e2.trans e3.symm));exact hne (yO hm e5.symm)}
abbrev Q4:=Nat×Nat×Nat×Nat
def Q4.l(q:Q4):List Nat:=[q.1,q.2.1,q.2.2.1,q.2.2.2]
def Q4.ok(q:Q4):Prop:=Byt q.l
theorem aSF{H:Type}{enc:TypeId×Value->H}{W:World}{base:Nat}{v:Value}{d:DataW H}{p:List MemPlace}(hok:Value.okWide Tryz.prog W .any base 77 v)
    (h:DataW.Trod enc Tryz.prog W 0 (fun _=>true) true 77 v d p):∃z:Q4,v=.agg #[.int .u8 (z.1:Nat),.int .u8 (z.2.1:Nat),.int .u8 (z.2.2.1:Nat),.int .u8 (z.2.2.2:Nat)]/\z.ok:=by
 simp only[Value.okWide,Tryz.underlying77]at hok;obtain⟨cs,rfl,h2,_⟩:=hok;have c4:cs.size=4:=h2.trans (by kernel_rfl);obtain⟨fuel,hf⟩:=h;obtain⟨cs⟩:=cs;match cs,c4 with
 | [c0,c1,c2,c3],_=>{
 have hf:DataW.trod enc Tryz.prog W 0 (fun _=>true) true fuel 77 [c0,c1,c2,c3]=some (d,p):=hf;obtain⟨y0,y1,y2,y3,n,_,h0,h1,h2,h3⟩:=Go.ChangeShapes.trod_array4 Tryz.underlying77 (by kernel_rfl) hf;obtain⟨n0,e0,_,w0⟩:=DataW.trod_int Tryz.underlying5 h0;obtain⟨n1,e1,_,w1⟩:=DataW.trod_int Tryz.underlying5 h1;obtain⟨n2,e2,_,w2⟩:=DataW.trod_int Tryz.underlying5 h2;obtain⟨n3,e3,_,w3⟩:=DataW.trod_int Tryz.underlying5 h3;simp only[List.cons.injEq,and_true]at e0 e1 e2 e3;subst e0 e1 e2 e3;obtain⟨m0,rfl,k0⟩:=pA w0;obtain⟨m1,rfl,k1⟩:=pA w1;obtain⟨m2,rfl,k2⟩:=pA w2;obtain⟨m3,rfl,k3⟩:=pA w3;refine⟨(m0,m1,m2,m3),rfl,fun b hb=>?_⟩;simp only[Q4.l,qB,List.not_mem_nil,or_false]at hb;rcases hb with rfl|rfl|rfl|rfl<;>assumption}
def qq(q:List Nat)(r i:Nat):List Nat:=q.take (min i r)
theorem yP{q:List Nat}{r i:Nat}(h:q.length=4)(hi:i<=4):(qq q r i).length=min i r:=by unfold qq;rw[List.length_take];omega
theorem aPM{q:List Nat}{r i:Nat}(h:q.length=4)(hi:i<4)(hr:i<r):qq q r (i+1)=qq q r i++[q[i]'(by omega)]:=by
 unfold qq;rw[show min (i+1) r=i+1 by omega,show min i r=i by omega,List.take_add_one,qK (by omega)];rfl
theorem aLU{q:List Nat}{r i:Nat}(hr:r<=i):qq q r (i+1)=qq q r i:=by
 unfold qq;rw[show min (i+1) r=r by omega,show min i r=r by omega]
def nz(l:List Nat):Bool:=l.any (fun x=>x != 0)
theorem aFK(l:List Nat)(x:Nat):nz (l++[x])=(nz l||(x != 0)):=by unfold nz;simp
theorem aLV(l:List Nat):nz l=true↔¬∀x∈l,x=0:=by unfold nz;simp
theorem Wd.neYB{W w:World}{ts:List Th}{t:Th}{b bb n c:Nat}{ty:TypeId}{l:List Nat}{x:List Value}(h:Wd W w (thY (.slice (some ⟨b,0,none⟩) n c) l::t::thB bb ty x::ts)):b≠bb:=by
 obtain⟨_,K,K1,K2,⟨_,e1⟩,_,⟨K3,K4,⟨_,e2⟩,_,_,_,e3⟩,hd,_⟩:=h.third;rintro rfl;refine hd b (by simp[e1]) ?_;rw[e3,e2];simp[Value.ownBlock]
theorem walk_imageDamage(W:World)(s:Int)(ws:(Lit.int .u8 s).wf=true)(am:Option Addr)(lm cm:Nat)(z:Nat->Mv)(hz:nU W am lm z)(at_:Int)(wc:(Lit.int .u16 at_).wf=true)(q:Q4)(hq:q.ok)(last:Bool)(hL:fH W):
    Calls Tryz.prog 9 #[.int .u8 s,.slice am lm cm,.int .u16 at_,.agg #[.int .u8 (q.1:Nat),.int .u8 (q.2.1:Nat),.int .u8 (q.2.2.1:Nat),.int .u8 (q.2.2.2:Nat)],.bool last] W fun e W' =>e=.returned (.bool true)/\Below W.heap.size W W' :=by
 obtain⟨s,rfl,hs⟩:=pA ws;obtain⟨ct,rfl,hct⟩:=aRZ wc;have HL:=qA hL;obtain⟨q0,q1,q2,q3⟩:=q;obtain⟨Q,hQ⟩:∃Q,Q=[q0,q1,q2,q3]:=⟨_,rfl⟩;have hW0:Wd W (W.alloc (.cells #[.int .u8 (q0:Nat),.int .u8 (q1:Nat),.int .u8 (q2:Nat),.int .u8 (q3:Nat)] 77)) [thB W.heap.size 77 (bM Q)]:=
   (Wd.begin W).new (K:=[W.heap.size]) ((Fr.refl [] W).alloc _) ⟨by rw[hQ];exact Blk.new W [.int .u8 (q0:Nat),.int .u8 (q1:Nat),.int .u8 (q2:Nat),.int .u8 (q3:Nat)] 77,rfl⟩ (by simp)
 have hQl:Q.length=4:=by rw[hQ];rfl
 have hQb:Byt Q:=by rw[hQ];exact hq
 have HP:=qA (aBU (cap:=cm) hW0 hs hz);have HQ:=qA (zH hQl hQb);clear ws wc hL hW0 hQl hQb hq hz hs hQ;go_enter Tryz.func9,Tryz.ntmps9
 go_wp2_with fail
 refine HP.out.mono ?_;rintro _ w1 ⟨p,o,rfl,hW,hB⟩;have hok:=hW.ob;have HS:=qA (yN hW HL.out hB.pc);have hlen:=o.img_len;have hLn:=hok.leE;have hLE:=hok.mE;have hbyt:=o.img_byt;have hload:=hB.pc.load hok;have hdmg:=fun(s:Nat) (q:List Nat)=>aSB (o:=o) (s:=s) (q:=q);obtain⟨bb,hbb⟩:∃bb,bb=W.heap.size:=⟨_,rfl⟩;rw[<-hbb]at HS;clear HP hW hB hok;obtain⟨I,hI⟩:∃I,I=o.img:=⟨_,rfl⟩;rw[<-hI]at HS hlen hbyt hload;simp only[<-hI]at hdmg;obtain⟨n,hn⟩:∃n,n=I.length:=⟨_,rfl⟩;rw[<-hn]at hlen;simp only[<-hn]at hdmg;have HC:=qA hdmg;have HC2:=qA (zH hload hbyt);have HI:=qA (zH hI hn);have HBb:=qA hbb;clear hdmg hload hbyt hI hn hbb;have hn65:65<=n:=by omega
 have hnb:n<=600000:=by omega
 clear hlen hLn hLE;go_wp2_with fail
 refine HS.out.mono ?_;rintro _ w2 ⟨v,rfl,hW⟩;clear HS;obtain⟨b,cb,rfl,hcb,_⟩:=hW.formB (by rw[<-HI.out.2];omega);rw[<-HI.out.2]at hcb hW ⊢;have e1:decide ((n:Int)<65)=false:=qF (by omega);have e2:decide (n<65)=false:=qF (by omega);have k0:IntKind.i64.wrap ((n:Int)-4)=((n-4:Nat):Int):=by rw[show(n:Int)-4=((n-4:Nat):Int) by omega];exact zF _ (by omega)
 obtain⟨fr,to,hft,hr0,hto⟩:∃fr to:Nat,(last=false/\fr=0/\to=n-4∨last=true/\fr=n-4/\to=n)/\fr<to/\to<=n:=by {
 cases last
 · exact⟨0,n-4,.inl ⟨rfl,rfl,rfl⟩,by omega,by omega⟩
 · exact⟨n-4,n,.inr ⟨rfl,rfl,rfl⟩,by omega,qJ _⟩};obtain⟨sx,hsx⟩:∃sx,sx=fr+ct%(to-fr):=⟨_,rfl⟩;have hm:=Nat.mod_lt ct (show 0<to-fr by omega);have hsr:sx<to:=by omega
 have HW2:=qA (show Wd W w2 (thY (.slice (some ⟨b,0,none⟩) n cb) (dm I sx (qq Q (to-sx) 0))::thO p o::[thB bb 77 (bM Q)]) from by
   rw[show qq Q (to-sx) 0=[] by unfold qq;simp,aSA];exact hW)
 have HF:=qA (zH hft (zH hsx hcb));obtain⟨n4,hn4⟩:∃n4,n4=n-4:=⟨_,rfl⟩;rw[<-hn4]at k0 hft;obtain⟨m,hmv⟩:∃m,m=ct%(to-fr):=⟨_,rfl⟩;obtain⟨r,hr⟩:∃r,r=to-sx:=⟨_,rfl⟩;rw[<-hr]at HW2;rw[<-hmv]at hsx hm;have g0:IntKind.i64.wrap (ct:Int)=ct:=zF _ (by omega);have gm:IntKind.i64.wrap (m:Int)=m:=zF _ (by omega);clear hW hcb;rcases hft with⟨hl,hfr,hto'⟩|⟨hl,hfr,hto'⟩
 {
 subst hl;obtain rfl:m=sx:=by omega
 have g1:IntKind.i64.wrap (n4:Int)=n4:=zF _ (by omega);have g2' :(ct:Int)%n4=(m:Int):=by rw[hmv,hfr,hto', Nat.sub_zero];exact(Int.natCast_emod ..).symm
 have g2:(ct:Int).tmod n4=(m:Int):=by rw[Int.tmod_eq_emod_of_nonneg (Int.natCast_nonneg _)];exact g2'
 have g5:¬n4=0:=by omega
 have g5' :¬(n4:Int)=0:=by omega
 have HG:=qA (show m<n4/\n4<=n/\r=n4-m/\n4=n-4/\(n4=n-4∨n-4<=m)/\m<1000000 from by omega);clear hr0 hr hn4 hsr hto hm hmv hsx hfr hto';go_wp2_with fail
 go_loopw [16,17,18,45] (fun c16 c17 c18 c45 wr=>∃i:Nat,i<=4/\c16=.bool (nz (qq Q r i))/\c45=.int .i64 i/\Hid (Wd W wr (thY (.slice (some ⟨b,0,none⟩) n cb) (dm I m (qq Q r i))::thO p o::[thB bb 77 (bM Q)]))) (fun _ _ _ c _=>4-(intOf c).toNat)
 case atStart=>exact⟨0,by omega,rfl,rfl,HW2⟩
 case round=>
  clear HW2 e1 e2 k0;obtain⟨i,hi,rfl,rfl,HP⟩:=hrel;rename World=>wr
  by_cases hi4:i<4
  {
  have t1:(i:Int)<4:=by omega
  have t0:(0:Int)<=i:=by omega
  have hwi:IntKind.i64.wrap ((i:Int)+1)=((i+1:Nat):Int):=by rw[show(i:Int)+1=((i+1:Nat):Int) by omega];exact zF _ (by omega)
  obtain⟨k,hk⟩:∃k,k=m+i:=⟨_,rfl⟩;have gk:IntKind.i64.wrap ((m:Int)+i)=(k:Int):=by rw[show(m:Int)+i=(k:Int) by omega];exact zF _ (by have:=HG.out;omega)
  have GK2:=qA (show wrap64 ((m:Int)+i)=(k:Int) from by rw[show(m:Int)+i=(k:Int) by omega];exact IntWalk.wrap64_in _ ⟨by omega,by have:=HG.out;omega⟩);have hqi:=HQ.out.1;by_cases hin:i<r
  {
  have hkt:k<n4:=by have:=HG.out;omega
  have u1:(k:Int)<n4:=by omega
  have d1:decide ((k:Int)<n4)=true:=qG u1;have u2:(k:Int)<n:=by have:=HG.out;omega
  have u3:(0:Int)<=k:=by omega
  have hql:(qq Q r i).length=i:=by rw[yP hqi hi];omega
  have hkI:m+(qq Q r i).length<I.length:=by rw[hql,<-HI.out.2];have:=HG.out;omega
  have hat:=aPL hkI;have hst:=fun y=>aLT (y:=y) hkI;have hIk:=HC2.out.2 _ (List.getElem_mem hkI);have hdl:=uH (Nat.le_of_lt hkI);have hnext:=aPM hqi hi4 hin;have hQi:=HQ.out.2 _ (List.getElem_mem (l:=Q) (n:=i) (by omega));have hcb:=HP.out.third.blk.cell i;rw[show(bM Q)[i]? =some (.int .u8 ((Q[i]'(by omega):Nat):Int)) from rY (by omega)]at hcb;obtain⟨b', cap', ev,_,_,hz,hzz⟩:=HP.out.rowB.at (i:=k) (by rw[hdl,<-HI.out.2];have:=HG.out;omega);simp only[qO,qI,Addr.mk.injEq,and_true]at ev;obtain⟨rfl,hle,rfl⟩:=ev;clear hle hzz;have hcell:=(HP.out.rowB.rd2.cells) k (.int .u8 ((I[m+(qq Q r i).length]'hkI:Nat):Int)) (by
    unfold bM;rw[List.getElem?_map,show(dm I m (qq Q r i))[k]? =some (I[m+(qq Q r i).length]'hkI) by rw[<-hat,hql,hk]];rfl)
  rw[Addr.add_lit,Nat.zero_add]at hcell;have hzk:=hz k;generalize I[m+(qq Q r i).length]'hkI=x at *;generalize Q[i]'_=y at *;have hxy:=aDR hIk hQi;have hnz:nz (qq Q r (i+1))=(nz (qq Q r i)||(y != 0)):=by rw[hnext,aFK]
  have hbne:=HP.out.neYB;rw[HBb.out]at hbne hcb;have hW' :=Wd.setB (w:=wr.drew) (cap:=cb) (by rw[hdl,<-HI.out.2];exact HP.out.fr0 (Fr.refl [] wr).drew) (i:=k) (by rw[hdl,<-HI.out.2];have:=HG.out;omega) (x ^^^ y);rw[hdl,<-HI.out.2,show(dm I m (qq Q r i)).set k (x ^^^ y)=dm I m (qq Q r (i+1)) by have e:=hst y;rw[hql]at e;rw[hk,e,hnext]]at hW';have HW' :=qA hW';have HNz:=qA hnz;clear hat hst hIk hdl hnext hQi hz hW' hnz hk hkI hql hqi hkt;generalize x ^^^ y=xy at *;have gk2:wrap64 ((m:Int)+i)=(k:Int):=GK2.out;cases hnv:nz (qq Q r i) with
  | true=>{
  rw[hnv,Bool.true_or]at HNz;go_wp2_with fail
  go_region
  clear hcell hcb hzk hxy;go_wp2_with fail
  go_roundw
  case rel=>exact⟨i+1,by omega,by rw[HNz.out],by go_num,HW'⟩
  case measure=>simp[intOf];omega}
  | false=>{
  rw[hnv,Bool.false_or]at HNz;have hyb:((y:Int) != 0)=(y != 0):=by rw[Bool.eq_iff_iff];simp
  go_wp2_with fail
  go_region
  go_wp2_with fail
  go_roundw
  case rel=>exact⟨i+1,by omega,by rw[HNz.out,<-hyb],by go_num,HW'⟩
  case measure=>simp[intOf];omega}}
  {
  have hkt:¬k<n4:=by have:=HG.out;omega
  have u1:¬(k:Int)<n4:=by omega
  have d1:decide ((k:Int)<n4)=false:=qF u1;have hnext:=aLU (q:=Q) (show r<=i by omega);have HP' :=HP.out;rw[<-hnext]at HP';have HN:=qA HP';have HNx:=qA hnext;clear HP' hnext hkt hk hqi hin;have gk2:wrap64 ((m:Int)+i)=(k:Int):=GK2.out;go_wp2_with fail
  go_roundw
  case rel=>exact⟨i+1,by omega,by rw[HNx.out],by go_num,HN⟩
  case measure=>simp[intOf];omega}}
  {
  obtain rfl:i=4:=by omega
  have hqi:=HQ.out.1;have hql:=yP (r:=r) hqi (qJ 4);have hqb:Byt (qq Q r 4):=HQ.out.2.take _;have hsq:m+(qq Q r 4).length<=I.length:=by rw[hql,<-HI.out.2];have:=HG.out;omega
  have hdl:=uH hsq;rw[<-HI.out.2]at hdl;have hby:=aDT (s:=m) HC2.out.2 hqb;have hd:=HC.out m (qq Q r 4) hqb (by rw[hql];omega);have hz0:=aFJ hsq;have hrange:m+(qq Q r 4).length<=n-4∨n-4<=m/\m+(qq Q r 4).length<=n:=by rw[hql];have:=HG.out;omega
  obtain⟨b', cap', ev,hcp,_,_,hzz⟩:=HP.out.rowB.at (i:=0) (by rw[hdl];omega);simp only[qO,qI,Addr.mk.injEq,and_true]at ev;obtain⟨rfl,hle,rfl⟩:=ev;clear hle;clear hzz;rw[hdl]at hcp;have hiff:=aLV (qq Q r 4);cases hnv:nz (qq Q r 4) with
  | false=>{
  have hall:∀x∈qq Q r 4,x=0:=qP fun hn=>by
    have:=hiff.2 hn;rw[hnv]at this;cases this
  have hLd:=pC HP.out HL.out HP.out.rowB.rd2 hby hdl (by omega) hcp (by rw[hz0 hall];exact HC2.out.1);have HLd:=qA hLd;clear hLd hcp hd hz0 hrange hby hiff hall hdl hqb hsq hql hqi HP;go_wp2_with fail
  refine HLd.out.mono ?_;rintro _ w5 ⟨p2,rfl,hW⟩;have HWk:=qA (jG hW HL.out);clear hW HLd;go_wp2_with fail
  refine HWk.out.mono ?_;rintro _ w8 ⟨rfl,hW⟩;have hB:=hW.below;clear hW HWk;go_wp2
  go_ret;exact⟨rfl,hB⟩}
  | true=>{
  obtain⟨hR2,hR1⟩:=hd (hiff.1 hnv) hrange;have hLd:=pB HP.out HL.out HP.out.rowB.rd2 hby hdl (by omega) hcp hR2;have HLd:=qA hLd;have HX:=qA (zH hby (zH hdl hcp));have HR1:=qA hR1;have hcheck:=fun(w' :World) (h:Wd W w' (thY (.slice (some ⟨b,0,none⟩) n cb) (dm I m (qq Q r 4))::thO p o::[thB bb 77 (bM Q)]))=>oZ h HL.out h.rowB.rd2 hby hdl (by omega) hcp;have HCk:=qA hcheck;generalize (cB (dm I m (qq Q r 4))).1=c at *;clear hLd hcheck hcp hd hz0 hrange hby hiff hdl hqb hsq hql hqi HP hR1 hR2;go_wp2_with fail
  refine HLd.out.mono ?_;rintro _ w5 ⟨rfl,hW⟩;have HCk:=qA (HCk.out w5 hW);clear hW HLd;rcases HR1.out with rfl|rfl
  all_goals
   go_wp2_with fail
   refine HCk.out.mono ?_;rintro _ w6 ⟨rfl,hW⟩;have HWk:=qA (jG hW HL.out);clear hW HCk;go_wp2_with fail
   refine HWk.out.mono ?_;rintro _ w8 ⟨rfl,hW⟩;have hB:=hW.below;clear hW HWk;go_wp2
   go_ret;exact⟨rfl,hB⟩}}}
 {
 subst hl;have g1:IntKind.i64.wrap ((n:Int)-n4)=4:=by rw[show(n:Int)-n4=4 by omega];exact zF _ (by omega)
 have g2' :(ct:Int)%4=(m:Int):=by rw[hmv,hfr,hto', show n-n4=4 by omega];exact(Int.natCast_emod ..).symm
 have g2:(ct:Int).tmod 4=(m:Int):=by rw[Int.tmod_eq_emod_of_nonneg (Int.natCast_nonneg _)];exact g2'
 have g3:IntKind.i64.wrap ((n4:Int)+m)=(sx:Int):=by rw[show(n4:Int)+m=(sx:Int) by omega];exact zF _ (by omega)
 have HG:=qA (show sx<n/\n<=n/\r=n-sx/\n4=n-4/\(n=n-4∨n-4<=sx)/\m<1000000/\sx=n4+m from by omega);clear hr0 hr hn4 hsr hto hm hmv hsx hfr hto';go_wp2_with fail
 go_loopw [16,17,18,45] (fun c16 c17 c18 c45 wr=>∃i:Nat,i<=4/\c16=.bool (nz (qq Q r i))/\c45=.int .i64 i/\Hid (Wd W wr (thY (.slice (some ⟨b,0,none⟩) n cb) (dm I sx (qq Q r i))::thO p o::[thB bb 77 (bM Q)]))) (fun _ _ _ c _=>4-(intOf c).toNat)
 case atStart=>exact⟨0,by omega,rfl,rfl,HW2⟩
 case round=>
  clear HW2 e1 e2 k0;obtain⟨i,hi,rfl,rfl,HP⟩:=hrel;rename World=>wr
  by_cases hi4:i<4
  {
  have t1:(i:Int)<4:=by omega
  have t0:(0:Int)<=i:=by omega
  have hwi:IntKind.i64.wrap ((i:Int)+1)=((i+1:Nat):Int):=by rw[show(i:Int)+1=((i+1:Nat):Int) by omega];exact zF _ (by omega)
  obtain⟨k,hk⟩:∃k,k=sx+i:=⟨_,rfl⟩;have gk:IntKind.i64.wrap ((sx:Int)+i)=(k:Int):=by rw[show(sx:Int)+i=(k:Int) by omega];exact zF _ (by have:=HG.out;omega)
  have GK2:=qA (show wrap64 ((n4:Int)+m+i)=(k:Int) from by rw[show(n4:Int)+m+i=(k:Int) by have:=HG.out;omega];exact IntWalk.wrap64_in _ ⟨by omega,by have:=HG.out;omega⟩);have hqi:=HQ.out.1;by_cases hin:i<r
  {
  have hkt:k<n:=by have:=HG.out;omega
  have u1:(k:Int)<n:=by omega
  have d1:decide ((k:Int)<n)=true:=qG u1;have u2:(k:Int)<n:=by have:=HG.out;omega
  have u3:(0:Int)<=k:=by omega
  have hql:(qq Q r i).length=i:=by rw[yP hqi hi];omega
  have hkI:sx+(qq Q r i).length<I.length:=by rw[hql,<-HI.out.2];have:=HG.out;omega
  have hat:=aPL hkI;have hst:=fun y=>aLT (y:=y) hkI;have hIk:=HC2.out.2 _ (List.getElem_mem hkI);have hdl:=uH (Nat.le_of_lt hkI);have hnext:=aPM hqi hi4 hin;have hQi:=HQ.out.2 _ (List.getElem_mem (l:=Q) (n:=i) (by omega));have hcb:=HP.out.third.blk.cell i;rw[show(bM Q)[i]? =some (.int .u8 ((Q[i]'(by omega):Nat):Int)) from rY (by omega)]at hcb;obtain⟨b', cap', ev,_,_,hz,hzz⟩:=HP.out.rowB.at (i:=k) (by rw[hdl,<-HI.out.2];have:=HG.out;omega);simp only[qO,qI,Addr.mk.injEq,and_true]at ev;obtain⟨rfl,hle,rfl⟩:=ev;clear hle hzz;have hcell:=(HP.out.rowB.rd2.cells) k (.int .u8 ((I[sx+(qq Q r i).length]'hkI:Nat):Int)) (by
    unfold bM;rw[List.getElem?_map,show(dm I sx (qq Q r i))[k]? =some (I[sx+(qq Q r i).length]'hkI) by rw[<-hat,hql,hk]];rfl)
  rw[Addr.add_lit,Nat.zero_add]at hcell;have hzk:=hz k;generalize I[sx+(qq Q r i).length]'hkI=x at *;generalize Q[i]'_=y at *;have hxy:=aDR hIk hQi;have hnz:nz (qq Q r (i+1))=(nz (qq Q r i)||(y != 0)):=by rw[hnext,aFK]
  have hbne:=HP.out.neYB;rw[HBb.out]at hbne hcb;have hW' :=Wd.setB (w:=wr.drew) (cap:=cb) (by rw[hdl,<-HI.out.2];exact HP.out.fr0 (Fr.refl [] wr).drew) (i:=k) (by rw[hdl,<-HI.out.2];have:=HG.out;omega) (x ^^^ y);rw[hdl,<-HI.out.2,show(dm I sx (qq Q r i)).set k (x ^^^ y)=dm I sx (qq Q r (i+1)) by have e:=hst y;rw[hql]at e;rw[hk,e,hnext]]at hW';have HW' :=qA hW';have HNz:=qA hnz;clear hat hst hIk hdl hnext hQi hz hW' hnz hk hkI hql hqi hkt;generalize x ^^^ y=xy at *;have gk2:wrap64 ((n4:Int)+m+i)=(k:Int):=GK2.out;cases hnv:nz (qq Q r i) with
  | true=>{
  rw[hnv,Bool.true_or]at HNz;go_wp2_with fail
  go_region
  clear hcell hcb hzk hxy;go_wp2_with fail
  go_roundw
  case rel=>exact⟨i+1,by omega,by rw[HNz.out],by go_num,HW'⟩
  case measure=>simp[intOf];omega}
  | false=>{
  rw[hnv,Bool.false_or]at HNz;have hyb:((y:Int) != 0)=(y != 0):=by rw[Bool.eq_iff_iff];simp
  go_wp2_with fail
  go_region
  go_wp2_with fail
  go_roundw
  case rel=>exact⟨i+1,by omega,by rw[HNz.out,<-hyb],by go_num,HW'⟩
  case measure=>simp[intOf];omega}}
  {
  have hkt:¬k<n:=by have:=HG.out;omega
  have u1:¬(k:Int)<n:=by omega
  have d1:decide ((k:Int)<n)=false:=qF u1;have hnext:=aLU (q:=Q) (show r<=i by omega);have HP' :=HP.out;rw[<-hnext]at HP';have HN:=qA HP';have HNx:=qA hnext;clear HP' hnext hkt hk hqi hin;have gk2:wrap64 ((n4:Int)+m+i)=(k:Int):=GK2.out;go_wp2_with fail
  go_roundw
  case rel=>exact⟨i+1,by omega,by rw[HNx.out],by go_num,HN⟩
  case measure=>simp[intOf];omega}}
  {
  obtain rfl:i=4:=by omega
  have hqi:=HQ.out.1;have hql:=yP (r:=r) hqi (qJ 4);have hqb:Byt (qq Q r 4):=HQ.out.2.take _;have hsq:sx+(qq Q r 4).length<=I.length:=by rw[hql,<-HI.out.2];have:=HG.out;omega
  have hdl:=uH hsq;rw[<-HI.out.2]at hdl;have hby:=aDT (s:=sx) HC2.out.2 hqb;have hd:=HC.out sx (qq Q r 4) hqb (by rw[hql];omega);have hz0:=aFJ hsq;have hrange:sx+(qq Q r 4).length<=n-4∨n-4<=sx/\sx+(qq Q r 4).length<=n:=by rw[hql];have:=HG.out;omega
  obtain⟨b', cap', ev,hcp,_,_,hzz⟩:=HP.out.rowB.at (i:=0) (by rw[hdl];omega);simp only[qO,qI,Addr.mk.injEq,and_true]at ev;obtain⟨rfl,hle,rfl⟩:=ev;clear hle;clear hzz;rw[hdl]at hcp;have hiff:=aLV (qq Q r 4);cases hnv:nz (qq Q r 4) with
  | false=>{
  have hall:∀x∈qq Q r 4,x=0:=qP fun hn=>by
    have:=hiff.2 hn;rw[hnv]at this;cases this
  have hLd:=pC HP.out HL.out HP.out.rowB.rd2 hby hdl (by omega) hcp (by rw[hz0 hall];exact HC2.out.1);have HLd:=qA hLd;clear hLd hcp hd hz0 hrange hby hiff hall hdl hqb hsq hql hqi HP;go_wp2_with fail
  refine HLd.out.mono ?_;rintro _ w5 ⟨p2,rfl,hW⟩;have HWk:=qA (jG hW HL.out);clear hW HLd;go_wp2_with fail
  refine HWk.out.mono ?_;rintro _ w8 ⟨rfl,hW⟩;have hB:=hW.below;clear hW HWk;go_wp2
  go_ret;exact⟨rfl,hB⟩}
  | true=>{
  obtain⟨hR2,hR1⟩:=hd (hiff.1 hnv) hrange;have hLd:=pB HP.out HL.out HP.out.rowB.rd2 hby hdl (by omega) hcp hR2;have HLd:=qA hLd;have HX:=qA (zH hby (zH hdl hcp));have HR1:=qA hR1;have hcheck:=fun(w' :World) (h:Wd W w' (thY (.slice (some ⟨b,0,none⟩) n cb) (dm I sx (qq Q r 4))::thO p o::[thB bb 77 (bM Q)]))=>oZ h HL.out h.rowB.rd2 hby hdl (by omega) hcp;have HCk:=qA hcheck;generalize (cB (dm I sx (qq Q r 4))).1=c at *;clear hLd hcheck hcp hd hz0 hrange hby hiff hdl hqb hsq hql hqi HP hR1 hR2;go_wp2_with fail
  refine HLd.out.mono ?_;rintro _ w5 ⟨rfl,hW⟩;have HCk:=qA (HCk.out w5 hW);clear hW HLd;rcases HR1.out with rfl|rfl
  all_goals
   go_wp2_with fail
   refine HCk.out.mono ?_;rintro _ w6 ⟨rfl,hW⟩;have HWk:=qA (jG hW HL.out);clear hW HCk;go_wp2_with fail
   refine HWk.out.mono ?_;rintro _ w8 ⟨rfl,hW⟩;have hB:=hW.below;clear hW HWk;go_wp2
   go_ret;exact⟨rfl,hB⟩}}}
theorem aLW{w:World}{a1 a2:Option Addr}{l1 l2:List Nat}{n1 n2 c1 c2:Nat}(h1:RdB w a1 l1)(h2:RdB w a2 l2)(e1:l1.length=n1)(e2:l2.length=n2)(hb:n1<=1073741824)(hc1:n1<=c1)(hc2:n2<=c2):
    Calls Tryz.prog 24 #[.slice a1 n1 c1,.slice a2 n2 c2] w fun e w' =>e=.returned (.bool (decide (l1=l2)))/\Fr [] w w' :=by
 by_cases hl:n1=n2
 {
 subst hl;have HR:=qA (zH h1 (zH h2 (zH e1 e2)));clear h1 h2 e1 e2 hc1 hc2;go_enter Tryz.func24,Tryz.ntmps24
 go_wp2_with fail
 go_loopw [5] (fun x wr=>∃i:Nat,i<=n1/\x=.int .i64 i/\(∃k,wr=w.drewN k)/\Hid (l1.take i=l2.take i)) (fun x _=>n1-(intOf x).toNat)
 case atStart=>exact⟨0,qR _,rfl,⟨0,rfl⟩,qA rfl⟩
 case round=>
  obtain⟨i,hi,rfl,⟨k,rfl⟩,HA⟩:=hrel;by_cases hlt:i<n1
  {
  have i1:i<l1.length:=by rw[HR.out.2.2.1];exact hlt
  have i2:i<l2.length:=by rw[HR.out.2.2.2];exact hlt
  obtain⟨b1,o1,rfl,_,r1⟩:=HR.out.1 i i1;obtain⟨b2,o2,rfl,_,r2⟩:=HR.out.2.1 i i2;have hi1:(i:Int)<n1:=by omega
  have hi0:(0:Int)<=i:=by omega
  have hwi:IntKind.i64.wrap ((i:Int)+1)=((i+1:Nat):Int):=by rw[show(i:Int)+1=((i+1:Nat):Int) by omega];exact zF _ (by omega)
  have t1:l1.take (i+1)=l1.take i++[l1[i]'i1]:=by rw[List.take_add_one,qK i1];rfl
  have t2:l2.take (i+1)=l2.take i++[l2[i]'i2]:=by rw[List.take_add_one,qK i2];rfl
  have hstop:¬l1[i]'i1=l2[i]'i2->¬l1=l2:=by rintro h rfl;exact h rfl
  generalize l1[i]'i1=x at *;generalize l2[i]'i2=y at *;have HT:=qA (zH t1 (zH t2 hstop));clear t1 t2 hstop;by_cases hxy:x=y
  {
  have d1:((x:Int) != (y:Int))=false:=by simp;omega
  have HN:=qA (show l1.take (i+1)=l2.take (i+1) by rw[HT.out.1,HT.out.2.1,HA.out,hxy]);clear hxy HA HT;go_wp2_with fail
  go_quiet (fail)
  go_wp2_with fail
  go_roundw
  case rel=>exact⟨i+1,by omega,by go_num,⟨_,rfl⟩,HN⟩
  case measure=>simp[intOf];omega}
  {
  have d1:((x:Int) != (y:Int))=true:=by simp;omega
  have HN:=qA (HT.out.2.2 hxy);clear hxy HA HT;go_wp2_with fail
  go_quiet (fail)
  go_wp2_with fail
  go_ret;rw[qF HN.out];exact⟨rfl,((Fr.refl [] w).drewN _).drewN _⟩}}
  {
  obtain rfl:i=n1:=by omega
  have HN:=qA (show l1=l2 from by
    have h:=HA.out;rw[List.take_of_length_le (by rw[HR.out.2.2.1];exact qJ _),List.take_of_length_le (by rw[HR.out.2.2.2];exact qJ _)]at h;exact h)
  go_wp2
  go_ret;rw[qG HN.out];exact⟨rfl,(Fr.refl [] w).drewN _⟩}}
 {
 have hb:((n1:Int) != (n2:Int))=true:=by simp;omega
 have HN:=qA (show ¬l1=l2 from by rintro rfl;exact hl (e1.symm.trans e2));clear h1 h2 e1 e2 hl;go_enter Tryz.func24,Tryz.ntmps24
 go_wp2
 go_ret;rw[qF HN.out];exact⟨rfl,Fr.refl _ _⟩}
theorem aDU{w:World}{rb b n cap at_:Nat}{l:List Nat}(hv:Blk w rb 22 [.slice (some ⟨b,0,none⟩) n cap])(hr:RdB w (some ⟨b,0,none⟩) l)(hb:Byt l)(hn:l.length=n)(ha:at_+8<=n)(hc:n<=cap)(hl:n<=1073741824):
    Calls Tryz.prog 40 #[.int .i64 at_,.pointer (some ⟨rb,0,none⟩)] w fun e w' =>e=.returned (.int .u64 (aF (sub l at_ 8):Nat))/\w' =w:=by
 have c0:=hv.cell 0;simp only[zI]at c0;have HS:=qA (show RdB w (some ⟨b,at_,none⟩) (sub l at_ 8)/\Byt (sub l at_ 8)/\(sub l at_ 8).length=8 from⟨by have:=hr.sub at_ 8;rw[Nat.zero_add]at this;exact this,mD hb at_ 8,mC (by omega)⟩);have hw9:IntKind.i64.wrap ((at_:Int)+8)=((at_+8:Nat):Int):=by rw[show(at_:Int)+8=((at_+8:Nat):Int) by omega];exact zF _ (by omega)
 have hp0:(0:Int)<=(at_:Int):=by omega
 have hp1:(at_:Int)<=((at_+8:Nat):Int):=by omega
 have hp2:((at_+8:Nat):Int)<=cap:=by omega
 have hne:¬cap=at_:=by omega
 have t2:((at_+8:Nat):Int).toNat=at_+8:=zC _;have e8:at_+8-at_=8:=by omega
 generalize h8:at_+8=k8 at *;clear hv hr hb hn ha hc hl h8;go_enter Tryz.func40,Tryz.ntmps40
 go_wp2_with fail
 clear c0 hw9 hp0 hp1 hp2 hne t2 e8;go_loopw [4,6,13] (fun r _ c wr2=>∃(j:Nat) (x:Nat),j<=8/\r=.int .u64 x/\c=.int .i64 j/\wr2=w/\Hid (x=aF ((sub l at_ 8).take j))) (fun _ _ c _=>8-(intOf c).toNat)
 case atStart=>exact⟨0,0,by omega,rfl,rfl,rfl,qA rfl⟩
 case round=>
  obtain⟨j,x,hj,rfl,rfl,rfl,HX⟩:=hrel;by_cases hj8:j<8
  {
  have hj8' :(j:Int)<8:=by omega
  have hj0:(0:Int)<=j:=by omega
  have hw2:IntKind.i64.wrap ((j:Int)+1)=((j+1:Nat):Int):=by rw[show(j:Int)+1=((j+1:Nat):Int) by omega];exact zF _ (by omega)
  have hjl:j<(sub l at_ 8).length:=by rw[HS.out.2.2];exact hj8
  obtain⟨b', off', eb,_,c0⟩:=HS.out.1 j hjl;simp only[qI,Addr.mk.injEq,and_true]at eb;obtain⟨rfl,rfl⟩:=eb;have hby:=HS.out.2.1 _ (List.getElem_mem hjl);have hx:x<72057594037927936:=by rw[HX.out];exact iJ HS.out.2.1 hjl (by rw[HS.out.2.2];decide)
  have htk:(sub l at_ 8).take (j+1)=(sub l at_ 8).take j++[(sub l at_ 8)[j]'hjl]:=by rw[List.take_add_one,qK hjl];rfl
  generalize (sub l at_ 8)[j]'hjl=y at *;have hwy:IntKind.u64.wrap (y:Int)=y:=by simp[IntKind.wrap,IntKind.bits,IntKind.signed];omega
  have hwx:IntKind.u64.wrap ((x:Int)*256)=(x:Int)*256:=by simp[IntKind.wrap,IntKind.bits,IntKind.signed];omega
  have hor:=yJ hx hby;have HN:=qA (show x*256+y=aF ((sub l at_ 8).take (j+1)) by rw[htk,nX,<-HX.out]);clear htk HX;go_wp2_with fail
  go_roundw
  case rel=>exact⟨j+1,x*256+y,by omega,rfl,by go_num,trivial,HN⟩
  case measure=>simp[intOf];omega}
  {
  obtain rfl:j=8:=by omega
  have HN:=qA (show x=aF (sub l at_ 8) by
    have e:=HX.out;rw[List.take_of_length_le (by rw[HS.out.2.2];exact qJ _)]at e;exact e)
  clear HX;go_wp2
  go_ret;rw[HN.out];exact⟨rfl,rfl⟩}
def strB(l:List Nat):ByteArray:=strOfNums (l.map fun x:Nat=>(x:Int))
theorem aSC{w:World}{a:Option Addr}{l:List Nat}{n c:Nat}(hr:RdB w a l)(hn:l.length=n)(hp:0<n):(convert 22 9 (.slice a n c)).run Tryz.prog w=.ok (.string (strB l)) w:=by
 obtain⟨b,off,rfl,_⟩:=hr 0 (by omega);refine run_convert_bytes_arg (P:=Tryz.prog) w 22 5 Tryz.underlying22 Tryz.underlying5 b off n c (l.map fun x:Nat=>(x:Int)) (by rw[List.length_map,hn]) (fun i hi=>?_) 9 Tryz.underlying9;obtain⟨b', off', e,_,hc⟩:=hr i (by omega);simp only[qI,Addr.mk.injEq,and_true]at e;obtain⟨rfl,rfl⟩:=e;rw[hc];have hg:(l.map fun x:Nat=>(x:Int)).getD i 0=((l[i]'(by omega):Nat):Int):=by rw[List.getD_eq_getElem?_getD,List.getElem?_map,qK (by omega)];rfl
 rw[hg]
section
variable {W w:World} {ts:List Th} {p q:Nat} {o r:Ob}
end
theorem aOX(l m:List Nat):aF (l++m)=aF l*256 ^ m.length+aF m:=by
 show(l++m).foldl (fun x y=>x*256+y) 0=_
 rw[List.foldl_append];exact nY m (aF l)
theorem wN:∀{n:Nat} {b:List Nat} {i:Nat},i<n->(cQ n b)[i]? =some (iK (b.drop (32*i)))
  | n+1,b,0,_=>by rw[dC];rfl
  | n+1,b,i+1,h=>by
    rw[dC,zJ,wN (by omega),List.drop_drop,show 32+32*i=32*(i+1) by omega]
theorem uJ{b:List Nat}(hb:Byt b)(i:Nat):aF (sub b i 8)<18446744073709551616:=by
 have h1:=fY ((hb.drop i).take 8);have h2:256 ^ ((b.drop i).take 8).length<=256 ^ 8:=Nat.pow_le_pow_right (by decide) (by rw[List.length_take];omega);exact Nat.lt_of_lt_of_le h1 h2
theorem Ob.Pc.img_dec{o:Ob}(h:o.Pc)(k:o.Ok):aHO o.img=(o.m,(o.E:Int),(o.V:Int),o.D,o.now,o.last,o.gone,o.L.map lvR):=by
 obtain⟨h1,h2,h3,h4,h5,h6,h7⟩:=h.ins k;exact aFF h1 h2 h3 h4 h5 h6 h7 (h.fit4 k) (beN 4 (crc (cK o.m o.E o.V o.D o.now o.last o.gone (o.L.map lvR)))) (aM 4 _)
theorem Ob.Pc.img_now{o:Ob}(h:o.Pc)(k:o.Ok):aF (sub o.img 37 8)=aQ o.now:=by
 have e:=h.img_dec k;unfold aHO at e;simp only[zD]at e;rw[<-e.2.2.2.2.1,pX (uJ o.img_byt 37)]
theorem Ob.Pc.img_rec{o:Ob}(h:o.Pc)(k:o.Ok){i:Nat}(hi:i<o.L.length):aF (sub o.img (61+32*i) 8)=(o.L[i]).u/\aF (sub o.img (61+32*i+8) 8)=(o.L[i]).v/\aF (sub o.img (61+32*i+16) 8)=aQ (o.L[i]).wt/\aF (sub o.img (61+32*i+24) 8)=aQ (o.L[i]).t:=by
 have e:=h.img_dec k;unfold aHO at e;simp only[zD]at e;have e2:=e.2.2.2.2.2.2.2;have hn:(o.img.length-65)/32=o.L.length:=by rw[o.img_len];omega
 rw[hn]at e2;have e3:(cQ o.L.length (o.img.drop 61))[i]? =(o.L.map lvR)[i]? :=by rw[e2]
 rw[wN hi,List.getElem?_map,qK hi,List.drop_drop]at e3;have e4:=Option.some.inj e3;unfold iK lvR at e4;simp only[zD,List.drop_drop]at e4;have hv:=fun j=>uJ o.img_byt j;obtain⟨f1,f2,f3,f4⟩:=e4;refine⟨f1,?_,?_,?_⟩
 · rw[<-f2];rfl
 · rw[<-f3,show 61+32*i+8+8=61+32*i+16 by omega];exact(pX (hv _)).symm
 · rw[<-f4,show 61+32*i+8+8+8=61+32*i+24 by omega];exact(pX (hv _)).symm
theorem Ob.img_cfg(o:Ob):sub o.img 5 32=fI o.m o.E o.V o.D:=by
 have e:o.img=kC++(fI o.m o.E o.V o.D++(beN 8 (aQ o.now)++beN 8 o.last++beN 8 o.gone++cA (o.L.map lvR)++beN 4 (crc (cK o.m o.E o.V o.D o.now o.last o.gone (o.L.map lvR))))):=by {
 unfold Ob.img uE
 (conv=>lhs;lhs;unfold cK kD)
 simp only[List.append_assoc]};rw[e];exact cR rfl (aA _ _ _ _)
theorem Ob.img_head(o:Ob):o.img.take 5=kC:=by
 have e:o.img=kC++(fI o.m o.E o.V o.D++(beN 8 (aQ o.now)++beN 8 o.last++beN 8 o.gone++cA (o.L.map lvR)++beN 4 (crc (cK o.m o.E o.V o.D o.now o.last o.gone (o.L.map lvR))))):=by {
 unfold Ob.img uE
 (conv=>lhs;lhs;unfold cK kD)
 simp only[List.append_assoc]};rw[e];exact List.take_left' rfl
theorem Ob.img_sum(o:Ob):aF (sub o.img (o.img.length-8) 8)%4294967296=crc (o.img.take (o.img.length-4)):=by
 obtain⟨B,hB⟩:∃B,B=cK o.m o.E o.V o.D o.now o.last o.gone (o.L.map lvR):=⟨_,rfl⟩;have hI:o.img=B++beN 4 (crc B):=by rw[hB];rfl
 have hBB:Byt B:=by rw[hB];exact gS _ _ _ _ _ _ _ _
 have hl:o.img.length=B.length+4:=by rw[hI,zE,aM]
 have h61:61<=B.length:=by have:=o.img_len;omega
 have e1:o.img.take (o.img.length-4)=B:=by rw[hl,hI];exact List.take_left' (by omega)
 have e2:sub o.img (o.img.length-8) 8=B.drop (B.length-4)++beN 4 (crc B):=by {
 unfold sub;rw[hl,hI,show B.length+4-8=B.length-4 by omega,List.drop_append_of_le_length (by omega),List.take_of_length_le];rw[zE,List.length_drop,aM];omega};rw[e1,e2,aOX,pD,aM];have:=mY hBB;omega
theorem aHW{x:Nat}(h:x<18446744073709551616):Go.bits .and .u64 (x:Int) 4294967295=((x%4294967296:Nat):Int):=by
 have k:=bits_mask .u64 64 (by decide) (fun n h0 h1=>by rw[IntKind.wrap_u64];omega) 32 (by decide) (x:Int) (by omega) (by omega);rw[show((2:Int) ^ 32-1)=4294967295 by decide]at k;rw[k];omega
theorem walk_imageFields(W:World)(s:Int)(ws:(Lit.int .u8 s).wf=true)(am:Option Addr)(lm cm:Nat)(z:Nat->Mv)(hz:nU W am lm z)(hL:fH W):
    Calls Tryz.prog 8 #[.int .u8 s,.slice am lm cm] W fun e W' =>e=.returned (.bool true)/\Below W.heap.size W W' :=by
 obtain⟨s,rfl,hs⟩:=pA ws;have HL:=qA hL;have HP:=qA (aBU (cap:=cm) (Wd.begin W) hs hz);clear ws hL hz hs;go_enter Tryz.func8,Tryz.ntmps8
 go_wp2_with fail
 refine HP.out.mono ?_;rintro _ w1 ⟨p,o,rfl,hW,hB⟩;have hok:=hW.ob;have HS:=qA (yN hW HL.out hB.pc);have hlen:=o.img_len;have hLn:=hok.leE;have hLE:=hok.mE;have hdec:=hB.pc.img_cnt hok;have hnow:=hB.pc.img_now hok;have hrec:=fun {i:Nat} (hi:i<o.L.length)=>hB.pc.img_rec hok hi;have HI:=qA (zH o.img_byt (zH o.img_cfg (zH o.img_head o.img_sum)));have HD:=qA (zH hdec.1 (zH hdec.2 hnow));have HRec:=qA (fun(i:Nat) (hi:i<o.L.length)=>hB.pc.img_rec hok hi);have HB:=qA (zH hok hB.pc);obtain⟨n,hn⟩:∃n,n=o.img.length:=⟨_,rfl⟩;have HN:=qA hn;rw[<-hn]at hlen;have hn65:65<=n:=by omega
 have hnb:n<=600000:=by omega
 have HLen:=qA hlen;clear HP hW hB hok hlen hLn hLE hdec hnow hrec hn;go_wp2_with fail
 refine HS.out.mono ?_;rintro _ w2 ⟨v,rfl,hW⟩;clear HS;obtain⟨b,cb,rfl,hcb,_⟩:=hW.formB (by rw[<-HN.out];omega);rw[<-HN.out]at hcb hW ⊢;have hW2:=(hW.new (t:=thB w2.heap.size 22 [.slice (some ⟨b,0,none⟩) n cb]) (K:=[w2.heap.size]) ((Fr.refl [] w2).alloc (.cells #[.slice (some ⟨b,0,none⟩) n cb] 22)) ⟨Blk.new w2 _ _,rfl⟩ (by simp)).third;have HW2:=qA hW2;have HCb:=qA hcb;clear hW hW2 hcb;have HA:=qA (wG HW2.out);go_wp2_with fail
 refine HA.out.mono ?_;rintro _ w3 ⟨rfl,hF⟩;have HW3:=qA (HW2.out.fr0 hF);clear HA HW2 hF;have HA:=qA (put_ok (HL.out.fr HW3.out.frm (by simp)) o.m o.E o.V o.D HB.out.1.m2 HB.out.2.cf);go_wp2_with fail
 refine HA.out.mono ?_;rintro _ w4 ⟨sv,rfl,hv,hnw,hF⟩;have hW4:=(HW3.out.new (t:=thY sv (fI o.m o.E o.V o.D)) hF ⟨hv,rfl⟩ (fun q hq=>hnw q (by simpa using hq))).swap;obtain⟨sb,sc,rfl,hsc,hsz⟩:=hv.at (i:=0) (by rw[aA];decide);clear hsz;rw[aA]at hsc hW4 ⊢;have HW4:=qA hW4;clear HA HW3 hF hv hnw hW4;have HA:=qA (aFD HW4.out);go_wp2_with fail
 refine HA.out.mono ?_;rintro _ w5 ⟨lv,L,rfl,hlv,hW⟩;have HW5:=qA (show Wd W w5 (thO p o::thB w2.heap.size 22 [.slice (some ⟨b,0,none⟩) n cb]::[thY (.slice (some ⟨b,0,none⟩) n cb) o.img]) from hW.drop.drop2);have HRv:=qA hW.rowV;have hsv:RdB w5 (some ⟨sb,0,none⟩) (fI o.m o.E o.V o.D):=hW.drop.swap.rowB.rd2;have hIb:RdB w5 (some ⟨b,0,none⟩) o.img:=hW.drop.drop2.third.rowB.rd2;have hbk:=HW5.out.swap.blk;obtain⟨la,lc,rfl⟩:=hW.rowV.slice;have hll:L.length=o.L.length:=by rw[<-hlv.1,List.length_map]
 clear HA HW4 hW;have c0:=hbk.cell 0;simp only[zI]at c0;have hst:=aSC (c:=cb) (hIb.take 5) (n:=5) (by rw[HI.out.2.2.1];rfl) (by decide);rw[HI.out.2.2.1,show strB kC={ data:=#[83,69,69,80,1] } from by decide +kernel]at hst;have hsame:=aLW (c1:=cb-5) (c2:=sc) (hIb.sub 5 32) hsv (n1:=32) (n2:=32) (by rw[HI.out.2.1,aA]) (aA _ _ _ _) (by decide) (by have:=HCb.out;omega) hsc;rw[Nat.zero_add,qG HI.out.2.1]at hsame;have HSm:=qA hsame;have HLv:=qA (zH hlv hll);have hn2:n=65+32*L.length:=by rw[hll];exact HLen.out
 have hw1:IntKind.i64.wrap (32*(L.length:Int))=((32*L.length:Nat):Int):=by rw[show 32*(L.length:Int)=((32*L.length:Nat):Int) by omega];exact zF _ (by omega)
 have hw2:IntKind.i64.wrap (65+((32*L.length:Nat):Int))=(n:Int):=by rw[show 65+((32*L.length:Nat):Int)=(n:Int) by omega];exact zF _ (by omega)
 have hw3:wrap64 (65+32*(L.length:Int))=(n:Int):=by rw[show 65+32*(L.length:Int)=(n:Int) by omega];exact IntWalk.wrap64_in _ ⟨by omega,by omega⟩
 have HL2:=qA hn2;have e1:(5:Int)<=cb:=by have:=HCb.out;omega
 have e2:(37:Int)<=cb:=by have:=HCb.out;omega
 have e3:¬cb=0:=by have:=HCb.out;omega
 have e4:¬cb=5:=by have:=HCb.out;omega
 clear hlv hll hn2 hIb hsv hbk hsame hsc;go_wp2_with fail
 refine HSm.out.mono ?_;rintro _ w6 ⟨rfl,hF⟩;have HW6:=qA (HW5.out.fr0 hF);have HR6:=qA (HRv.out.fr0 hF);clear HSm hF HW5 HRv c0 hst hw1 hw2 hw3 e1 e2 e3 e4;have HA:=qA (aBF HW6.out);go_wp2_with fail
 refine HA.out.mono ?_;rintro _ w7 ⟨rfl,hF⟩;have HW7:=qA (HW6.out.fr0 hF);have HR7:=qA (HR6.out.fr0 hF);clear HA hF HW6 HR6;have HRead:=qA (fun(w' :World) (h:Wd W w' (thO p o::thB w2.heap.size 22 [.slice (some ⟨b,0,none⟩) n cb]::[thY (.slice (some ⟨b,0,none⟩) n cb) o.img])) (at_:Nat) (ha:at_+8<=n)=>aDU (at_:=at_) h.swap.blk h.third.rowB.rd2 HI.out.1 HN.out.symm ha HCb.out (by omega));have r37:=HRead.out w7 HW7.out 37 (by omega);have r45:=HRead.out w7 HW7.out 45 (by omega);have r53:=HRead.out w7 HW7.out 53 (by omega);rw[HD.out.2.2]at r37;rw[HD.out.1]at r45;rw[HD.out.2.1]at r53;have H37:=qA r37;have H45:=qA r45;have H53:=qA r53;have HNow:=qA (aDG HW7.out);have hwn:=gU o.now;clear r37 r45 r53;generalize aQ o.now=un at *;go_wp2_with fail
 refine H37.out.mono ?_;rintro _ w8 ⟨rfl,rfl⟩;go_wp2_with fail
 refine HNow.out.mono ?_;rintro _ w8 ⟨rfl,rfl⟩;go_wp2_with fail
 refine H45.out.mono ?_;rintro _ w8 ⟨rfl,rfl⟩;go_wp2_with fail
 refine H53.out.mono ?_;rintro _ w8 ⟨rfl,rfl⟩;clear H37 H45 H53 HNow hwn;go_wp2_with fail
 go_loopw [14,15,16,89] (fun _ _ _ c wr=>∃i:Nat,i<=L.length/\c=.int .i64 i/\Hid (Wd W wr (thO p o::thB w2.heap.size 22 [.slice (some ⟨b,0,none⟩) n cb]::[thY (.slice (some ⟨b,0,none⟩) n cb) o.img])/\dA wr (.slice la L.length lc) L)) (fun _ _ _ c _=>L.length-(intOf c).toNat)
 case atStart=>exact⟨0,by omega,rfl,qA ⟨HW7.out,HR7.out⟩⟩
 case round=>
  clear HW7 HR7;obtain⟨i,hi,rfl,HP⟩:=hrel;rename World=>wr
  by_cases hlt:i<L.length
  {
  have hi1:(i:Int)<L.length:=by omega
  have hi0:(0:Int)<=i:=by omega
  have hwi:IntKind.i64.wrap ((i:Int)+1)=((i+1:Nat):Int):=by rw[show(i:Int)+1=((i+1:Nat):Int) by omega];exact zF _ (by have:=HL2.out;omega)
  have hio:i<o.L.length:=by rw[<-HLv.out.2];exact hlt
  have hrc:=HRec.out i hio;have hcore:lJ (L[i]'hlt)=o.L[i]'hio:=by {
  have e:(L.map lJ)[i]? =o.L[i]? :=by rw[HLv.out.1.1]
  rw[List.getElem?_map,qK hlt,qK hio]at e;exact Option.some.inj e};rw[<-hcore]at hrc;obtain⟨b1,c1', ev,_,_,_,r1⟩:=HP.out.2.at hlt;simp only[qO,true_and]at ev;obtain⟨rfl,rfl⟩:=ev;generalize L[i]'hlt=x at *;have hrc:aF (sub o.img (61+32*i) 8)=x.u/\aF (sub o.img (61+32*i+8) 8)=x.v/\aF (sub o.img (61+32*i+16) 8)=aQ x.wt/\aF (sub o.img (61+32*i+24) 8)=aQ x.t:=hrc;unfold aGF at r1;obtain⟨x0,x1,x2,x3,x4,x5,x6⟩:=r1;have hF1:Fr [] wr (wr.alloc (.cells (lvC x).toArray 74)):=(Fr.refl [] wr).alloc _;have hbl:=Blk.new wr (lvC x) 74;have y2:=hbl.cell 2;have y3:=hbl.cell 3;have y4:=hbl.cell 4;have y5:=hbl.cell 5;simp only[lvC,zI,zJ]at y2 y3 y4 y5;have hWa:=HP.out.1.fr0 hF1;have hka:61+32*i+32<=n:=by have:=HL2.out;omega
  have HRd:Hid (∀w', Fr [] (wr.alloc (.cells (lvC x).toArray 74)) w' -> Calls Tryz.prog 40 #[.int .i64 ((61+32*i:Nat):Int),.pointer (some ⟨w2.heap.size,0,none⟩)] w' (fun e w6=>e=.returned (.int .u64 (x.u:Nat))/\w6=w')/\Calls Tryz.prog 40 #[.int .i64 ((61+32*i+8:Nat):Int),.pointer (some ⟨w2.heap.size,0,none⟩)] w' (fun e w6=>e=.returned (.int .u64 (x.v:Nat))/\w6=w')/\Calls Tryz.prog 40 #[.int .i64 ((61+32*i+16:Nat):Int),.pointer (some ⟨w2.heap.size,0,none⟩)] w' (fun e w6=>e=.returned (.int .u64 (aQ x.wt:Nat))/\w6=w')/\Calls Tryz.prog 40 #[.int .i64 ((61+32*i+24:Nat):Int),.pointer (some ⟨w2.heap.size,0,none⟩)] w' (fun e w6=>e=.returned (.int .u64 (aQ x.t:Nat))/\w6=w')):=qA (by
    intro w' hf;have hw:=hWa.fr0 hf;have q:=fun(at_:Nat) (ha:at_+8<=n)=>aDU (at_:=at_) hw.swap.blk hw.third.rowB.rd2 HI.out.1 HN.out.symm ha HCb.out (by omega);rw[<-hrc.1,<-hrc.2.1,<-hrc.2.2.1,<-hrc.2.2.2];exact⟨q (61+32*i) (by omega),q (61+32*i+8) (by omega),q (61+32*i+16) (by omega),q (61+32*i+24) (by omega)⟩)
  have HNew:Hid (∀w', Fr [] (wr.alloc (.cells (lvC x).toArray 74)) w' -> Wd W w' (thO p o::thB w2.heap.size 22 [.slice (some ⟨b,0,none⟩) n cb]::[thY (.slice (some ⟨b,0,none⟩) n cb) o.img])/\dA w' (.slice (some ⟨b1,0,none⟩) L.length lc) L):=qA (fun w' hf=>⟨hWa.fr0 hf,HP.out.2.fr0 (hF1.trans' hf)⟩);have hwt:=gU x.wt;have hwx:=gU x.t;generalize aQ x.wt=uw at *;generalize aQ x.t=ut at *;obtain⟨k,hk⟩:∃k,k=61+32*i:=⟨_,rfl⟩;rw[<-hk]at HRd;have HK:=qA (zH hk hka);have g1:IntKind.i64.wrap (32*(i:Int))=((32*i:Nat):Int):=by rw[show 32*(i:Int)=((32*i:Nat):Int) by omega];exact zF _ (by omega)
  have g4:IntKind.i64.wrap ((k:Int)+8)=((k+8:Nat):Int):=by rw[show(k:Int)+8=((k+8:Nat):Int) by omega];exact zF _ (by omega)
  have g5:IntKind.i64.wrap ((k:Int)+16)=((k+16:Nat):Int):=by rw[show(k:Int)+16=((k+16:Nat):Int) by omega];exact zF _ (by omega)
  have g6:IntKind.i64.wrap ((k:Int)+24)=((k+24:Nat):Int):=by rw[show(k:Int)+24=((k+24:Nat):Int) by omega];exact zF _ (by omega)
  have G3:=qA (show wrap64 (61+32*(i:Int))=(k:Int) from by rw[show 61+32*(i:Int)=(k:Int) by omega];exact IntWalk.wrap64_in _ ⟨by omega,by omega⟩);have G2:=qA (show IntKind.i64.wrap (61+((32*i:Nat):Int))=(k:Int) from by rw[show 61+((32*i:Nat):Int)=(k:Int) by omega];exact zF _ (by omega));clear hcore hio hrc hF1 hbl hWa hka hk HP;have g2:=G2.out;have g3:=G3.out;go_wp2_with fail
  clear g1 g2 g3 x0 x1 x2 x3 x4 x5 x6;rw[G3.out];refine cX (fun w' =>Fr [] (wr.alloc (.cells (lvC x).toArray 74)) w') (by kernel_rfl) (by kernel_rfl) ((Fr.refl [] _).drew) ?_;iterate 2 (refine aH (by kernel_rfl) (fun KK hK=>?_);go_simp;refine hK.out _ ?_;clear hK KK)
  refine aS (by kernel_rfl) (.int .u64 (x.u:Nat)) (fun w' hw' =>?_) ?_
  {
  go_simp;refine(HRd.out w' hw').1.mono ?_;rintro _ w6 ⟨rfl,rfl⟩;exact⟨rfl,hw'⟩};iterate 2 (refine aH (by kernel_rfl) (fun KK hK=>?_);go_simp;refine hK.out _ ?_;clear hK KK)
  refine aS (by kernel_rfl) (.int .u64 (x.u:Nat)) (fun w' hw' =>?_) ?_
  {
  have cx:=hw'.cell y2 (by simp);go_simp;first|exact hw' | exact⟨rfl,hw'⟩|skip};iterate 5 (refine aH (by kernel_rfl) (fun KK hK=>?_);go_simp;refine hK.out _ ?_;clear hK KK)
  refine aS (by kernel_rfl) (.int .u64 (x.v:Nat)) (fun w' hw' =>?_) ?_
  {
  go_simp;refine(HRd.out w' hw').2.1.mono ?_;rintro _ w6 ⟨rfl,rfl⟩;exact⟨rfl,hw'⟩};iterate 2 (refine aH (by kernel_rfl) (fun KK hK=>?_);go_simp;refine hK.out _ ?_;clear hK KK)
  refine aS (by kernel_rfl) (.int .u64 (x.v:Nat)) (fun w' hw' =>?_) ?_
  {
  have cx:=hw'.cell y3 (by simp);go_simp;first|exact hw' | exact⟨rfl,hw'⟩|skip};iterate 6 (refine aH (by kernel_rfl) (fun KK hK=>?_);go_simp;refine hK.out _ ?_;clear hK KK)
  refine aS (by kernel_rfl) (.int .u64 (uw:Nat)) (fun w' hw' =>?_) ?_
  {
  go_simp;refine(HRd.out w' hw').2.2.1.mono ?_;rintro _ w6 ⟨rfl,rfl⟩;exact⟨rfl,hw'⟩};iterate 2 (refine aH (by kernel_rfl) (fun KK hK=>?_);go_simp;refine hK.out _ ?_;clear hK KK)
  refine aS (by kernel_rfl) (.int .i64 x.wt) (fun w' hw' =>?_) ?_
  {
  have cx:=hw'.cell y4 (by simp);go_simp;first|exact hw' | exact⟨rfl,hw'⟩|skip};iterate 7 (refine aH (by kernel_rfl) (fun KK hK=>?_);go_simp;refine hK.out _ ?_;clear hK KK)
  refine aS (by kernel_rfl) (.int .u64 (ut:Nat)) (fun w' hw' =>?_) ?_
  {
  go_simp;refine(HRd.out w' hw').2.2.2.mono ?_;rintro _ w6 ⟨rfl,rfl⟩;exact⟨rfl,hw'⟩};iterate 2 (refine aH (by kernel_rfl) (fun KK hK=>?_);go_simp;refine hK.out _ ?_;clear hK KK)
  refine aS (by kernel_rfl) (.int .i64 x.t) (fun w' hw' =>?_) ?_
  {
  have cx:=hw'.cell y5 (by simp);go_simp;first|exact hw' | exact⟨rfl,hw'⟩|skip};iterate 3 (refine aH (by kernel_rfl) (fun KK hK=>?_);go_simp;refine hK.out _ ?_;clear hK KK)
  refine fZ ?_;intro w8 hf8;have HP8:=qA (HNew.out w8 hf8);clear hf8 y2 y3 y4 y5 hwt hwx HRd HNew g4 g5 g6;go_wp2_with fail
  go_roundw
  case rel=>exact⟨i+1,by omega,by go_num,HP8⟩
  case measure=>simp[intOf];omega}
  {
  obtain rfl:i=L.length:=by omega
  have hW:=HP.out.1;obtain⟨n8,hn8⟩:∃n8,n8=n-8:=⟨_,rfl⟩;obtain⟨n4,hn4⟩:∃n4,n4=n-4:=⟨_,rfl⟩;have hv8:=uJ HI.out.1 n8;have hsum:=HI.out.2.2.2;rw[<-HN.out,<-hn8,<-hn4]at hsum;have hand:=aHW hv8;rw[hsum]at hand;have hcr:=mY (HI.out.1.take n4);have HRd:=qA (show ∀w', Wd W w' (thO p o::thB w2.heap.size 22 [.slice (some ⟨b,0,none⟩) n cb]::[thY (.slice (some ⟨b,0,none⟩) n cb) o.img])->Calls Tryz.prog 40 #[.int .i64 ((n8:Nat):Int),.pointer (some ⟨w2.heap.size,0,none⟩)] w' (fun e w6=>e=.returned (.int .u64 (aF (sub o.img n8 8):Nat))/\w6=w') from fun w' h=>aDU h.swap.blk h.third.rowB.rd2 HI.out.1 HN.out.symm (by omega) HCb.out (by omega));have HSm:=qA (show ∀w', Wd W w' (thO p o::thB w2.heap.size 22 [.slice (some ⟨b,0,none⟩) n cb]::[thY (.slice (some ⟨b,0,none⟩) n cb) o.img])->Calls Tryz.prog 15 #[.slice (some ⟨b,0,none⟩) n4 cb] w' (fun e w6=>e=.returned (.int .u32 (crc (o.img.take n4):Nat))/\w6=w') from fun w' h=>by
    have k:=aBJ (cap:=cb) (h.third.rowB.rd2.take n4) (HI.out.1.take n4) (by rw[List.length_take];omega);rw[show(o.img.take n4).length=n4 by rw[List.length_take,<-HN.out];omega]at k;exact k)
  have HC0:=qA (show ∀w', Wd W w' (thO p o::thB w2.heap.size 22 [.slice (some ⟨b,0,none⟩) n cb]::[thY (.slice (some ⟨b,0,none⟩) n cb) o.img])->w'.cell? ⟨w2.heap.size,0,none⟩=some (.slice (some ⟨b,0,none⟩) n cb) from fun w' h=>h.swap.blk.cell 0);generalize aF (sub o.img n8 8)=v8 at *;generalize crc (o.img.take n4)=cr at *;have hwc:IntKind.u64.wrap (cr:Int)=cr:=by rw[IntKind.wrap_u64];omega
  have k8:IntKind.i64.wrap ((n:Int)-8)=(n8:Int):=by rw[show(n:Int)-8=(n8:Int) by omega];exact zF _ (by omega)
  have k4:IntKind.i64.wrap ((n:Int)-4)=(n4:Int):=by rw[show(n:Int)-4=(n4:Int) by omega];exact zF _ (by omega)
  have e1:(0:Int)<=n4:=by omega
  have e2:(n4:Int)<=cb:=by have:=HCb.out;omega
  have e3:¬cb=0:=by have:=HCb.out;omega
  have HW:=qA hW;clear hW hn8 hn4 hv8 hsum hcr HP;go_wp2_with fail
  refine cX (fun w' =>Wd W w' (thO p o::thB w2.heap.size 22 [.slice (some ⟨b,0,none⟩) n cb]::[thY (.slice (some ⟨b,0,none⟩) n cb) o.img])) (by kernel_rfl) (by kernel_rfl) (HW.out.fr0 ((Fr.refl [] _).drew)) ?_;iterate 1 (refine aH (by kernel_rfl) (fun KK hK=>?_);go_simp;refine hK.out _ ?_;clear hK KK)
  refine aS (by kernel_rfl) (.slice (some ⟨b,0,none⟩) n cb) (fun w' hw' =>?_) ?_
  {
  have cx:=HC0.out w' hw';go_simp;first|exact hw' | exact⟨rfl,hw'⟩|skip};iterate 2 (refine aH (by kernel_rfl) (fun KK hK=>?_);go_simp;refine hK.out _ ?_;clear hK KK)
  refine aS (by kernel_rfl) (.int .u64 (v8:Nat)) (fun w' hw' =>?_) ?_
  {
  go_simp;refine(HRd.out w' hw').mono ?_;rintro _ w6 ⟨rfl,rfl⟩;exact⟨rfl,hw'⟩};iterate 1 (refine aH (by kernel_rfl) (fun KK hK=>?_);go_simp;refine hK.out _ ?_;clear hK KK)
  refine aS (by kernel_rfl) (.slice (some ⟨b,0,none⟩) n cb) (fun w' hw' =>?_) ?_
  {
  have cx:=HC0.out w' hw';go_simp;first|exact hw' | exact⟨rfl,hw'⟩|skip};refine aS (by kernel_rfl) (.slice (some ⟨b,0,none⟩) n cb) (fun w' hw' =>?_) ?_
  {
  have cx:=HC0.out w' hw';go_simp;first|exact hw' | exact⟨rfl,hw'⟩|skip};iterate 3 (refine aH (by kernel_rfl) (fun KK hK=>?_);go_simp;refine hK.out _ ?_;clear hK KK)
  refine aS (by kernel_rfl) (.int .u32 (cr:Nat)) (fun w' hw' =>?_) ?_
  {
  go_simp;refine(HSm.out w' hw').mono ?_;rintro _ w6 ⟨rfl,rfl⟩;exact⟨rfl,hw'⟩};iterate 3 (refine aH (by kernel_rfl) (fun KK hK=>?_);go_simp;refine hK.out _ ?_;clear hK KK)
  refine aS (by kernel_rfl) (.bool true) (fun w' hw' =>?_) ?_
  {
  go_simp;refine(jG hw' HL.out).mono ?_;rintro _ w6 ⟨rfl,h1⟩;exact⟨rfl,h1⟩};iterate 2 (refine aH (by kernel_rfl) (fun KK hK=>?_);go_simp;refine hK.out _ ?_;clear hK KK)
  refine fZ ?_;intro w5 hf5;have hB:=hf5.below;clear hf5;go_wp2
  go_ret;exact⟨rfl,hB⟩}
end Go.Proofs.YtjdgpcjbgjnahaaGreatDoor
namespace Go.Proofs.YtjdgpcjbgjnahaaGreatDoor
end Go.Proofs.YtjdgpcjbgjnahaaGreatDoor
