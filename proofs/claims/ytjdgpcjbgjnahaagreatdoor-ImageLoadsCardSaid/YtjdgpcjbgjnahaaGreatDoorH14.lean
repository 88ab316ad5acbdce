/- The document's window: left; its state in memory; what it is asked, in one step. -/
import Derived.Test.YtjdgpcjbgjnahaaGreatDoorH12
import Derived.Test.YtjdgpcjbgjnahaaGreatDoorH13
import Derived.Test.YtjdgpcjbgjnahaaGreatDoorH1
import Derived.Test.YtjdgpcjbgjnahaaGreatDoorH10
import Derived.Test.YtjdgpcjbgjnahaaGreatDoorH11
import Derived.Test.YtjdgpcjbgjnahaaGreatDoorH3
import Derived.Test.YtjdgpcjbgjnahaaGreatDoorH9
set_option maxRecDepth 10000
set_option maxHeartbeats 1600000
set_option linter.unusedSimpArgs false
set_option linter.unusedVariables false
/- The CRC-32 of bytes: the walk of the document's Sum. -/
namespace Go.Proofs.YtjdgpcjbgjnahaaGreatDoor
open Go.RowKit
theorem aLE{w:World}{a:Option Addr}{l:List Nat}{cap:Nat}(hr:RdB w a l)(hb:Byt l)(hl:l.length<=4611686018427387904):
    Calls Tryz.prog 16 #[.slice a l.length cap] w fun e w' =>e=.returned (.int .u32 (crc l:Nat))/\w' =w:=by
 obtain⟨n,hn⟩:∃n,n=l.length:=⟨_,rfl⟩;rw[<-hn]at hl ⊢;have HR:=qA (zI hr (zI hb hn));clear hr hb hn;go_enter Tryz.func16,Tryz.ntmps16
 go_wp2_with fail
 go_loopw [3,4] (fun r i wr=>∃(k:Nat) (x:Nat),k<=n/\r=.int .u32 x/\i=.int .i64 k/\wr=w/\x<4294967296/\Hid (x=mS 4294967295 (l.take k))) (fun _ i _=>n-(intOf i).toNat)
 case atStart=>exact⟨0,4294967295,qS _,rfl,rfl,rfl,by decide,qA rfl⟩
 case round=>
  obtain⟨k,x,hk,rfl,rfl,rfl,hx,HX⟩:=hrel;by_cases hlt:k<n
  {
  have hlt' :(k:Int)<n:=by omega
  have hk0:(0:Int)<=k:=by omega
  have hw1:IntKind.i64.wrap ((k:Int)+1)=((k+1:Nat):Int):=by rw[show(k:Int)+1=((k+1:Nat):Int) by omega];exact zG _ (by omega)
  have hkl:k<l.length:=by rw[<-HR.out.2.2];exact hlt
  obtain⟨b,off,rfl,_,c0⟩:=HR.out.1 k hkl;have hby:=HR.out.2.1 _ (List.getElem_mem hkl);have htk:l.take (k+1)=l.take k++[l[k]'hkl]:=by rw[List.take_add_one,qL hkl];rfl
  generalize l[k]'hkl=y at *;have hwy:IntKind.u32.wrap (y:Int)=y:=wrap_u32 (by omega);have hxy:Go.bits .xor .u32 (x:Int) (y:Int)=((x ^^^ y:Nat):Int):=jW hx (by omega);have hlx:x ^^^ y<4294967296:=uP hx (by omega);have HN:=qA (show wM 8 (x ^^^ y)=mS 4294967295 (l.take (k+1)) by rw[htk,uQ,<-HX.out];rfl);clear htk HX;generalize x ^^^ y=z at *;go_wp2_with fail
  go_loopw [3,5] (fun r i wr2=>∃(j:Nat) (x:Nat),j<=8/\r=.int .u32 x/\i=.int .i64 j/\wr2=wr/\x<4294967296/\Hid (wM (8-j) x=mS 4294967295 (l.take (k+1)))) (fun _ i _=>8-(intOf i).toNat)
  case atStart=>exact⟨0,z,by omega,rfl,rfl,rfl,hlx,HN⟩
  case round=>
   clear HN hlx hwy hxy;obtain⟨j,x,hj,rfl,rfl,rfl,hx,HX⟩:=hrel;by_cases hj8:j<8
   {
   have hj8' :(j:Int)<8:=by omega
   have hw2:IntKind.i64.wrap ((j:Int)+1)=((j+1:Nat):Int):=by rw[show(j:Int)+1=((j+1:Nat):Int) by omega];exact zG _ (by omega)
   have hlt2:=wN hx;have HN:=qA (show wM (8-(j+1)) (rT x)=mS 4294967295 (l.take (k+1)) by
     rw[<-HX.out,show 8-j=(8-(j+1))+1 by omega];rfl)
   have hq:IntKind.u32.wrap (((x/2:Nat):Int))=((x/2:Nat):Int):=wrap_u32 (by omega);have hm:IntKind.u32.wrap (((x%2:Nat):Int))=((x%2:Nat):Int):=wrap_u32 (by omega);have tq:(x:Int).tdiv 2=((x/2:Nat):Int):=by rw[Int.tdiv_eq_ediv_of_nonneg (by omega)];omega
   have tm:(x:Int).tmod 2=((x%2:Nat):Int):=by rw[Int.tmod_eq_emod_of_nonneg (by omega)];omega
   by_cases h1:x%2=1
   {
   have es:rT x=x/2 ^^^ 3988292384:=qD h1;have e3:Go.bits .xor .u32 ((x/2:Nat):Int) 3988292384=((x/2 ^^^ 3988292384:Nat):Int):=jW (a:=x/2) (b:=3988292384) (by omega) (by decide);rw[es]at HN hlt2;rw[h1]at tm hm;clear HX es;generalize x/2=y at *;go_wp2_with fail
   go_roundw
   case rel=>exact⟨j+1,y ^^^ 3988292384,by omega,rfl,by go_num,trivial,hlt2,HN⟩
   case measure=>simp[intOf];omega}
   {
   have es:rT x=x/2:=qC h1;have h0:x%2=0:=by omega
   rw[es]at HN hlt2;rw[h0]at tm hm;clear HX es h1;generalize x/2=y at *;go_wp2_with fail
   go_roundw
   case rel=>exact⟨j+1,y,by omega,rfl,by go_num,trivial,hlt2,HN⟩
   case measure=>simp[intOf];omega}}
   {
   obtain rfl:j=8:=by omega
   have HN:=qA (show x=mS 4294967295 (l.take (k+1)) from HX.out);clear HX;go_wp2_with fail
   go_roundw
   case rel=>exact⟨k+1,x,by omega,rfl,by go_num,trivial,hx,HN⟩
   case measure=>simp[intOf];omega}}
  {
  obtain rfl:k=n:=by omega
  have hnx:Go.bits .xor .u32 (x:Int) 4294967295=((x ^^^ 4294967295:Nat):Int):=jW hx (show(4294967295:Nat)<4294967296 by decide);go_wp2
  go_ret;refine⟨?_,rfl⟩;have e:=HX.out;rw[HR.out.2.2,List.take_length]at e;rw[e];rfl}
def iJ(len:Nat)(zs:List Int):List Nat:=(zs.take len).map Int.toNat
theorem vW{W:World}{a:Option Addr}{len cap:Nat}{zs:List Int}(h:yE .u8 W a len cap zs):(iJ len zs).length=len/\len<=cap:=by
 unfold iJ;rw[List.length_map,List.length_take];rcases h with⟨_,h1,h2,h3⟩|⟨x,_,h1,_,h3,_⟩
 · subst h1 h2 h3;exact⟨rfl,qK _⟩
 · omega
theorem aPW{z:Int}(h:(Lit.int .u8 z).wf=true):0<=z/\z<256:=by
 unfold Lit.wf at h;simp only[qX,decide_eq_true_eq]at h;have e1:IntKind.u8.min=0:=by decide
 have e2:IntKind.u8.max=255:=by decide
 omega
theorem vX{W:World}{a:Option Addr}{len cap:Nat}{zs:List Int}(h:yE .u8 W a len cap zs):Byt (iJ len zs):=fun b hb=>by
 obtain⟨z,hz,rfl⟩:=qW.1 hb;rcases h with⟨_,_,_,h3⟩|⟨x,_,_,_,_,_,hw⟩
 · subst h3;simp at hz
 {
 have:=hw z (List.mem_of_mem_take hz);have:=aPW this;omega}
theorem aLF{W:World}{a:Option Addr}{len cap:Nat}{zs:List Int}(h:yE .u8 W a len cap zs):RdB W a (iJ len zs):=fun i hi=>by
 have hl:=(vW h).1;have hb:=vX h;rcases h with⟨_,h1,_,_⟩|⟨x,rfl,h1,_,h3,hc,hw⟩
 · omega
 {
 have c0:=hc 0 (by omega);obtain⟨b,off,sp⟩:=x;have hsp:sp=none:=by {
 cases sp with
 | none=>rfl
 | some s=>{
 have e:(⟨b,off,some s⟩:Addr).add 0=⟨b,off,some s⟩:=rfl;rw[e]at c0;unfold World.cell? at c0;split at c0
 · simp at c0
 · cases c0}};subst hsp;have ci:=hc i (by omega);rw[Addr.add_lit]at ci;refine⟨b,off,rfl,wK ci,?_⟩;rw[ci];have hi' :i<zs.length:=by omega
 have hg:zs.getD i 0=zs[i]:=by rw[List.getD_eq_getElem?_getD,qL hi'];rfl
 have e1:(iJ len zs)[i]? =some (zs[i]).toNat:=by {
 unfold iJ;rw[List.getElem?_map,List.getElem?_take_of_lt (by omega),qL hi'];rfl};have e2:(iJ len zs)[i]'hi=(zs[i]).toNat:=Option.some.inj ((qL hi).symm.trans e1);have h0:=aPW (hw zs[i] (List.getElem_mem _));rw[e2,hg];congr 2
 omega}
structure Bp (s k:Nat) (o:Ob):Prop where
  pc:o.Pc
  s256:s<256
  m:o.m=1+s
  E:o.E=12
  V:o.V=9
  D:o.D=5
  now0:0<=o.now
  now:o.now<=7*k
  last:o.last<=k
  gone:o.gone<=k
theorem Wd.formB{W w:World}{ts:List Th}{v:Value}{l:List Nat}(h:Wd W w (thY v l::ts))(h0:0<l.length):∃b cap,v=.slice (some ⟨b,0,none⟩) l.length cap/\l.length<=cap/\RdB w (some ⟨b,0,none⟩) l:=by
 have hr:=h.rowB;obtain⟨b,cap,rfl,hc,_⟩:=hr.at h0;exact⟨b,cap,rfl,hc,hr.rd⟩
theorem cX.rd2{w:World}{a:Option Addr}{n cap:Nat}{l:List Nat}(h:cX w (.slice a n cap) l):RdB w a l:=by
 obtain⟨a', c', e⟩:=h.slice;simp only[qP]at e;obtain⟨rfl,rfl,rfl⟩:=e;exact h.rd
theorem cX.mt(w:World):cX (w.alloc (.cells #[] 5)) (.slice (some ⟨w.heap.size,0,none⟩) 0 0) []:=
  ⟨rfl,.inr ⟨w.heap.size,0,#[],rfl,qS _,Blk.new w [] 5,qK _,by decide,by decide,rfl⟩⟩
section
variable {w:World} {v:Value}
end
section
variable {W w:World} {ts:List Th} {p:Nat} {o:Ob} {v:Value}
end
def uN(l:List Nat):ByteArray:=strOfNums (l.map fun x:Nat=>(x:Int))
theorem aLG{l m:List Nat}(hl:Byt l)(hm:Byt m):uN l=uN m↔l=m:=by
 constructor
 {
 intro h;have e:(uN l).data.toList=(uN m).data.toList:=by rw[h]
 unfold uN at e;rw[strOfNums_data,strOfNums_data,List.map_map,List.map_map]at e;have k:=congrArg (List.map UInt8.toNat) e;rw[List.map_map,List.map_map]at k;have key:∀(l:List Nat),Byt l->l.map (UInt8.toNat ∘ ((fun n:Int=>UInt8.ofNat n.toNat) ∘ fun x:Nat=>(x:Int)))=l:=fun l hl=>by
   (conv=>rhs;rw[<-List.map_id l])
   refine List.map_congr_left fun x hx=>?_;show(UInt8.ofNat ((x:Int).toNat)).toNat=x
   rw[zD,UInt8.toNat_ofNat', Nat.mod_eq_of_lt];exact hl x hx
 rw[key l hl,key m hm]at k;exact k}
 · rintro rfl;rfl
theorem aSK{w:World}{a:Option Addr}{l:List Nat}{n c:Nat}(hr:RdB w a l)(hn:l.length=n)(hp:0<n):(convert 22 9 (.slice a n c)).run Tryz.prog w=.ok (.string (uN l)) w:=by
 obtain⟨b,off,rfl,_⟩:=hr 0 (by omega);refine run_convert_bytes_arg (P:=Tryz.prog) w 22 5 Tryz.underlying22 Tryz.underlying5 b off n c (l.map fun x:Nat=>(x:Int)) (by rw[List.length_map,hn]) (fun i hi=>?_) 9 Tryz.underlying9;obtain⟨b', off', e,_,hc⟩:=hr i (by omega);simp only[qI,Addr.mk.injEq,and_true]at e;obtain⟨rfl,rfl⟩:=e;rw[hc];have hg:(l.map fun x:Nat=>(x:Int)).getD i 0=((l[i]'(by omega):Nat):Int):=by rw[List.getD_eq_getElem?_getD,List.getElem?_map,qL (by omega)];rfl
 rw[hg]
section
variable {W w:World} {ts:List Th} {p q:Nat} {o r:Ob}
end
def nM:List Value:=[.string { data:=#[119,105,110,100,111,119] },.int .i64 1,.int .i64 9223372036854775807,.string { data:=#[101,100,103,101,115] },.int .i64 1,.int .i64 16384,.string { data:=#[118,101,114,116,115] },.int .i64 2,.int .i64 4096,.string { data:=#[100,114,97,119,115] },.int .i64 0,.int .i64 16384]
section
variable {w:World} {m E V D:Int}
theorem aHD(w:World)(m E V D:Int):Calls Tryz.prog 157 #[.agg #[.int .i64 m,.int .i64 E,.int .i64 V,.int .i64 D]] w fun e w' =>∃g,e=.returned (.slice (some ⟨g,0,none⟩) 4 4)/\w.heap.size<=g/\Blk w' g 2 [.int .i64 m,.int .i64 E,.int .i64 V,.int .i64 D]/\Fr [] w w' :=by
 have hb:=Blk.new w [.int .i64 m,.int .i64 E,.int .i64 V,.int .i64 D] 31;have r0:=hb.cell 0;have r1:=hb.cell 1;have r2:=hb.cell 2;have r3:=hb.cell 3;simp only[zJ,zK]at r0 r1 r2 r3;clear hb;go_enter Tryz.func157,Tryz.ntmps157
 go_wp2_with fail
 go_ret;have hn:=Blk.new (w.alloc (.cells #[.int .i64 m,.int .i64 E,.int .i64 V,.int .i64 D] 31)) [.int .i64 m,.int .i64 E,.int .i64 V,.int .i64 D] 2;rw[World.size_alloc]at hn;exact⟨_,rfl,by simp,hn,((Fr.refl [] w).alloc _).alloc _⟩
theorem aPB(w:World):Calls Tryz.prog 179 #[] w fun e w' =>∃g,e=.returned (.slice (some ⟨g,0,none⟩) 4 4)/\w.heap.size<=g/\Blk w' g 267 nM/\Fr [] w w' :=by
 go_enter Tryz.func179,Tryz.ntmps179
 go_wp2_with fail
 go_ret;exact⟨_,rfl,qK _,Blk.new _ nM _,(Fr.refl [] w).alloc _⟩
def tN(m E V D:Int)(i:Nat):Prop:=(0<i->1<=m)/\(1<i->1<=E/\E<=16384)/\(2<i->2<=V/\V<=4096)/\(3<i->0<=D/\D<=16384)
theorem tN.all(h:tN m E V D 4):eZ m E V D=true:=by
 obtain⟨h1,h2,h3,h4⟩:=h;have:=h1 (by decide);have:=h2 (by decide);have:=h3 (by decide);have:=h4 (by decide);refine cO.2 ?_;omega
def Fd39(m E V D:Int)(v:Value):Prop:=(eZ m E V D=true/\v=.string { data:=#[] })∨(eZ m E V D=false/\(v=.string { data:=#[119,105,110,100,111,119] }∨v=.string { data:=#[101,100,103,101,115] }∨v=.string { data:=#[118,101,114,116,115] }∨v=.string { data:=#[100,114,97,119,115] }))
theorem aLH(w:World)(m E V D:Int)(hm:m<=9223372036854775807):Calls Tryz.prog 139 #[.agg #[.int .i64 m,.int .i64 E,.int .i64 V,.int .i64 D]] w fun e w' =>∃v,e=.returned v/\Fd39 m E V D v/\Fr [] w w' :=by
 have hb:=Blk.new w [.int .i64 m,.int .i64 E,.int .i64 V,.int .i64 D] 31;have r0:=hb.cell 0;have r1:=hb.cell 1;have r2:=hb.cell 2;have r3:=hb.cell 3;simp only[zJ,zK]at r0 r1 r2 r3;have HFA:=qA (show Fr [] w (w.alloc (.cells #[.int .i64 m,.int .i64 E,.int .i64 V,.int .i64 D] 31)) from(Fr.refl [] w).alloc _);have HM:=qA hm;clear hb hm;go_enter Tryz.func139,Tryz.ntmps139
 go_wp2_with fail
 refine(aHD _ m E V D).mono ?_;rintro _ w1 ⟨g,rfl,_,hg,hF⟩;have HF1:=qA (HFA.out.trans' hF);have HG:=qA hg;clear hF hg HFA r0 r1 r2 r3;go_wp2_with fail
 refine(aPB _).mono ?_;rintro _ w2 ⟨q,rfl,_,hq,hF⟩;have HF2:=qA (HF1.out.trans' hF);have HB:=qA (show Blk w2 g 2 [.int .i64 m,.int .i64 E,.int .i64 V,.int .i64 D]/\Blk w2 q 267 nM from⟨hF.blk HG.out (by simp),hq⟩);clear hF hq HG HF1;go_wp2_with fail
 go_loopw [5] (fun c wr=>∃i:Nat,i<=4/\c=.int .i64 i/\(∃k,wr=w2.drewN k)/\Hid (tN m E V D i)) (fun c _=>4-(intOf c).toNat)
 case atStart=>exact⟨0,by omega,rfl,⟨0,rfl⟩,qA ⟨fun h=>absurd h (by omega),fun h=>absurd h (by omega),fun h=>absurd h (by omega),fun h=>absurd h (by omega)⟩⟩
 case round=>
  obtain⟨i,hi,rfl,⟨k,rfl⟩,HO⟩:=hrel;have hw1:IntKind.i64.wrap ((i:Int)+1)=((i+1:Nat):Int):=by rw[show(i:Int)+1=((i+1:Nat):Int) by omega];exact zG _ (by omega)
  have hcs:i=0∨i=1∨i=2∨i=3∨i=4:=by omega
  rcases hcs with rfl|rfl|rfl|rfl|rfl
  {
  have x0:=HB.out.1.cell 0;have y0:=HB.out.2.cell 0;have y1:=HB.out.2.cell 1;have y2:=HB.out.2.cell 2;simp only[nM,zJ,zK]at x0 y0 y1 y2;by_cases h1:m<1
  {
  have d1:decide (m<1)=true:=qG h1;have HN:=qA h1;clear h1 hi;go_wp2_with fail
  go_quiet (fail)
  go_wp2_with fail
  go_ret;exact⟨_,rfl,.inr ⟨Bool.eq_false_iff.2 fun h=>(by have:=cO.1 h;have:=HN.out;omega),.inl rfl⟩,HF2.out.drewN _⟩}
  {
  have d1:decide (m<1)=false:=qF h1;have h2:¬m>9223372036854775807:=by have:=HM.out;omega
  have d2:decide (m>9223372036854775807)=false:=qF h2;have HN:=qA (show tN m E V D 1 from by
    have k:=HO.out;unfold tN at k ⊢;omega)
  clear h1 h2 hi;go_wp2_with fail
  go_quiet (fail)
  go_wp2_with fail
  go_roundw
  case rel=>exact⟨1,by omega,by go_num,⟨_,rfl⟩,HN⟩
  case measure=>simp[intOf]}}
  {
  have x0:=HB.out.1.cell 1;have y0:=HB.out.2.cell 3;have y1:=HB.out.2.cell 4;have y2:=HB.out.2.cell 5;simp only[nM,zJ,zK]at x0 y0 y1 y2;by_cases h1:E<1
  {
  have d1:decide (E<1)=true:=qG h1;have HN:=qA h1;clear h1 hi;go_wp2_with fail
  go_quiet (fail)
  go_wp2_with fail
  go_ret;exact⟨_,rfl,.inr ⟨Bool.eq_false_iff.2 fun h=>(by have:=cO.1 h;have:=HN.out;omega),.inr (.inl rfl)⟩,HF2.out.drewN _⟩}
  {
  have d1:decide (E<1)=false:=qF h1;by_cases h2:E>16384
  {
  have d2:decide (E>16384)=true:=qG h2;have HN:=qA h2;clear h1 h2 hi;go_wp2_with fail
  go_quiet (fail)
  go_wp2_with fail
  go_ret;exact⟨_,rfl,.inr ⟨Bool.eq_false_iff.2 fun h=>(by have:=cO.1 h;have:=HN.out;omega),.inr (.inl rfl)⟩,HF2.out.drewN _⟩}
  {
  have d2:decide (E>16384)=false:=qF h2;have HN:=qA (show tN m E V D 2 from by
    have k:=HO.out;unfold tN at k ⊢;omega)
  clear h1 h2 hi;go_wp2_with fail
  go_quiet (fail)
  go_wp2_with fail
  go_roundw
  case rel=>exact⟨2,by omega,by go_num,⟨_,rfl⟩,HN⟩
  case measure=>simp[intOf]}}}
  {
  have x0:=HB.out.1.cell 2;have y0:=HB.out.2.cell 6;have y1:=HB.out.2.cell 7;have y2:=HB.out.2.cell 8;simp only[nM,zJ,zK]at x0 y0 y1 y2;by_cases h1:V<2
  {
  have d1:decide (V<2)=true:=qG h1;have HN:=qA h1;clear h1 hi;go_wp2_with fail
  go_quiet (fail)
  go_wp2_with fail
  go_ret;exact⟨_,rfl,.inr ⟨Bool.eq_false_iff.2 fun h=>(by have:=cO.1 h;have:=HN.out;omega),.inr (.inr (.inl rfl))⟩,HF2.out.drewN _⟩}
  {
  have d1:decide (V<2)=false:=qF h1;by_cases h2:V>4096
  {
  have d2:decide (V>4096)=true:=qG h2;have HN:=qA h2;clear h1 h2 hi;go_wp2_with fail
  go_quiet (fail)
  go_wp2_with fail
  go_ret;exact⟨_,rfl,.inr ⟨Bool.eq_false_iff.2 fun h=>(by have:=cO.1 h;have:=HN.out;omega),.inr (.inr (.inl rfl))⟩,HF2.out.drewN _⟩}
  {
  have d2:decide (V>4096)=false:=qF h2;have HN:=qA (show tN m E V D 3 from by
    have k:=HO.out;unfold tN at k ⊢;omega)
  clear h1 h2 hi;go_wp2_with fail
  go_quiet (fail)
  go_wp2_with fail
  go_roundw
  case rel=>exact⟨3,by omega,by go_num,⟨_,rfl⟩,HN⟩
  case measure=>simp[intOf]}}}
  {
  have x0:=HB.out.1.cell 3;have y0:=HB.out.2.cell 9;have y1:=HB.out.2.cell 10;have y2:=HB.out.2.cell 11;simp only[nM,zJ,zK]at x0 y0 y1 y2;by_cases h1:D<0
  {
  have d1:decide (D<0)=true:=qG h1;have HN:=qA h1;clear h1 hi;go_wp2_with fail
  go_quiet (fail)
  go_wp2_with fail
  go_ret;exact⟨_,rfl,.inr ⟨Bool.eq_false_iff.2 fun h=>(by have:=cO.1 h;have:=HN.out;omega),.inr (.inr (.inr rfl))⟩,HF2.out.drewN _⟩}
  {
  have d1:decide (D<0)=false:=qF h1;by_cases h2:D>16384
  {
  have d2:decide (D>16384)=true:=qG h2;have HN:=qA h2;clear h1 h2 hi;go_wp2_with fail
  go_quiet (fail)
  go_wp2_with fail
  go_ret;exact⟨_,rfl,.inr ⟨Bool.eq_false_iff.2 fun h=>(by have:=cO.1 h;have:=HN.out;omega),.inr (.inr (.inr rfl))⟩,HF2.out.drewN _⟩}
  {
  have d2:decide (D>16384)=false:=qF h2;have HN:=qA (show tN m E V D 4 from by
    have k:=HO.out;unfold tN at k ⊢;omega)
  clear h1 h2 hi;go_wp2_with fail
  go_quiet (fail)
  go_wp2_with fail
  go_roundw
  case rel=>exact⟨4,by omega,by go_num,⟨_,rfl⟩,HN⟩
  case measure=>simp[intOf]}}}
  {
  go_wp2_with fail
  go_ret;exact⟨_,rfl,.inl ⟨HO.out.all,rfl⟩,HF2.out.drewN _⟩}
def aEZ(m E V D:Int):Int:=if eZ m E V D=true then 0 else 2
theorem aAR(h:eZ m E V D=true):aEZ m E V D=0:=qD h
theorem aAS(h:eZ m E V D=false):aEZ m E V D=2:=by unfold aEZ;rw[h];rfl
theorem aDB(w:World)(m E V D:Int)(hm:m<=9223372036854775807):Calls Tryz.prog 93 #[.agg #[.int .i64 m,.int .i64 E,.int .i64 V,.int .i64 D]] w fun e w' =>e=.returned (.int .i64 (aEZ m E V D))/\Fr [] w w' :=by
 have hb:=Blk.new w [.int .i64 m,.int .i64 E,.int .i64 V,.int .i64 D] 31;have r0:=hb.cell 0;have r1:=hb.cell 1;have r2:=hb.cell 2;have r3:=hb.cell 3;simp only[zJ,zK]at r0 r1 r2 r3;have HFA:=qA (show Fr [] w (w.alloc (.cells #[.int .i64 m,.int .i64 E,.int .i64 V,.int .i64 D] 31)) from(Fr.refl [] w).alloc _);have HF:=qA (aLH (w.alloc (.cells #[.int .i64 m,.int .i64 E,.int .i64 V,.int .i64 D] 31)) m E V D hm);clear hb hm;go_enter Tryz.func93,Tryz.ntmps93
 go_wp2_with fail
 refine HF.out.mono ?_;rintro _ w1 ⟨v,rfl,hv,hF⟩;have HF2:=qA (HFA.out.trans' hF);clear HF hF HFA r0 r1 r2 r3;rcases hv with⟨hc,rfl⟩|⟨hc,rfl|rfl|rfl|rfl⟩
 all_goals
  have HC:=qA hc;clear hc;go_wp2_with fail
  go_ret;exact⟨by first|rw[aAR HC.out];rfl|rw[aAS HC.out];rfl,HF2.out⟩
end
theorem aDC{w:World}{a:Option Addr}{l:List Nat}{n cap:Nat}(hr:RdB w a l)(hb:Byt l)(hn:l.length=n)(hl:n<=8):
    Calls Tryz.prog 54 #[.slice a n cap] w fun e w' =>e=.returned (.int .u64 (aC l:Nat))/\w' =w:=by
 have HS:=qA (zI hr (zI hb hn));clear hr hb hn;go_enter Tryz.func54,Tryz.ntmps54
 go_wp2_with fail
 go_loopw [3,4] (fun r c wr=>∃(j:Nat) (x:Nat),j<=n/\r=.int .u64 x/\c=.int .i64 j/\wr=w/\Hid (x=aC (l.take j))) (fun _ c _=>n-(intOf c).toNat)
 case atStart=>exact⟨0,0,by omega,rfl,rfl,rfl,qA rfl⟩
 case round=>
  obtain⟨j,x,hj,rfl,rfl,rfl,HX⟩:=hrel;by_cases hjn:j<n
  {
  have hj1:(j:Int)<n:=by omega
  have hj0:(0:Int)<=j:=by omega
  have hw2:IntKind.i64.wrap ((j:Int)+1)=((j+1:Nat):Int):=by rw[show(j:Int)+1=((j+1:Nat):Int) by omega];exact zG _ (by omega)
  have hjl:j<l.length:=by rw[HS.out.2.2];exact hjn
  obtain⟨b,off,rfl,_,c0⟩:=HS.out.1 j hjl;have hby:=HS.out.2.1 _ (List.getElem_mem hjl);have hx:x<72057594037927936:=by rw[HX.out];exact gM HS.out.2.1 hjl (by rw[HS.out.2.2];exact hl)
  have htk:l.take (j+1)=l.take j++[l[j]'hjl]:=by rw[List.take_add_one,qL hjl];rfl
  generalize l[j]'hjl=y at *;have hwy:IntKind.u64.wrap (y:Int)=y:=by simp[IntKind.wrap,IntKind.bits,IntKind.signed];omega
  have hwx:IntKind.u64.wrap ((x:Int)*256)=((x*256:Nat):Int):=by rw[IntKind.wrap_u64];omega
  have hws:IntKind.u64.wrap (((x*256:Nat):Int)+y)=((x*256+y:Nat):Int):=by rw[IntKind.wrap_u64];omega
  have HN:=qA (show x*256+y=aC (l.take (j+1)) by rw[htk,kJ,<-HX.out]);clear htk HX;go_wp2_with fail
  go_roundw
  case rel=>exact⟨j+1,x*256+y,by omega,rfl,by go_num,trivial,HN⟩
  case measure=>simp[intOf];omega}
  {
  obtain rfl:j=n:=by omega
  have HN:=qA (show x=aC l by
    have e:=HX.out;rw[List.take_of_length_le (by rw[HS.out.2.2];exact qK _)]at e;exact e)
  clear HX;go_wp2
  go_ret;rw[HN.out];exact⟨rfl,rfl⟩}
theorem aPC{w:World}{g:Nat}{x0 x1 x2 x3:Int}(h:Blk w g 2 [.int .i64 x0,.int .i64 x1,.int .i64 x2,.int .i64 x3]):
    Calls Tryz.prog 92 #[.slice (some ⟨g,0,none⟩) 4 4] w fun e w' =>e=.returned (.agg #[.int .i64 x0,.int .i64 x1,.int .i64 x2,.int .i64 x3])/\Fr [] w w' :=by
 have hF:Fr [] w (w.alloc (.cells #[.int .i64 0,.int .i64 0,.int .i64 0,.int .i64 0] 31)):=(Fr.refl [] w).alloc _;have hb:=hF.blk h (by simp);have c0:=hb.cell 0;have c1:=hb.cell 1;have c2:=hb.cell 2;have c3:=hb.cell 3;have hq:=Blk.new w [.int .i64 x0,.int .i64 x1,.int .i64 x2,.int .i64 x3] 31;have r0:=hq.cell 0;have r1:=hq.cell 1;have r2:=hq.cell 2;have r3:=hq.cell 3;simp only[zJ,zK]at c0 c1 c2 c3 r0 r1 r2 r3;have HF:=qA (show Fr [] w (w.alloc (.cells #[.int .i64 x0,.int .i64 x1,.int .i64 x2,.int .i64 x3] 31)) from(Fr.refl [] w).alloc _);clear h hb hq hF;go_enter Tryz.func92,Tryz.ntmps92
 go_wp2_with fail
 go_region
 go_wp2
 exact bodyPost_ret (v:=.agg #[.int .i64 x0,.int .i64 x1,.int .i64 x2,.int .i64 x3]) (by simp[results,Tryz.results92,go_sem,r0,r1,r2,r3]) rfl ⟨rfl,HF.out.drew⟩
theorem aPD{v:Nat}(h:v<72057594037927936):IntKind.i64.wrap (aI v*256)=aI (v*256):=by
 have e:aI v=v:=by unfold aI;rw[qD (by omega)]
 rw[e,IntKind.wrap_i64];unfold aI;split<;>omega
theorem aSL{x y:Nat}(hx:x<72057594037927936)(hy:y<256):Go.bits .or .i64 (aI (x*256)) (y:Int)=aI (x*256+y):=by
 have h1:BitVec.ofInt IntKind.i64.bits (aI (x*256))=BitVec.ofNat IntKind.i64.bits (x*256):=by {
 apply BitVec.eq_of_toNat_eq;rw[BitVec.toNat_ofInt,BitVec.toNat_ofNat];show(aI (x*256)%(2 ^ 64:Nat)).toNat=x*256%2 ^ 64
 unfold aI;split<;>omega};have h2:BitVec.ofInt IntKind.i64.bits (y:Int)=BitVec.ofNat IntKind.i64.bits y:=by rw[BitVec.ofInt_natCast]
 have h3:(BitVec.ofNat IntKind.i64.bits (x*256) ||| BitVec.ofNat IntKind.i64.bits y).toNat=x*256+y:=by {
 rw[BitVec.toNat_or,BitVec.toNat_ofNat,BitVec.toNat_ofNat];show x*256%2 ^ 64 ||| y%2 ^ 64=_
 rw[Nat.mod_eq_of_lt (by omega),Nat.mod_eq_of_lt (by omega)];have:=Nat.two_pow_add_eq_or_of_lt (i:=8) hy x;rw[Nat.mul_comm x 256];exact this.symm};simp only[Go.bits,h1,h2];rw[h3,IntKind.wrap_i64];unfold aI;split<;>omega
def oN(l:List Nat)(k j:Nat):List Value:=(iP l k).set k (.int .i64 (aI (aC ((sub l (8*k) 8).take j))))
theorem aHE{l:List Nat}{k:Nat}(hk:k<4):oN l k 0=iP l k:=by
 have h:(iP l k)[k]? =some (.int .i64 (aI (aC ((sub l (8*k) 8).take 0)))):=by {
 unfold iP;rw[List.getElem?_map,List.getElem?_range hk];simp only[Option.map_some,Nat.lt_irrefl,if_false];rfl};unfold oN;obtain⟨hl,e⟩:=qT.1 h;rw[<-e];exact List.set_getElem_self hl
theorem aLI{l:List Nat}{k j:Nat}(v:Value):(oN l k j).set k v=(iP l k).set k v:=by unfold oN;rw[List.set_set]
theorem aDD{l:List Nat}{k:Nat}(hk:k<4)(hl:8*k+8<=l.length):oN l k 8=iP l (k+1):=by
 have e8:(sub l (8*k) 8).take 8=sub l (8*k) 8:=List.take_of_length_le (by rw[fR hl];exact qK _);unfold oN;rw[e8];have hcs:k=0∨k=1∨k=2∨k=3:=by omega
 rcases hcs with rfl|rfl|rfl|rfl<;>rfl
theorem aPE{l:List Nat}{k j:Nat}(hk:k<4):(oN l k j)[k]? =some (.int .i64 (aI (aC ((sub l (8*k) 8).take j)))):=by
 unfold oN;rw[List.getElem?_set_self (by simp[iP];exact hk)]
def G39(X0 X1 X2 X3:Int):Value:=if eZ X0 X1 X2 X3=true then .tuple #[.agg #[.int .i64 X0,.int .i64 X1,.int .i64 X2,.int .i64 X3],.int .i64 32,.int .i64 0] else .tuple #[.agg #[.int .i64 0,.int .i64 0,.int .i64 0,.int .i64 0],.int .i64 0,.int .i64 2]
theorem aLJ{X0 X1 X2 X3:Int}(h:eZ X0 X1 X2 X3=true):G39 X0 X1 X2 X3=.tuple #[.agg #[.int .i64 X0,.int .i64 X1,.int .i64 X2,.int .i64 X3],.int .i64 32,.int .i64 0]:=qD h
theorem aLK{X0 X1 X2 X3:Int}(h:eZ X0 X1 X2 X3=false):G39 X0 X1 X2 X3=.tuple #[.agg #[.int .i64 0,.int .i64 0,.int .i64 0,.int .i64 0],.int .i64 0,.int .i64 2]:=by unfold G39;rw[h];rfl
theorem aLL{w:World}{b off n cap:Nat}{l:List Nat}(hr:RdB w (some ⟨b,off,none⟩) l)(hb:Byt l)(hn:l.length=n)(h32:32<=n):
    Calls Tryz.prog 55 #[.slice (some ⟨b,off,none⟩) n cap] w fun e w' =>e=.returned (G39 (aI (aC (sub l 0 8))) (aI (aC (sub l 8 8))) (aI (aC (sub l 16 8))) (aI (aC (sub l 24 8))))/\Fr [] w w' :=by
 have d0:decide ((n:Int)<32)=false:=qF (by omega);have d1:¬n<32:=by omega
 have HR:=qA (zI hr (zI hb (zI hn h32)));have hmk:∀w' :World,(Instr.makeSlice 136 (.int .i64 4) (.int .i64 4)).run Tryz.prog w' =.ok (.slice (some ⟨w'.heap.size,0,none⟩) 4 4) (w'.alloc (.cells #[.int .i64 0,.int .i64 0,.int .i64 0,.int .i64 0] 2)):=fun w' =>by kernel_rfl
 have HP0:=qA (show Fr [] w ((w.alloc (.cells #[.int .i64 0,.int .i64 0,.int .i64 0,.int .i64 0] 31)).alloc (.cells #[.int .i64 0,.int .i64 0,.int .i64 0,.int .i64 0] 2))/\Blk ((w.alloc (.cells #[.int .i64 0,.int .i64 0,.int .i64 0,.int .i64 0] 31)).alloc (.cells #[.int .i64 0,.int .i64 0,.int .i64 0,.int .i64 0] 2)) (w.heap.size+1) 2 (iP l 0)/\Blk ((w.alloc (.cells #[.int .i64 0,.int .i64 0,.int .i64 0,.int .i64 0] 31)).alloc (.cells #[.int .i64 0,.int .i64 0,.int .i64 0,.int .i64 0] 2)) w.heap.size 31 [.int .i64 0,.int .i64 0,.int .i64 0,.int .i64 0] from by
   refine⟨((Fr.refl [] w).alloc _).alloc _,?_,((Fr.refl [] _).alloc _).blk (Blk.new w [.int .i64 0,.int .i64 0,.int .i64 0,.int .i64 0] 31) (by simp)⟩;have k:=Blk.new (w.alloc (.cells #[.int .i64 0,.int .i64 0,.int .i64 0,.int .i64 0] 31)) [.int .i64 0,.int .i64 0,.int .i64 0,.int .i64 0] 2;rw[World.size_alloc]at k;exact k)
 obtain⟨X0,hX0⟩:∃X,X=aI (aC (sub l 0 8)):=⟨_,rfl⟩;obtain⟨X1,hX1⟩:∃X,X=aI (aC (sub l 8 8)):=⟨_,rfl⟩;obtain⟨X2,hX2⟩:∃X,X=aI (aC (sub l 16 8)):=⟨_,rfl⟩;obtain⟨X3,hX3⟩:∃X,X=aI (aC (sub l 24 8)):=⟨_,rfl⟩;rw[<-hX0,<-hX1,<-hX2,<-hX3];have HXs:=qA (zI hX0 (zI hX1 (zI hX2 hX3)));clear hr hb hn h32 hX0 hX1 hX2 hX3;go_enter Tryz.func55,Tryz.ntmps55
 go_wp2_with fail
 clear d0 d1 hmk;go_loopw [6,7] (fun i _ wr=>∃k:Nat,k<=4/\i=.int .i64 k/\Hid (Fr [] w wr/\Blk wr (w.heap.size+1) 2 (iP l k)/\Blk wr w.heap.size 31 [.int .i64 0,.int .i64 0,.int .i64 0,.int .i64 0])) (fun i _ _=>4-(intOf i).toNat)
 case atStart=>exact⟨0,by omega,rfl,HP0⟩
 case round=>
  clear HP0;obtain⟨k,hk,rfl,HP⟩:=hrel;rename World=>wr
  by_cases hlt:k<4
  {
  have hlt' :(k:Int)<4:=by omega
  have hk0:(0:Int)<=k:=by omega
  have hw1:IntKind.i64.wrap ((k:Int)+1)=((k+1:Nat):Int):=by rw[show(k:Int)+1=((k+1:Nat):Int) by omega];exact zG _ (by omega)
  have HP1:=qA (show Fr [] w wr/\Blk wr (w.heap.size+1) 2 (oN l k 0)/\Blk wr w.heap.size 31 [.int .i64 0,.int .i64 0,.int .i64 0,.int .i64 0] by rw[aHE hlt];exact HP.out);clear HP;go_wp2_with fail
  go_loopw [7] (fun c wr=>∃j:Nat,j<=8/\c=.int .i64 j/\Hid (Fr [] w wr/\Blk wr (w.heap.size+1) 2 (oN l k j)/\Blk wr w.heap.size 31 [.int .i64 0,.int .i64 0,.int .i64 0,.int .i64 0])) (fun c _=>8-(intOf c).toNat)
  case atStart=>exact⟨0,by omega,rfl,HP1⟩
  case round=>
   clear HP1;obtain⟨j,hj,rfl,HP⟩:=hrel;rename World=>wr
   by_cases hj8:j<8
   {
   have hj8' :(j:Int)<8:=by omega
   have hj0:(0:Int)<=j:=by omega
   have hw2:IntKind.i64.wrap ((j:Int)+1)=((j+1:Nat):Int):=by rw[show(j:Int)+1=((j+1:Nat):Int) by omega];exact zG _ (by omega)
   have hn32:=HR.out.2.2;obtain⟨k8,hk8⟩:∃k8,k8=8*k:=⟨_,rfl⟩;obtain⟨kj,hkj⟩:∃kj,kj=8*k+j:=⟨_,rfl⟩;have g4:(kj:Int)<n:=by omega
   have g5:(0:Int)<=(kj:Int):=by omega
   have G1:=qA (show IntKind.i64.wrap (8*(k:Int))=(k8:Int) from by rw[show 8*(k:Int)=(k8:Int) by omega];exact zG _ (by omega));have G2:=qA (show IntKind.i64.wrap ((k8:Int)+j)=(kj:Int) from by rw[show(k8:Int)+j=(kj:Int) by omega];exact zG _ (by omega));have G3:=qA (show wrap64 (8*(k:Int)+j)=(kj:Int) from by rw[show 8*(k:Int)+j=(kj:Int) by omega];exact IntWalk.wrap64_in _ ⟨by omega,by omega⟩);have HKj:=qA hkj;clear hk8 hkj;have hsl:(sub l (8*k) 8).length=8:=fR (by omega);have hjl:j<(sub l (8*k) 8).length:=by rw[hsl];exact hj8
   obtain⟨b', off', eb,_,cb⟩:=((HR.out.1.sub (8*k) 8).fr HP.out.1) j hjl;simp only[qI,Addr.mk.injEq,and_true]at eb;obtain⟨rfl,rfl⟩:=eb;have hby:=fS HR.out.2.1 (8*k) 8 _ (List.getElem_mem hjl);obtain⟨x,hx⟩:∃x,x=aC ((sub l (8*k) 8).take j):=⟨_,rfl⟩;have hx56:x<72057594037927936:=by rw[hx];exact gM (fS HR.out.2.1 (8*k) 8) hjl (by rw[hsl];decide)
   have htk:aC ((sub l (8*k) 8).take (j+1))=x*256+(sub l (8*k) 8)[j]'hjl:=by rw[List.take_add_one,qL hjl,hx,<-kJ];rfl
   have cg:=HP.out.2.1.cell k;rw[aPE hlt,<-hx]at cg;have zg:=HP.out.2.1.frozen k;have hset:∀v,(oN l k j).set k v=(iP l k).set k v:=fun v=>aLI v;generalize (sub l (8*k) 8)[j]'hjl=y at *;have hsh:=aPD hx56;have hor:=aSL hx56 hby;have hwy:IntKind.i64.wrap (y:Int)=y:=zG _ (by omega);obtain⟨xy,hxy⟩:∃xy,xy=aI (x*256+y):=⟨_,rfl⟩;rw[<-hxy]at hor;have hwxy:IntKind.i64.wrap xy=xy:=by {
   rw[hxy];have:=dX (x*256+y) (by omega);exact zG _ this};have HN:=qA (show Fr [] w (wr.drew.setCell ⟨w.heap.size+1,k,none⟩ (.int .i64 xy))/\Blk (wr.drew.setCell ⟨w.heap.size+1,k,none⟩ (.int .i64 xy)) (w.heap.size+1) 2 (oN l k (j+1))/\Blk (wr.drew.setCell ⟨w.heap.size+1,k,none⟩ (.int .i64 xy)) w.heap.size 31 [.int .i64 0,.int .i64 0,.int .i64 0,.int .i64 0] from by
     have e:oN l k (j+1)=(oN l k j).set k (.int .i64 xy):=by rw[hset,hxy,<-htk];rfl
     have hd:Fr [] wr wr.drew:=(Fr.refl [] wr).drew;refine⟨(HP.out.1.trans' hd).setCell _ _ (.inr (by simp)),?_,?_⟩
     · rw[e];exact(hd.blk HP.out.2.1 (by simp)).set k _
     · exact((Fr.refl [w.heap.size+1] wr.drew).setCell _ _ (.inl (by simp))).blk (hd.blk HP.out.2.2 (by simp)) (by simp))
   rw[Nat.add_assoc,<-HKj.out]at cb;generalize aI x=zx at *;generalize aI (x*256)=zy at *;clear hx hx56 htk hset hxy hsl hjl hby HP hn32;have g1:=G1.out;have g2:=G2.out;have g3:=G3.out;go_wp2_with fail
   go_region
   go_wp2_with fail
   go_roundw
   case rel=>exact⟨j+1,by omega,by go_num,HN⟩
   case measure=>simp[intOf];omega}
   {
   obtain rfl:j=8:=by omega
   have HN:=qA (show Fr [] w wr/\Blk wr (w.heap.size+1) 2 (iP l (k+1))/\Blk wr w.heap.size 31 [.int .i64 0,.int .i64 0,.int .i64 0,.int .i64 0] by
     rw[<-aDD hlt (by have:=HR.out.2.2;omega)];exact HP.out)
   clear HP;go_wp2_with fail
   go_roundw
   case rel=>exact⟨k+1,by omega,by go_num,HN⟩
   case measure=>simp[intOf];omega}}
  {
  obtain rfl:k=4:=by omega
  have hv8:∀i,i+8<=32->aC (sub l i 8)<18446744073709551616:=fun i hi=>by
    have h1:=fK (fS HR.out.2.1 i 8);rw[fR (by have:=HR.out.2.2;omega)]at h1;exact h1
  have hb4:Blk wr (w.heap.size+1) 2 [.int .i64 X0,.int .i64 X1,.int .i64 X2,.int .i64 X3]:=by rw[HXs.out.1,HXs.out.2.1,HXs.out.2.2.1,HXs.out.2.2.2];exact HP.out.2.1
  have hX0m:X0<=9223372036854775807:=by rw[HXs.out.1];exact(dX _ (hv8 0 (by omega))).2
  have HM:=qA (aPC hb4);have HX:=qA hX0m;clear hv8 hb4 hX0m;go_wp2_with fail
  refine HM.out.mono ?_;rintro _ w3 ⟨rfl,hF⟩;have hF2:=HP.out.1.trans' hF;have hcf:=hF.blk HP.out.2.2 (by simp);have hbx:=Blk.new w3 [.int .i64 X0,.int .i64 X1,.int .i64 X2,.int .i64 X3] 31;have r0:=hbx.cell 0;have r1:=hbx.cell 1;have r2:=hbx.cell 2;have r3:=hbx.cell 3;simp only[zJ,zK]at r0 r1 r2 r3;have hF3:Fr [] w3 (w3.alloc (.cells #[.int .i64 X0,.int .i64 X1,.int .i64 X2,.int .i64 X3] 31)):=(Fr.refl [] w3).alloc _;have HF:=qA (show Fr [] w (w3.alloc (.cells #[.int .i64 X0,.int .i64 X1,.int .i64 X2,.int .i64 X3] 31))/\Blk (w3.alloc (.cells #[.int .i64 X0,.int .i64 X1,.int .i64 X2,.int .i64 X3] 31)) w.heap.size 31 [.int .i64 0,.int .i64 0,.int .i64 0,.int .i64 0]/\Blk (w3.alloc (.cells #[.int .i64 X0,.int .i64 X1,.int .i64 X2,.int .i64 X3] 31)) w3.heap.size 31 [.int .i64 X0,.int .i64 X1,.int .i64 X2,.int .i64 X3] from⟨hF2.trans' hF3,hF3.blk hcf (by simp),hbx⟩);have HCk:=qA (aDB (w3.alloc (.cells #[.int .i64 X0,.int .i64 X1,.int .i64 X2,.int .i64 X3] 31)) X0 X1 X2 X3 HX.out);clear hF hF2 hcf hbx hF3 HM HP;cases hc:eZ X0 X1 X2 X3 with
  | true=>{
  rw[aAR hc]at HCk;have HCc:=qA hc;clear hc;go_wp2_with fail
  refine HCk.out.mono ?_;rintro _ w4 ⟨rfl,hF⟩;have hq:=hF.blk HF.out.2.1 (by simp);have hx:=hF.blk HF.out.2.2 (by simp);have r0:=hx.cell 0;have r1:=hx.cell 1;have r2:=hx.cell 2;have r3:=hx.cell 3;have c0:=hq.cell 0;have c1:=hq.cell 1;have c2:=hq.cell 2;have c3:=hq.cell 3;have z0:=hq.frozen 0;have z1:=hq.frozen 1;have z2:=hq.frozen 2;have z3:=hq.frozen 3;simp only[zJ,zK]at r0 r1 r2 r3 c0 c1 c2 c3;have HF4:=qA (HF.out.1.trans' hF);have hs:=(((hq.set 0 (.int .i64 X0)).set 1 (.int .i64 X1)).set 2 (.int .i64 X2)).set 3 (.int .i64 X3);have q0:=hs.cell 0;have q1:=hs.cell 1;have q2:=hs.cell 2;have q3:=hs.cell 3;simp only[qY,qU,zJ,zK]at q0 q1 q2 q3;clear hq hx hs hF HF HCk;go_wp2
  exact bodyPost_ret (v:=.tuple #[.agg #[.int .i64 X0,.int .i64 X1,.int .i64 X2,.int .i64 X3],.int .i64 32,.int .i64 0]) (by simp[results,Tryz.results55,go_sem,q0,q1,q2,q3]) rfl ⟨by rw[aLJ HCc.out],(((HF4.out.setCell _ _ (.inr (qK _))).setCell _ _ (.inr (qK _))).setCell _ _ (.inr (qK _))).setCell _ _ (.inr (qK _))⟩}
  | false=>{
  rw[aAS hc]at HCk;have HCc:=qA hc;clear hc;go_wp2_with fail
  refine HCk.out.mono ?_;rintro _ w4 ⟨rfl,hF⟩;have hq:=hF.blk HF.out.2.1 (by simp);have c0:=hq.cell 0;have c1:=hq.cell 1;have c2:=hq.cell 2;have c3:=hq.cell 3;have z0:=hq.frozen 0;have z1:=hq.frozen 1;have z2:=hq.frozen 2;have z3:=hq.frozen 3;simp only[zJ,zK]at c0 c1 c2 c3;have HF4:=qA (HF.out.1.trans' hF);have hs:=(((hq.set 0 (.int .i64 0)).set 1 (.int .i64 0)).set 2 (.int .i64 0)).set 3 (.int .i64 0);have q0:=hs.cell 0;have q1:=hs.cell 1;have q2:=hs.cell 2;have q3:=hs.cell 3;simp only[qY,qU,zJ,zK]at q0 q1 q2 q3;clear hq hs hF HF HCk r0 r1 r2 r3;go_wp2
  exact bodyPost_ret (v:=.tuple #[.agg #[.int .i64 0,.int .i64 0,.int .i64 0,.int .i64 0],.int .i64 0,.int .i64 2]) (by simp[results,Tryz.results55,go_sem,q0,q1,q2,q3]) rfl ⟨by rw[aLK HCc.out],(((HF4.out.setCell _ _ (.inr (qK _))).setCell _ _ (.inr (qK _))).setCell _ _ (.inr (qK _))).setCell _ _ (.inr (qK _))⟩}}
def fJ{α:Type}(f:Nat->α)(i:Nat)(v:α):Nat->α:=fun k=>if k=i then v else f k
theorem gG{α:Type}(f:Nat->α)(i:Nat)(v:α):fJ f i v i=v:=qD rfl
theorem bY{α:Type}(f:Nat->α){i k:Nat}(v:α)(h:k≠i):fJ f i v k=f k:=qC h
def gN(P:Program)(K:Value->World->Prop):Result Go.Next->Prop
  | .ok (.value u) w' =>K u w'
  | .ok .skip w' =>K undef w'
  | .ok (.enter f args) w' =>Calls P f args w' (fun e w'' =>∃v,e=.returned v/\K v w'')
  | _=>False
attribute [go_sem] gN
theorem aHF{P:Program}{o:Oper}{a:Act}{K:Value->World->Prop}{K' :Act->World->Prop}{Q' :Exit->Act->World->Prop}(h:∀v w', K v w' -> K' (a.put o.dst v) w')
    {r:Result Go.Next} (h3:gN P K r):o.upon P a K' Q' r:=by
 cases r with
 | halt x w' =>exact h3.elim
 | ok x w' =>{
 cases x with
 | value u=>exact h _ _ h3
 | skip=>exact h _ _ h3
 | enter f args=>exact Calls.mono h3 fun e w'' ⟨v,he,hw''⟩=>by subst he;exact h _ _ hw''
 | _=>exact h3.elim}
section
variable {P:Program} {ops:Array Oper} {md:Region.Mode} {f:Nat->Value} {S S' :Nat->Bool} {a:Act}
def dD(ops:Array Oper)(k:Nat):Option Tmp:=(ops[k]?).bind (·.dst)
def bA(ops:Array Oper)(f:Nat->Value)(S:Nat->Bool)(a:Act):Nat->Act
  | 0=>a
  | k+1=>if S k=true then(bA ops f S a k).put (dD ops k) (f k) else bA ops f S a k
theorem pQ{k:Nat}(h:S k=true):bA ops f S a (k+1)=(bA ops f S a k).put (dD ops k) (f k):=by
 show(if S k=true then _ else _)=_
 rw[qD h]
def tO(ops:Array Oper):Bool:=(List.range ops.size).all fun i=>(List.range ops.size).all fun k=>i == k||(match dD ops i with|some d=>dD ops k != some d|none=>true)
def iD(md:Region.Mode)(o:Oper):List Nat:=(o.after.toList.filter fun e=>Region.binds md e).map (·.on)
def aSM(md:Region.Mode)(ops:Array Oper):Bool:=(List.range ops.size).all fun i=>match ops[i]? with
  | none=>true
  | some o=>(List.range ops.size).all fun k=>(match dD ops k with|some d=> !(o.looksAt ops).contains d||((iD md o).contains k&&decide (k<i))|none=>true)
theorem vY(h:tO ops=true){i k:Nat}{d:Tmp}(hi:dD ops i=some d)(hk:dD ops k=some d):i=k:=by
 have lt:∀{j},dD ops j=some d->j<ops.size:=fun {j} hj=>by
   unfold dD at hj;cases ho:ops[j]? with
   | none=>rw[ho]at hj;cases hj
   | some o=>exact(qM.1 ho).1
 have h1:=List.all_eq_true.1 (List.all_eq_true.1 h i (by simpa using lt hi)) k (by simpa using lt hk);rw[hi]at h1;simp only[hk,Bool.or_eq_true,beq_iff_eq]at h1;rcases h1 with e|e
 · exact e
 · simp at e
theorem lO{f f' :Nat->Value}:∀{n:Nat},(∀k,k<n->S k=S' k/\f k=f' k)->bA ops f S a n=bA ops f' S' a n
  | 0,_=>rfl
  | n+1,h=>by
    unfold bA;rw[lO (n:=n) (fun k hk=>h k (by omega)),(h n (by omega)).1,(h n (by omega)).2]
theorem iE:∀n,(bA ops f S a n).tmps.size=a.tmps.size
  | 0=>rfl
  | n+1=>by
    unfold bA;split
    · cases dD ops n<;>simp[Act.put,iE n]
    · exact iE n
theorem jX{d:Tmp}:∀{n:Nat},(∀k,k<n->S k=true->dD ops k≠some d)->(bA ops f S a n).tmps[d]? =a.tmps[d]?
  | 0,_=>rfl
  | n+1,h=>by
    have ih:=jX (n:=n) (fun k hk=>h k (by omega));unfold bA;split
    · rename_i hs
      have hne:=h n (by omega) hs;cases hd:dD ops n with
      | none=>exact ih
      | some e=>
        rw[hd]at hne;have:e≠d:=fun h=>hne (by rw[h]);simp only[Act.put];rw[Array.getElem?_setIfInBounds_ne this];exact ih
    · exact ih
theorem jY(hu:tO ops=true){d:Tmp}{k0:Nat}(hd:dD ops k0=some d)(hs:S k0=true):∀{n:Nat},k0<n->(bA ops f S a n).tmps[d]? =if d<a.tmps.size then some (f k0) else none
  | 0,h=>by omega
  | n+1,h=>by
    by_cases e:k0=n
    · subst e
      unfold bA;rw[qD hs,hd];simp only[Act.put];by_cases hlt:d<a.tmps.size
      · rw[qD hlt,Array.getElem?_setIfInBounds_self_of_lt (by rw[iE];exact hlt)]
      · rw [qC hlt]
        exact Array.getElem?_eq_none (by rw[Array.size_setIfInBounds,iE];exact Nat.le_of_not_lt hlt)
    · have ih := jY hu hd hs (n := n) (by omega)
      unfold bA;split
      · cases hn:dD ops n with
        | none=>exact ih
        | some e' =>
          have:e' ≠ d:=fun h=>e (vY hu hd (by rw[hn,h]));simp only[Act.put];rw[Array.getElem?_setIfInBounds_ne this];exact ih
      · exact ih
theorem vZ(hu:tO ops=true){d:Tmp}{n m:Nat}(h:∀k,dD ops k=some d->((k<n/\S k=true)↔(k<m/\S' k=true))):(bA ops f S a n).tmps[d]? =(bA ops f S' a m).tmps[d]? :=by
 by_cases hx:∃k,dD ops k=some d/\k<n/\S k=true
 {
 obtain⟨k,h1,h2,h3⟩:=hx;have h4:=(h k h1).1 ⟨h2,h3⟩;rw[jY hu h1 h3 h2,jY hu h1 h4.2 h4.1]}
 · rw[jX (fun k hk hs hd=>hx ⟨k,hd,hk,hs⟩),jX (fun k hk hs hd=>hx ⟨k,hd,(h k hd).2 ⟨hk,hs⟩⟩)]
theorem tP{a a' :Act}{x:Operand}(hp:∀y,(∀t,y≠.tmp t)->a.eval y=a'.eval y)(h:∀t,x=.tmp t->a.tmps[t]? =a'.tmps[t]?):a.eval x=a'.eval x:=by
 cases x with
 | tmp t=>have:=h t rfl;simp[Act.eval,this]
 | _=>exact hp _ (by intro t;simp)
theorem jZ(y:Operand)(hy:∀t,y≠.tmp t):∀n,(bA ops f S a n).eval y=a.eval y
  | 0=>rfl
  | n+1=>by
    unfold bA;split
    · rw[Act.eval_put (fun d _=>hy d)];exact jZ y hy n
    · exact jZ y hy n
theorem aPF(hu:tO ops=true){o:Oper}(hs:∀cs b,o.op≠.select cs b){n m:Nat}(h:∀k d,dD ops k=some d->d∈o.looksAt ops->((k<n/\S k=true)↔(k<m/\S' k=true))):
    execOp (bA ops f S a n).eval o=execOp (bA ops f S' a m).eval o/\Region.wanted o (yielded ops (bA ops f S a n).tmps)=Region.wanted o (yielded ops (bA ops f S' a m).tmps):=by
 refine⟨execOp_congr o hs fun x hx=>tP (fun y hy=>by rw[jZ y hy,jZ y hy]) fun t ht=>?_,?_⟩
 {
 subst ht;exact vZ hu fun k hk=>h k t hk (List.mem_append_left _ (List.mem_filterMap.2 ⟨.tmp t,by simpa using hx,rfl⟩))}
 {
 unfold Region.wanted;cases hg:o.guard with
 | none=>rfl
 | some gw=>{
 obtain⟨g,want⟩:=gw;have hy:yielded ops (bA ops f S a n).tmps g=yielded ops (bA ops f S' a m).tmps g:=by {
 unfold yielded;cases ht:(ops[g]?).bind (·.dst) with
 | none=>rfl
 | some t=>{
 have:=vZ (f:=f) (a:=a) hu (d:=t) fun k hk=>h k t hk (by simp[Oper.looksAt,hg,ht]);simp only[Option.bind_some,this]}};simp only[hy]}}
theorem aAT(hu:tO ops=true){i:Nat}(v:Value)(hL:S i=false):∀n,i<n->(bA ops f S a n).put (dD ops i) v=bA ops (fJ f i v) (fJ S i true) a n
  | 0,h=>by omega
  | n+1,h=>by
    by_cases e:i=n
    · subst e
      (conv=>rhs;unfold bA)
      rw[qD (gG ..),gG]
      (conv=>lhs;unfold bA)
      rw[qC (by rw[hL];simp)];rw[lO (S' :=fJ S i true) (f' :=fJ f i v) (fun k hk=>⟨(bY _ _ (by omega)).symm,(bY _ _ (by omega)).symm⟩)]
    · have ih := aAT hu v hL n (by omega)
      (conv=>rhs;unfold bA)
      rw[bY _ _ (fun h=>e h.symm),bY _ _ (fun h=>e h.symm),<-ih]
      (conv=>lhs;unfold bA)
      split
      · refine Act.put_comm _ _ _ fun d hd hd' => ?_
        exact e (vY hu hd' hd)
      · rfl
end
def aLM(md:Region.Mode)(ops:Array Oper):Bool:=Region.noSelect ops&&fC md ops&&tO ops&&aSM md ops
def tQ(P:Program)(ops:Array Oper)(md:Region.Mode)(I:(Nat->Value)->(Nat->Bool)->World->Prop)(f:Nat->Value)(k:Nat)(o:Oper)(a:Act):Prop:=
  ∀L w,(∀j∈iD md o,L j=true)->L k=false->I f L w ->
    if Region.wanted o (yielded ops a.tmps)=true then gN P (fun v w' =>I (fJ f k v) (fJ L k true) w') ((execOp a.eval o).run P w) else I (fJ f k undef) (fJ L k true) w
def aLN(P:Program)(ops:Array Oper)(md:Region.Mode)(I:(Nat->Value)->(Nat->Bool)->World->Prop)(f:Nat->Value):Nat->List Oper->Act->Prop
  | _,[],_=>True
  | k,o::r,a=>tQ P ops md I f k o a/\aLN P ops md I f (k+1) r (a.put o.dst (f k))
def aHG(f:Nat->Value):Nat->List Oper->Act->Act
  | _,[],a=>a
  | k,o::r,a=>aHG f (k+1) r (a.put o.dst (f k))
section
variable {P:Program} {md:Region.Mode} {I:(Nat->Value)->(Nat->Bool)->World->Prop}
theorem wC{l:List Oper}(f:Nat->Value)(a:Act):∀(r:List Oper) (k:Nat),l.drop k=r->aHG f k r (bA l.toArray f (fun _=>true) a k)=bA l.toArray f (fun _=>true) a l.length
  | [],k,h=>by
    have hk:l.length<=k:=List.drop_eq_nil_iff.1 h;show bA l.toArray f (fun _=>true) a k=_
    have:∀m,bA l.toArray f (fun _=>true) a (l.length+m)=bA l.toArray f (fun _=>true) a l.length:=by
      intro m;induction m with
      | zero=>rfl
      | succ m ih=>
        have hd:dD l.toArray (l.length+m)=none:=by simp[dD]
        rw[show l.length+(m+1)=l.length+m+1 by omega,pQ rfl,ih,hd];rfl
    obtain⟨m,rfl⟩:∃m,k=l.length+m:=⟨k-l.length,by omega⟩;exact this m
  | o::r,k,h=>by
    have hk:l[k]? =some o:=by have:=congrArg (fun r=>r[0]?) h;simpa using this
    have hr:l.drop (k+1)=r:=by rw[<-List.tail_drop,h];rfl
    have:=wC f a r (k+1) hr;rw[<-this];show aHG f (k+1) r ((bA l.toArray f (fun _=>true) a k).put o.dst (f k))=_
    congr 1
    rw[pQ rfl];congr 1
    simp[dD,hk]
theorem aLO{l:List Oper}{f:Nat->Value}{a:Act}:∀(r:List Oper) (k:Nat),l.drop k=r->aLN P l.toArray md I f k r (bA l.toArray f (fun _=>true) a k)->∀i o,k<=i->l[i]? =some o->tQ P l.toArray md I f i o (bA l.toArray f (fun _=>true) a i)
  | [],k,h,_,i,o,hi,ho=>by
    have hk:l.length<=k:=List.drop_eq_nil_iff.1 h;have:=(qT.1 ho).1;omega
  | o' :: r,k,h,hS,i,o,hi,ho=>by
    have hk:l[k]? =some o' :=by have:=congrArg (fun r=>r[0]?) h;simpa using this
    have hr:l.drop (k+1)=r:=by rw[<-List.tail_drop,h];rfl
    by_cases e:i=k
    · subst e
      have:o' =o:=Option.some.inj (hk.symm.trans ho);subst this;exact hS.1
    · refine aLO r (k + 1) hr ?_ i o (by omega) ho
      have h2:=hS.2;have e2:bA l.toArray f (fun _=>true) a (k+1)=(bA l.toArray f (fun _=>true) a k).put o'.dst (f k):=by
        rw[pQ rfl];congr 1
        simp[dD,hk]
      rw[e2];exact h2
theorem aDE{l:List Oper}{a:Act}{Q:Exit->Act->World->Prop}(hB:aLM md l.toArray=true)(hstep:∀f i o,l[i]? =some o->tQ P l.toArray md I f i o (bA l.toArray f (fun _=>true) a i))
    (hend:∀f L w', (∀k,k<l.length->L k=true)->I f L w' -> Q .normal (bA l.toArray f (fun _=>true) a l.length) w'):∀(fuel:Nat) (listed:Array Bool) (f:Nat->Value) (w:World),listed.size=l.length->listed.toList.count false<=fuel ->
    rI md l.toArray listed->I f (fun k=>listed.getD k false) w->wpAny P md l.toArray Q fuel listed (bA l.toArray f (fun k=>listed.getD k false) a l.length) w:=by
 simp only[aLM,qX]at hB;obtain⟨⟨⟨hsel,heb⟩,hu⟩,hlk⟩:=hB;have hdone:∀(listed:Array Bool) (f:Nat->Value) (w:World),listed.size=l.length->Region.ready md l.toArray listed=[]->I f (fun k=>listed.getD k false) w->Q .normal (bA l.toArray f (fun k=>listed.getD k false) a l.length) w:=by {
 intro listed f w hs h0 hI;have hall:=iT (by simpa using hs) heb h0;rw[lO (S' :=fun _=>true) (f' :=f) (fun k hk=>⟨hall k (by simpa using hk),rfl⟩)];exact hend f _ w (fun k hk=>hall k (by simpa using hk)) hI};intro fuel;induction fuel with
 | zero=>{
 intro listed f w hs hc _ hI;have h0:Region.ready md l.toArray listed=[]:=by {
 rw[List.eq_nil_iff_forall_not_mem];intro i hi;obtain⟨hun,oi,hoi,_⟩:=mem_ready.1 hi;have hil:i<listed.size:=by have:=(qM.1 hoi).1;simp at this;omega
 have hmem:false∈listed.toList:=by {
 rw[<-show listed[i]=false by simpa[hil] using hun];simp};have:=List.count_pos_iff.2 hmem;omega};exact⟨h0,hdone listed f w hs h0 hI⟩}
 | succ fuel ih=>{
 intro listed f w hs hc hsh hI;refine⟨fun h0=>hdone listed f w hs h0 hI,fun i hi=>?_⟩;obtain⟨hun,oi,hoi,hdep⟩:=mem_ready.1 hi;have hil:i<l.length:=by have:=(qM.1 hoi).1;simpa using this
 have hl0:listed.getD i false=false:=by simp[hs,hil]at hun ⊢;exact hun
 have hs' :(listed.setIfInBounds i true).size=l.length:=by simp[hs]
 have hLu:(fun k=>(listed.setIfInBounds i true).getD k false)=fJ (fun k=>listed.getD k false) i true:=by {
 funext k
 by_cases e:k=i
 · subst e;rw[gG];simp[hs,hil]
 · rw[bY _ _ e,getD_set_ne false (fun h=>e h.symm)]};have hc' :(listed.setIfInBounds i true).toList.count false<=fuel:=by {
 have hmem:listed.toList[i]? =some false:=by {
 simp only[Array.getElem?_toList];simp[hs,hil]at hun;simp[hs,hil,hun]};have:(listed.setIfInBounds i true).toList=listed.toList.set i true:=by simp
 rw[this];have h1:=List.count_set (l:=listed.toList) (i:=i) (a:=true) (b:=false) (by simpa[hs] using hil);have h2:listed.toList[i]'(by simpa[hs] using hil)=false:=(qT.1 hmem).2;have e1:(if ((false == false:Bool)=true) then(1:Nat) else 0)=1:=rfl;have e2:(if ((true == false:Bool)=true) then(1:Nat) else 0)=0:=rfl;rw[h1,h2,e1,e2];omega};have hdeps:∀j∈iD md oi,listed.getD j false=true:=by {
 intro j hj;simp only[iD,qW,zA]at hj;obtain⟨e,⟨he,hb⟩,rfl⟩:=hj;exact hdep e (by simpa using he) hb};have hsame:=aPF (f:=f) (a:=a) hu (o:=oi) (fun cs b=>Region.noSelect_spec hsel i oi cs b hoi) (S:=fun k=>listed.getD k false) (S' :=fun _=>true) (n:=l.length) (m:=i) (by
   intro k d hk hd;have hkl:k<l.toArray.size:=by
     unfold dD at hk;cases ho:l.toArray[k]? with
     | none=>rw[ho]at hk;cases hk
     | some o=>exact(qM.1 ho).1
   have h1:=List.all_eq_true.1 hlk i (by simpa using hil);simp only[hoi]at h1;have h2:=List.all_eq_true.1 h1 k (by simpa using hkl);simp only[hk,Bool.or_eq_true,Bool.not_eq_true', qX,decide_eq_true_eq,List.contains_iff_mem]at h2;rcases h2 with h2|h2
   · rw[<-Bool.not_eq_true,List.contains_iff_mem]at h2;exact absurd hd h2
   · exact⟨fun _=>⟨h2.2,rfl⟩,fun _=>⟨by simpa using hkl,hdeps k h2.1⟩⟩)
 have hst:=hstep f i oi (by simpa using hoi) (fun k=>listed.getD k false) w hdeps hl0 hI;have hdst:dD l.toArray i=oi.dst:=by simp only[dD,hoi,Option.bind_some]
 have hnext:∀v w', I (fJ f i v) (fJ (fun k=>listed.getD k false) i true) w' -> wpAny P md l.toArray Q fuel (listed.setIfInBounds i true) ((bA l.toArray f (fun k=>listed.getD k false) a l.length).put oi.dst v) w' :=by {
 intro v w' hI';rw[<-hdst,aAT hu v hl0 l.length hil];have:=ih (listed.setIfInBounds i true) (fJ f i v) w' hs' hc' (hsh.set hi) (by rw[hLu];exact hI');rw[hLu]at this;exact this};unfold wpOp;simp only[hoi];rw[hsame.2];by_cases hw:Region.wanted oi (yielded l.toArray (bA l.toArray f (fun _=>true) a i).tmps)=true
 {
 rw[qD hw]at hst;rw[qD hw];left
 unfold Oper.wp;rw[hsame.1];exact aHF hnext hst}
 {
 rw[qC hw]at hst;rw[qC hw];exact hnext _ _ hst}}
def aPX(ops:Array Oper)(d:Tmp):Bool:=(List.range ops.size).all fun j=>dD ops j != some d
def tR(P:Program)(ops:Array Oper)(md:Region.Mode)(I:(Nat->Value)->(Nat->Bool)->World->Prop)(f:Nat->Value)(a:Act):Nat->List Oper->Prop
  | _,[]=>True
  | k,o::r=>(∀b:Act,b.tmps.size=a.tmps.size->(∀j d,j<k->dD ops j=some d->d<a.tmps.size->b.tmps[d]? =some (f j))->(∀d,aPX ops d=true->b.tmps[d]? =a.tmps[d]?)->tQ P ops md I f k o b)/\tR P ops md I f a (k+1) r
theorem wD{l:List Oper}{f:Nat->Value}{a:Act}:∀(r:List Oper) (k:Nat),l.drop k=r->tR P l.toArray md I f a k r->∀i o,k<=i->l[i]? =some o ->
    ∀b:Act,b.tmps.size=a.tmps.size->(∀j d,j<i->dD l.toArray j=some d->d<a.tmps.size->b.tmps[d]? =some (f j))->(∀d,aPX l.toArray d=true->b.tmps[d]? =a.tmps[d]?)->tQ P l.toArray md I f i o b
  | [],k,h,_,i,o,hi,ho=>by
    have hk:l.length<=k:=List.drop_eq_nil_iff.1 h;have:=(qT.1 ho).1;omega
  | o' :: r,k,h,hS,i,o,hi,ho=>by
    have hk:l[k]? =some o' :=by have:=congrArg (fun r=>r[0]?) h;simpa using this
    have hr:l.drop (k+1)=r:=by rw[<-List.tail_drop,h];rfl
    by_cases e:i=k
    · subst e
      have:o' =o:=Option.some.inj (hk.symm.trans ho);subst this;exact hS.1
    · exact wD r (k+1) hr hS.2 i o (by omega) ho
theorem aAU{id:Nat}{Q:Exit->Act->World->Prop}{a:Act}{w:World}{l:List Oper}(I:(Nat->Value)->(Nat->Bool)->World->Prop)(hm:P.follows .mixedOrders=true)(hB:aLM .any l.toArray=true)
    (h0:I (fun _=>undef) (fun _=>false) w.drew) (hstep:∀f,tR P l.toArray .any I f a 0 l)
    (hend:∀f L w', (∀k,k<l.length->L k=true)->I f L w' -> Q .normal (aHG f 0 l a) w'):(Code.region id l.toArray true).wp P Q a w:=by
  have hz:(fun k=>(Array.replicate l.toArray.size false).getD k false)=fun _=>false:=by funext k;exact dT _ _
  refine wp_region_any hm ?_;have hu:tO l.toArray=true:=by simp only[aLM,qX]at hB;exact hB.1.2
  have := aDE (P := P) (md := .any) (I := I) (a := a) (Q := Q) (l := l) hB (fun f i o ho => wD l 0 rfl (hstep f) i o (qS _) ho _ (iE _)
      (fun j d hj hd hlt=>by rw[jY hu hd rfl hj,qD hlt])
      (fun d hd=>jX fun j hj _ e=>by
        have hjl:j<l.toArray.size:=by
          have:=(qT.1 ho).1;simp;omega
        have h1:=List.all_eq_true.1 hd j (by simpa using hjl);rw[e]at h1;simp at h1))
    (fun f L w' hL hI=>by rw[<-wC f a l 0 rfl];exact hend f L w' hL hI) l.toArray.size (Array.replicate l.toArray.size false) (fun _=>undef) w.drew (by simp) (by simp) (by intro j oj _ hl;rw[dT]at hl;cases hl) (by rw[hz];exact h0)
  rw[hz]at this;have e:bA l.toArray (fun _=>undef) (fun _=>false) a l.length=a:=by
    have:∀n,bA l.toArray (fun _=>undef) (fun _=>false) a n=a:=by
      intro n;induction n with
      | zero=>rfl
      | succ n ih=>unfold bA;rw[qC (by simp)];exact ih
    exact this _
  rw[e]at this;exact this
theorem aAV{ops:Array Oper}{f:Nat->Value}{k:Nat}{o:Oper}{a:Act}(hg:o.guard=none)
    (h:∀L w,(∀j∈iD md o,L j=true)->L k=false->I f L w->gN P (fun v w' =>I (fJ f k v) (fJ L k true) w') ((execOp a.eval o).run P w)):tQ P ops md I f k o a:=fun L w hd hn hI=>by
 rw[qD (by simp[Region.wanted,hg])];exact h L w hd hn hI
end
def aLP(u v u' v' :Nat)(wt t wt' t' :Int):Bool:=(u == u')&&(v == v')&&(wt == wt')&&(t == t')
@[go_sem high] theorem aSN(u v u' v' :Nat)(wt t wt' t' :Int)(w:World):(Op.equalIn 10000 72 (.agg #[.int .u64 u,.int .u64 v,.int .i64 wt,.int .i64 t]) (.agg #[.int .u64 u', .int .u64 v', .int .i64 wt', .int .i64 t'])).run Tryz.prog w=.ok (aLP u v u' v' wt t wt' t') w:=by
 have hc:∀(a b:Nat),((a:Int) == (b:Int))=(a == b):=fun a b=>by rw[Bool.eq_iff_iff];simp only[beq_iff_eq];omega
 rw[show(10000:Nat)=9999+1 from rfl,run_equalIn_struct w 9999 _ _ _ (by kernel_rfl) (by kernel_rfl)];unfold aLP;simp only[Program.fieldsOf,Tryz.underlying72,Op.eqFields];go_simp;by_cases h1:u=u' <;> by_cases h2:v=v' <;> by_cases h3:wt=wt' <;> by_cases h4:t=t' <;> simp[h1,h2,h3,h4]
@[go_sem] theorem aPY(op:BinOp)(x y:Operand)(xs ys:Array Value)(w:World):(eqGuard op 72 x y (.agg xs) (.agg ys)).run Tryz.prog w=.ok () w:=run_eqGuard_agg w op 72 x y xs ys (by kernel_rfl)
theorem Fr.of_drewN37(w:World)(k:Nat):Fr [] w (w.drewN k):=(Fr.refl [] w).drewN k
theorem aDF{w:World}{v:Value}{l:List Nat}(h:dH w v l)(id:Nat)(hl:l.length<=65536):Calls Tryz.prog 101 #[v,.int .u64 id] w fun e w' =>e=.returned (.bool (decide (id∈l)))/\w' =w:=by
 obtain⟨a,c,rfl⟩:=h.slice;have H:=qA h;clear h;go_enter Tryz.func101,Tryz.ntmps101
 go_wp2
 go_loopw [5] (fun x wr=>∃i:Nat,i<=l.length/\x=.int .i64 i/\wr=w/\Hid (id∉l.take i)) (fun x _=>l.length-(intOf x).toNat)
 case atStart=>exact⟨0,qS _,rfl,rfl,qA (by simp)⟩
 case round=>
  obtain⟨i,hi,rfl,rfl,HN⟩:=hrel;rename World=>w
  by_cases hlt:i<l.length
  {
  obtain⟨b1,c1', e1,_,r1⟩:=H.out.at hlt;simp only[qP,true_and]at e1;obtain⟨rfl,rfl⟩:=e1;have hi1:(i:Int)<l.length:=by omega
  have hi0:(0:Int)<=i:=by omega
  have hst:l.take (i+1)=l.take i++[l[i]'hlt]:=by rw[List.take_add_one,qL hlt];rfl
  have hmem:=List.getElem_mem hlt;generalize l[i]'hlt=x at *;by_cases hx:x=id
  {
  have e1:((x:Int) == id)=true:=by simp;omega
  have hd:decide (id∈l)=true:=qG (by rw[<-hx];exact hmem);have Hd:=qA hd;clear hx hst hmem hd;go_wp2
  go_ret;exact⟨by rw[Hd.out];rfl,rfl⟩}
  {
  have e1:((x:Int) == id)=false:=by simp;omega
  have hn:Hid (id∉l.take (i+1)):=qA (by
    rw[hst,qE,qH];rintro(h|h)
    · exact HN.out h
    · exact hx h.symm)
  clear hx hst hmem;go_wp2
  go_roundw
  case rel=>exact⟨i+1,by omega,by go_num,trivial,hn⟩
  case measure=>simp[intOf];omega}}
  {
  obtain rfl:i=l.length:=by omega
  have hd:decide (id∈l)=false:=qF (by have:=HN.out;rwa[List.take_length]at this);have Hd:=qA hd;clear hd;go_wp2
  go_ret;exact⟨by rw[Hd.out];rfl,rfl⟩}
def atN(l:List Nat)(x i:Nat):List Nat:=l.take i++x::l.drop i
theorem mA(l:List Nat)(x i:Nat):(atN l x i).length=l.length+1:=by
 unfold atN;simp only[zF,qZ,List.length_take,List.length_drop];omega
theorem aPG(l:List Nat)(x:Nat):atN l x l.length=l++[x]:=by
 unfold atN;rw[List.take_length,List.drop_length]
theorem atN_self? {l:List Nat}{x i:Nat}(hi:i<=l.length):(atN l x i)[i]? =some x:=by
 unfold atN;rw[List.getElem?_append_right (by rw[List.length_take];omega)];simp[List.length_take,Nat.min_eq_left hi]
theorem aLQ{l:List Nat}{x i:Nat}(hi:i<=l.length)(h:i<(atN l x i).length):(atN l x i)[i]'h=x:=
  Option.some.inj ((qL h).symm.trans (atN_self? hi))
theorem atN_prev? {l:List Nat}{x i:Nat}(hi:i<l.length):(atN l x (i+1))[i]? =some l[i]:=by
 unfold atN;rw[List.getElem?_append_left (by rw[List.length_take];omega),List.getElem?_take,qD (by omega),qL hi]
theorem aLR{l:List Nat}{x i:Nat}(hi:i<l.length)(h:i<(atN l x (i+1)).length):(atN l x (i+1))[i]'h=l[i]:=
  Option.some.inj ((qL h).symm.trans (atN_prev? hi))
theorem aLS{l:List Nat}{x i:Nat}(hi:i<l.length):((atN l x (i+1)).set (i+1) l[i]).set i x=atN l x i:=by
 unfold atN;have e1:l.take (i+1)=l.take i++[l[i]]:=by rw[List.take_add_one,qL hi];rfl
 have e2:l.drop i=l[i]::l.drop (i+1):=List.drop_eq_getElem_cons hi;have hl:(l.take i).length=i:=by rw[List.length_take];omega
 rw[e1,e2,List.append_assoc];rw[List.set_append_right _ _ (by omega),List.set_append_right _ _ (by omega),hl];rw[show i+1-i=1 by omega,show i-i=0 by omega];rfl
theorem aAW:∀{l m:List Nat} {x:Nat},(∀y∈l,y<x)->cG x (l++m)=l++cG x m
  | [],_,_,_=>rfl
  | a::r,m,x,h=>by
    have ha:=h a (by simp);rw[zC];show(if x=a then _ else if x<a then _ else a::cG x (r++m))=_
    rw[qC (by omega),qC (by omega),aAW fun y hy=>h y (by simp[hy])];rfl
theorem aDG{m:List Nat}{x:Nat}(h:∀y∈m,x<y):cG x m=x::m:=by
 cases m with
 | nil=>rfl
 | cons a r=>{
 have:=h a (by simp);show(if x=a then _ else if x<a then _ else _)=_
 rw[qC (by omega),qD this]}
theorem oO:∀{l:List Nat} {x:Nat},l.Pairwise (· < ·)->x∈l->cG x l=l
  | [],_,_,h=>by cases h
  | a::r,x,hp,h=>by
    have hp' :=List.pairwise_cons.1 hp;show(if x=a then a::r else if x<a then x::a::r else a::cG x r)=_
    by_cases e:x=a
    · rw[qD e]
    · have hx : x ∈ r := (qB.1 h).resolve_left e
      have:=hp'.1 x hx;rw[qC e,qC (by omega),oO hp'.2 hx]
theorem aLT{l:List Nat}{x i:Nat}(hp:l.Pairwise (· < ·))(hi:i<=l.length)(hx:x∉l)(h1:∀y∈l.drop i,x<y)(h2:∀j (hj:j<l.length),j+1=i->l[j]<x):atN l x i=cG x l:=by
 have hlow:∀y∈l.take i,y<x:=by {
 intro y hy;obtain⟨k,hk,rfl⟩:=List.mem_iff_getElem.1 hy;rw[List.length_take]at hk;rw[List.getElem_take];cases i with
 | zero=>omega
 | succ i=>{
 have h3:=h2 i (by omega) rfl;by_cases e:k=i
 · subst e;exact h3
 {
 have:=(List.pairwise_iff_getElem.1 hp) k i (by omega) (by omega) (by omega);omega}}};have e:=List.take_append_drop i l
 (conv=>rhs;rw[<-e])
 rw[aAW hlow,aDG h1];rfl
theorem mQ{P:Program}{w:World}{ops:Array Oper}{rest:List Oper}{o:Oper}{a:Act}{Q:Exit->Act->World->Prop}(hgd:o.guard=none)(s x:Operand)(t:TypeId)
    (ho:o.op=.call { callee:=.builtin .append,args:=#[s,x],argTypes:=#[t,t] })
    (e:TypeId) (z:Value) (size bytes:Nat) (ht:P.underlying t=some (.slice e)) (hinfo:(P.info? e).map (fun i=>(i.zero,i.size,i.bytes))=some (some z,size,bytes)) (hzs:z.cells.size=size) (hsz:0<size)
    (g:Nat) (hs:a.eval s=.slice (some ⟨g,0,none⟩) 0 0) (hg:Blk w g e []) (v:Value) (m:Nat) (news:List Value) (hv:a.eval x=v) (hx:w.ownsRow 0 e size v m news) (h1:∀u∈news,u.oneCell' =true) (h63:m<=maxLen) (hbytes:m*bytes<=140737488355328)
    (h:∀v' w', w'.ownsRow 0 e size v' m news->Fr [g] w w' -> (∀q,v'.ownBlock=some q->q=g∨w.heap.size<=q)->wpList P ops Q rest (a.put o.dst v') w'):wpList P ops Q (o::rest) a w:=
  wpList_plain hgd fun _ hK=>aFQ s x t ho e z size bytes ht hinfo hzs hsz g hs hg v m news hv hx h1 h63 hbytes fun v' w' h2 h3 h4=>hK _ _ (h v' w' h2 h3 h4)
theorem aAX(l:List Nat):∀u∈iG l,u.oneCell' =true:=by
 intro u hu;obtain⟨x,_,rfl⟩:=qW.1 hu;rfl
theorem aHH(l m:List Nat):iG (l++m)=iG l++iG m:=List.map_append
theorem dH.set{w:World}{g n cap:Nat}{l:List Nat}(h:dH w (.slice (some ⟨g,0,none⟩) n cap) l)(hn:l.length=n){i:Nat}(y:Nat):dH (w.setCell ⟨g,i,none⟩ (.int .u64 y)) (.slice (some ⟨g,0,none⟩) n cap) (l.set i y):=by
 unfold dH at *;rw[List.length_set,hn];rw[hn]at h;have e:iG (l.set i y)=(iG l).set i (.int .u64 y):=List.map_set;rw[e];exact cU h _
theorem dH.fz{w:World}{g n cap:Nat}{l:List Nat}(h:dH w (.slice (some ⟨g,0,none⟩) n cap) l)(j:Nat):w.frozen? ⟨g,j,none⟩=false:=by
 rcases h.2 with⟨e,_⟩|⟨g', cap', cur,e,_,hh,_⟩
 · cases e
 {
 simp only[qP,qI,Addr.mk.injEq,and_true]at e;rw[e.1];simp[World.frozen?,hh]}
theorem yA{w:World}{v:Value}{l:List Nat}(h:dH w v l)(hp:l.Pairwise (· < ·))(id:Nat)(hl:l.length<=60000):
    Calls Tryz.prog 100 #[v,.int .u64 id] w fun e w' =>∃v', e=.returned v' /\ dH w' v' (cG id l)/\Fr [] w w' /\ ∀q,v'.ownBlock=some q->v.ownBlock=some q∨w.heap.size<=q:=by
  have hH:=aDF h id (by omega);by_cases hm:id∈l
  · rw [qG hm] at hH
    rw[oO hp hm];have HH:=qA hH;have H:=qA h;clear h hp hm hH;go_enter Tryz.func100,Tryz.ntmps100
    go_wp2_with fail
    refine HH.out.mono ?_;rintro _ w ⟨rfl,rfl⟩;go_wp2
    go_ret;exact⟨v,rfl,H.out,Fr.refl _ _,fun q hq=>.inl hq⟩
  · rw [qF hm] at hH
    have HH:=qA hH;have H:=qA (zI (h.fr0 ((Fr.refl [] w).alloc (.cells #[] 36))) (zI hp hm));clear h hp hm hH;go_enter Tryz.func100,Tryz.ntmps100
    go_wp2_with fail
    refine HH.out.mono ?_;rintro _ w ⟨rfl,rfl⟩
    have HM:=qA (show ∀(v1:Value) (w1:World),w1.ownsRow 0 36 1 v1 l.length (iG l)->Fr [w.heap.size] (w.alloc (.cells #[] 36)) w1->(∀q,v1.ownBlock=some q->q=w.heap.size∨(w.alloc (.cells #[] 36)).heap.size<=q) ->
        Fr [] w w1/\(∀q,v1.ownBlock=some q->w.heap.size<=q)/\World.ownsRow (w1.alloc (.cells #[.int .u64 id] 36)) 0 36 1 v1 l.length (iG l) from fun v1 w1 hown1 hF1 hq1=>by
      have hs0:(w.alloc (.cells #[] 36)).heap.size=w.heap.size+1:=by simp
      refine⟨((Fr.refl [] w).alloc _).trans hF1 (fun b hb=>.inr (Nat.le_of_eq (qH.1 hb).symm)),fun q hq=>?_,aU hown1 (fun q hq=>((Fr.refl [] w1).alloc _).keep q (cH hown1 hq) (by simp))⟩;rcases hq1 q hq with e|e<;>omega)
    go_wp2_with (first
      | (at_builtin;refine mQ rfl _ _ 104 rfl 36 (.int .u64 0) 1 8 (by kernel_rfl) (by kernel_rfl) rfl (by decide) w.heap.size rfl (Blk.new w [] _) v l.length (iG l) rfl H.out.1 (aAX l) (by unfold maxLen;omega) (by omega) ?_;intro v1 w1 hown1 hF1 hq1;have HR1:=qA (HM.out v1 w1 hown1 hF1 hq1);obtain⟨a1,c1,rfl⟩:=bH hown1;clear hown1 hF1 hq1 HM)
      | (at_builtin;refine iH rfl _ _ 104 rfl 36 (.int .u64 0) 1 8 (by kernel_rfl) (by kernel_rfl) rfl (by decide) (.slice a1 l.length c1) l.length (iG l) rfl HR1.out.2.2 w1.heap.size 36 [.int .u64 id] rfl (Blk.new w1 _ _) rfl (by simp[Value.oneCell']) (by omega) (by decide) ?_;intro g cap w2 hown2 hgrow2 hg2))
    clear HH;obtain⟨n,hn⟩:∃n,n=l.length:=⟨_,rfl⟩;have hrow2:dH w2 (.slice (some ⟨g,0,none⟩) (n+1) cap) (atN l id n):=by
      unfold dH;rw[mA,hn,aPG,aHH];exact hown2
    have hs1:=HR1.out.1.size;have hgn:w.heap.size<=g:=by
      rcases hg2 with e|e
      · exact HR1.out.2.1 g e
      · simp at e;omega
    have hF2:Fr [] w w2:=(HR1.out.1.alloc _).grown hgrow2 (fun k e=>.inr (HR1.out.2.1 k e));have HRow:=qA (zI hrow2 (zI hF2 (show ∀y∈l.drop n,id<y from fun y hy=>by rw[hn,List.drop_length]at hy;cases hy)));have HG:=qA (zI hgn hn);have hn60:n<=60000:=by omega
    rw[<-hn];clear hown2 hgrow2 hg2 hrow2 hs1 hgn hF2 hl hn HR1;go_wp2_with fail
    have hwn:IntKind.i64.wrap ((n:Int)+1-1)=n:=by simp[IntKind.wrap,IntKind.bits,IntKind.signed];omega
    go_loopw [6] (fun c wr=>∃i:Nat,i<=n/\c=.int .i64 i/\Hid (dH wr (.slice (some ⟨g,0,none⟩) (n+1) cap) (atN l id i)/\Fr [] w wr/\∀y∈l.drop i,id<y)) (fun c _=>(intOf c).toNat)
    case atStart=>exact⟨n,qK _,by go_num,HRow⟩
    case round=>
      obtain⟨i,hi,rfl,HR⟩:=hrel;clear HRow hwn;rename World=>wr
      have hfin:¬(∃k,∃hk:k<l.length,k+1=i/\id<l[k])->dH wr (.slice (some ⟨g,0,none⟩) (n+1) cap) (cG id l):=fun hno=>by
        have hil:i<=l.length:=by rw[<-HG.out.2];exact hi
        rw[<-aLT H.out.2.1 hil H.out.2.2 HR.out.2.2 (fun j hj hji=>by
          have h1:¬id<l[j]:=fun h=>hno ⟨j,hj,hji,h⟩;have h2:id≠l[j]:=fun h=>H.out.2.2 (by rw[h];exact List.getElem_mem hj);omega)]
        exact HR.out.1
      have HFin:=qA hfin;clear hfin;cases i with
      | zero=>
        have d0:decide (((0:Nat):Int)>0)=false:=qF (by omega);go_wp2
        go_quiet (fail)
        go_wp2
        go_ret;exact⟨_,rfl,(HFin.out (fun⟨k,_,h,_⟩=>by omega)).fr0 ((Fr.refl [] wr).drewN _),HR.out.2.1.drewN _,fun q hq=>.inr (by simp[Value.ownBlock]at hq;rw[<-hq];exact HG.out.1)⟩
      | succ k=>
        have hkl:k<l.length:=by rw[<-HG.out.2];omega
        have d0:decide (((k+1:Nat):Int)>0)=true:=qG (by omega);have hwk:IntKind.i64.wrap (((k+1:Nat):Int)-1)=k:=by simp[IntKind.wrap,IntKind.bits,IntKind.signed];omega
        have hl1:k+1<(atN l id (k+1)).length:=by rw[mA];omega
        have hl2:k<(atN l id (k+1)).length:=by rw[mA];omega
        obtain⟨b1,c1', e1,_,r1⟩:=HR.out.1.at hl1;obtain⟨b2,c2', e2,_,r2⟩:=HR.out.1.at hl2;rw[aLQ (by omega)]at r1;rw[aLR hkl]at r2;simp only[qP,qI,Addr.mk.injEq,and_true]at e1 e2;rw[<-e1.1]at r1;rw[<-e2.1]at r2;have ki:((k+1:Nat):Int)<(n:Int)+1:=by omega
        have kn:(k:Int)<(n:Int)+1:=by omega
        have k0:(0:Int)<=((k+1:Nat):Int):=by omega
        have k00:(0:Int)<=(k:Int):=by omega
        obtain⟨x,hx⟩:∃x,x=l[k]:=⟨_,rfl⟩;rw[<-hx]at r2;have Hx:=qA (zI hx hkl);clear e1 e2 hl1 hl2 hx;obtain⟨i,hii⟩:∃i,i=k+1:=⟨_,rfl⟩;have d0n:decide (0<k+1)=true:=qG (by omega);rw[<-hii]at d0 d0n hwk r1 ki k0 HR HFin hi ⊢;have Hi:=qA hii;clear hii;by_cases hlt:id<x
        · have d1 : decide ((id : Int) < x) = true := qG (by omega)
          have d1n:decide (id<x)=true:=qG hlt;have Hlt:=qA hlt;clear hlt;go_wp2
          go_quiet (fail)
          clear d1 d1n d0 d0n;go_wp2_with fail
          have hfr:=Fr.of_drewN37 wr nq;have r1:=hfr.cell r1 (by simp);have r2:=hfr.cell r2 (by simp);have HRn:=qA (zI (HR.out.1.fr0 hfr) (zI (HR.out.2.1.trans' hfr) HR.out.2.2));clear hfr HR;generalize wr.drewN nq=ws at *;have fz1:=HRn.out.1.fz i;have fz2:=HRn.out.1.fz k;refine kQ [15,17] [2,3,4] (fun q w' =>match q with
            | 0=>∃m,w' =ws.drewN m
            | 1=>dH w' (.slice (some ⟨g,0,none⟩) (n+1) cap) ((atN l id i).set i x)/\Fr [] w w'
            | _=>dH w' (.slice (some ⟨g,0,none⟩) (n+1) cap) (((atN l id i).set i x).set k id)/\Fr [] w w') (fun w' =>Iff.rfl) (by kernel_rfl) (by kernel_rfl) (by kernel_rfl) ?_
          iterate 2 (refine gW (by decide) (fun K hK=>?_);go_simp;refine hK _ ?_;clear hK K)
          iterate 3 (refine fV (by decide) (fun K hK=>?_);go_simp;refine hK _ ?_;clear hK K)
          iterate 10 (refine gW (by decide) (fun K hK=>?_);go_simp;refine hK _ ?_;clear hK K)
          refine fD (q:=0) (by decide) rfl undef (fun w' hw' =>?_) ?_
          · obtain ⟨nq, rfl⟩ := hw'
            go_simp;exact⟨(HRn.out.1.fr0 (Fr.of_drewN37 ws nq)).set (by rw[mA,<-HG.out.2]) x,(HRn.out.2.1.drewN nq).setCell _ _ (.inr HG.out.1)⟩
          iterate 1 (refine fV (by decide) (fun K hK=>?_);go_simp;refine hK _ ?_;clear hK K)
          refine fD (q:=1) (by decide) rfl undef (fun w' hw' =>?_) ?_
          · obtain ⟨hA, hB'⟩ := hw'
            have fz3:=hA.fz k;have hl3:k<((atN l id i).set i x).length:=by rw[List.length_set,mA];have:=Hx.out.2;omega
            obtain⟨b2,c2', e2,_,r3⟩:=hA.at hl3;simp only[qP,qI,Addr.mk.injEq,and_true]at e2;rw[<-e2.1]at r3;clear e2;generalize ((atN l id i).set i x)[k]'hl3=y3 at *;go_simp;exact⟨hA.set (by rw[List.length_set,mA,<-HG.out.2]) id,hB'.setCell _ _ (.inr HG.out.1)⟩
          refine oY ?_;rintro w4 ⟨h4,hF4⟩;have HN:Hid (dH w4 (.slice (some ⟨g,0,none⟩) (n+1) cap) (atN l id k)/\Fr [] w w4/\∀y∈l.drop k,id<y):=qA (by
            refine⟨?_,hF4,fun y hy=>?_⟩
            · rw[Hi.out,Hx.out.1,aLS Hx.out.2]at h4;exact h4
            · rw [List.drop_eq_getElem_cons Hx.out.2] at hy
              rcases qB.1 hy with rfl|hy
              · rw[<-Hx.out.1];exact Hlt.out
              · have := HRn.out.2.2 y (by rw [Hi.out]; exact hy)
                exact this)
          clear h4 hF4 fz1 fz2 r1 r2 HRn HFin;have hki:=Hi.out;go_wp2_with fail
          go_roundw
          case rel=>exact⟨k,by omega,by go_num,HN⟩
          case measure=>simp[intOf];omega
        · have d1 : decide ((id : Int) < x) = false := qF (by omega)
          have d1n:decide (id<x)=false:=qF hlt;have Hlt:=qA hlt;clear hlt;go_wp2
          go_quiet (fail)
          go_wp2
          go_ret;exact⟨_,rfl,(HFin.out (fun⟨k', hk', h,h'⟩=>by
            have e:k' =k:=by have:=Hi.out;omega
            subst e;rw[<-Hx.out.1]at h';exact Hlt.out h')).fr0 ((Fr.refl [] wr).drewN _),HR.out.2.1.drewN _,fun q hq=>.inr (by simp[Value.ownBlock]at hq;rw[<-hq];exact HG.out.1)⟩
theorem lP(x:Nat):∀l:List Nat,(cG x l).length<=l.length+1
  | []=>qK _
  | a::r=>by
    show(if x=a then a::r else if x<a then x::a::r else a::cG x r).length<=_
    have:=lP x r;split
    · simp
    · split
      · simp
      · simp only[qZ];omega
theorem wE(L:List Lv)(e:Lv):bR (L++[e])=cG e.v (cG e.u (bR L)):=by
 unfold bR;rw[List.foldl_append];rfl
theorem jG(L:List Lv):∀n,L.length=n->(bR L).length<=2*n:=by
 intro n;induction n generalizing L with
 | zero=>intro h;rw[List.length_eq_zero_iff.1 h];exact qK 0
 | succ n ih=>{
 intro h;have hne:L≠[]:=by intro h0;rw[h0]at h;cases h
 rw[<-List.dropLast_concat_getLast hne,wE];have h1:=ih L.dropLast (by rw[List.length_dropLast];omega);have h2:=lP (L.getLast hne).u (bR L.dropLast);have h3:=lP (L.getLast hne).v (cG (L.getLast hne).u (bR L.dropLast));omega}
theorem aLU{w:World}{v:Value}{l:List Lv}(h:bN w v l)(hl:l.length<=16384):
    Calls Tryz.prog 62 #[v] w fun e w' =>∃v', e=.returned v' /\ dH w' v' (bR l)/\Fr [] w w' /\ ∀q,v'.ownBlock=some q->w.heap.size<=q:=by
  obtain⟨a,c,rfl⟩:=h.slice;have H:=qA h;clear h;go_enter Tryz.func62,Tryz.ntmps62
  go_wp2
  go_loopw [3,4] (fun c1 x wr=>∃(i:Nat) (a:Option Addr) (n c:Nat),i<=l.length/\c1=.slice a n c/\x=.int .i64 i/\Hid (dH wr (.slice a n c) (bR (l.take i))/\Fr [] w wr/\∀q,(Value.slice a n c).ownBlock=some q->w.heap.size<=q)) (fun _ x _=>l.length-(intOf x).toNat)
  case atStart=>exact⟨0,none,0,0,qS _,rfl,rfl,qA ⟨⟨rfl,.inl ⟨rfl,rfl⟩⟩,Fr.refl _ _,fun q hq=>by cases hq⟩⟩
  case round=>
    obtain⟨i,ao,no,co,hi,rfl,rfl,HR⟩:=hrel;rename World=>wr
    by_cases hlt:i<l.length
    · obtain ⟨b1, c1', e1, hx1, hx2, hx3, r1⟩ := H.out.at hlt
      simp only[qP,true_and]at e1;obtain⟨rfl,rfl⟩:=e1;clear hx1 hx2 hx3;have hi1:(i:Int)<l.length:=by omega
      have hi0:(0:Int)<=i:=by omega
      have hst:bR (l.take (i+1))=cG (l[i]'hlt).v (cG (l[i]'hlt).u (bR (l.take i))):=by rw[List.take_add_one,qL hlt];exact wE _ _
      generalize l[i]'hlt=x at *;obtain⟨_,_,x2,x3,_,_,_⟩:=r1;have hlen:=jG (l.take i) _ rfl;rw[List.length_take]at hlen;have hlt1:=jT (l.take i);obtain⟨ds,hds⟩:∃ds,ds=bR (l.take i):=⟨_,rfl⟩;rw[<-hds]at HR hst hlen hlt1;have x2:=HR.out.2.1.cell x2 (by simp);have x3:=HR.out.2.1.cell x3 (by simp)
      have HP:=qA (show ∀w', Fr [] wr w' -> Calls Tryz.prog 100 #[.slice ao no co,.int .u64 x.u] w' fun e w1=>∃a1 n1 k1,e=.returned (.slice a1 n1 k1)/\Fr [] wr w1 /\
          Calls Tryz.prog 100 #[.slice a1 n1 k1,.int .u64 x.v] w1 fun e w2=>∃a2 n2 k2,e=.returned (.slice a2 n2 k2)/\dH w2 (.slice a2 n2 k2) (cG x.v (cG x.u ds))/\Fr [] wr w2/\∀q,(Value.slice a2 n2 k2).ownBlock=some q->w.heap.size<=q from fun w' hf=>by
        have hr:=HR.out.1.fr0 hf;refine(yA hr hlt1 x.u (by omega)).mono ?_;rintro _ w1 ⟨v1,rfl,h1,hF1,hq1⟩;obtain⟨a1,k1,rfl⟩:=h1.slice;refine⟨_,_,_,rfl,hf.trans' hF1,(yA h1 (gF hlt1) x.v (by have:=lP x.u ds;omega)).mono ?_⟩;rintro _ w2 ⟨v2,rfl,h2,hF2,hq2⟩;obtain⟨a2,k2,rfl⟩:=h2.slice;refine⟨_,_,_,rfl,h2,(hf.trans' hF1).trans' hF2,fun q hq=>?_⟩;have s1:=(HR.out.2.1.trans' (hf.trans' hF1)).size;have s0:=(HR.out.2.1.trans' hf).size;rcases hq2 q hq with e|e
        · rcases hq1 q e with e | e
          · exact HR.out.2.2 q e
          · omega
        · omega)
      have HF:=qA (zI HR.out.2.1 hst);clear hst hlen hlt1 hds HR;go_wp2_with fail
      go_region_held3 (fun w' => w'.cell? ⟨b1, i * 7 + 2, none⟩ = some (.int .u64 x.u) /\ w'.cell? ⟨b1, i * 7 + 3, none⟩ = some (.int .u64 x.v))
        (first
          | go_keep
          | exact⟨hfB.cell x2 (by simp),hfB.cell x3 (by simp)⟩
          | exact⟨hfA.cell x2 (by simp),hfA.cell x3 (by simp)⟩)
        (first
          | (go_at_call 100;with_reducible refine Calls.mono (HP.out _ (Fr.refl [] wr).drew) ?_;rintro r wA ⟨a1,n1,k1,rfl,hfA,hcA⟩)
          | (go_at_call 100;with_reducible refine Calls.mono hcA ?_;rintro r wB ⟨a2,n2,k2,rfl,hB,hfB,hqB⟩))
      all_goals
        have HN:Hid (dH wB (.slice a2 n2 k2) (bR (l.take (i+1)))/\Fr [] w wB/\∀q,(Value.slice a2 n2 k2).ownBlock=some q->w.heap.size<=q):=qA (by
          rw[HF.out.2];exact⟨hB,HF.out.1.trans' hfB,hqB⟩)
        clear hB hfB hqB hcA hfA HP x2 x3;go_wp2_with fail
        go_roundw
        case rel=>exact⟨i+1,_,_,_,by omega,rfl,by go_num,HN⟩
        case measure=>simp[intOf];omega
    · obtain rfl : i = l.length := by omega
      go_wp2
      go_ret;have:=HR.out;rw[List.take_length]at this;exact⟨_,rfl,this⟩
end Go.Proofs.YtjdgpcjbgjnahaaGreatDoor
