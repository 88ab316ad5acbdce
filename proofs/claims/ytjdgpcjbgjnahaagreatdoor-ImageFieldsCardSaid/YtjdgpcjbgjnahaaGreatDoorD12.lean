/- Rows of records. -/
import Derived.Test.YtjdgpcjbgjnahaaGreatDoorD1
import Derived.Test.YtjdgpcjbgjnahaaGreatDoorD11
import Derived.Test.YtjdgpcjbgjnahaaGreatDoorD3
set_option maxRecDepth 10000
set_option maxHeartbeats 3200000
set_option linter.unusedSimpArgs false
set_option linter.unusedVariables false
/- A configuration as bytes: the walks of config's split and Put. -/
namespace Go.Proofs.YtjdgpcjbgjnahaaGreatDoor
open Go.RowKit
theorem aOQ(m E V D:Int)(w:World):Calls Tryz.prog 73 #[.agg #[.int .i64 m,.int .i64 E,.int .i64 V,.int .i64 D]] w fun e w' =>e=.returned (.agg #[.int .i64 m,.int .i64 E,.int .i64 V,.int .i64 D])/\Fr [] w w' :=by
 have hb:=Blk.new w [.int .i64 m,.int .i64 E,.int .i64 V,.int .i64 D] 31;have hF:Fr [] (w.alloc (.cells #[.int .i64 m,.int .i64 E,.int .i64 V,.int .i64 D] 31)) ((w.alloc (.cells #[.int .i64 m,.int .i64 E,.int .i64 V,.int .i64 D] 31)).alloc (.cells #[.int .i64 0,.int .i64 0,.int .i64 0,.int .i64 0] 115)):=(Fr.refl [] _).alloc _;have hb2:=hF.blk hb (by simp);have r0:=hb2.cell 0;have r1:=hb2.cell 1;have r2:=hb2.cell 2;have r3:=hb2.cell 3;have hb3:=Blk.new (w.alloc (.cells #[.int .i64 m,.int .i64 E,.int .i64 V,.int .i64 D] 31)) [.int .i64 m,.int .i64 E,.int .i64 V,.int .i64 D] 115;rw[World.size_alloc]at hb3;have q0:=hb3.cell 0;have q1:=hb3.cell 1;have q2:=hb3.cell 2;have q3:=hb3.cell 3;simp only[zI,zJ]at r0 r1 r2 r3 q0 q1 q2 q3;have HF:=qA (((Fr.refl [] w).alloc (.cells #[.int .i64 m,.int .i64 E,.int .i64 V,.int .i64 D] 31)).alloc (.cells #[.int .i64 m,.int .i64 E,.int .i64 V,.int .i64 D] 115));clear hb hF hb2 hb3;go_enter Tryz.func73,Tryz.ntmps73
 go_wp2
 exact bodyPost_ret (v:=.agg #[.int .i64 m,.int .i64 E,.int .i64 V,.int .i64 D]) (by simp[results,Tryz.results73,go_sem,q0,q1,q2,q3]) rfl ⟨rfl,HF.out⟩
theorem wI{m E V D:Int}(h:mM m E V D=true):cM m E V D=-1:=by
 obtain⟨k1,k2,k3,k4,k5,k6,k7⟩:=gZ.1 h;unfold cM;rw[qC (by omega),qC (by omega),qC (by omega),qC (by omega)]
theorem aHM{m E V D:Int}(h:mM m E V D=false):0<=cM m E V D:=by
 by_cases k:0<=cM m E V D
 · exact k
 {
 exfalso
 have:mM m E V D=true:=gZ.2 (by unfold cM at k;split at k<;>(try split at k)<;>(try split at k)<;>(try split at k)<;>omega);rw[h]at this;cases this}
theorem Tryz.info5:(Tryz.prog.info? 5).map (fun i=>(i.zero,i.size,i.bytes))=some (some (.int .u8 0),1,1):=by kernel_rfl
@[go_sem] theorem aRI(m E V D:Int)(w:World):(Instr.index 115 (.agg #[.int .i64 m,.int .i64 E,.int .i64 V,.int .i64 D]) (.int .i64 0)).run Tryz.prog w=.ok (.int .i64 m) w:=by kernel_rfl
@[go_sem] theorem aRJ(m E V D:Int)(w:World):(Instr.index 115 (.agg #[.int .i64 m,.int .i64 E,.int .i64 V,.int .i64 D]) (.int .i64 1)).run Tryz.prog w=.ok (.int .i64 E) w:=by kernel_rfl
@[go_sem] theorem aRK(m E V D:Int)(w:World):(Instr.index 115 (.agg #[.int .i64 m,.int .i64 E,.int .i64 V,.int .i64 D]) (.int .i64 2)).run Tryz.prog w=.ok (.int .i64 V) w:=by kernel_rfl
@[go_sem] theorem aRL(m E V D:Int)(w:World):(Instr.index 115 (.agg #[.int .i64 m,.int .i64 E,.int .i64 V,.int .i64 D]) (.int .i64 3)).run Tryz.prog w=.ok (.int .i64 D) w:=by kernel_rfl
def PB(w wr:World)(v:Value)(l:List Nat):Prop:=eC wr v l/\(∀q,v.ownBlock=some q->w.heap.size<=q)/\Fr [] w wr
theorem PB.push{w wr w4:World}{a:Option Addr}{n c g c' :Nat}{l:List Nat}{b:Nat}{o:Obj}(h:PB w wr (.slice a n c) l)(hn:l.length=n)(hown:w4.ownsRow 0 5 1 (.slice (some ⟨g,0,none⟩) (n+1) c') (n+1) (bM l++[.int .u8 (b:Int)]))(hgrow:(wr.alloc o).grownBy w4 (Value.slice a n c).ownBlock)(hg:(Value.slice a n c).ownBlock=some g∨(wr.alloc o).heap.size<=g):
    PB w w4 (.slice (some ⟨g,0,none⟩) (n+1) c') (l++[b]):=by
 have hF:Fr (Value.slice a n c).ownBlock.toList wr w4:=((Fr.refl _ _).alloc _).grown hgrow (fun q e=>.inl (by simp[e]));have hs:=h.2.2.size;simp only[World.size_alloc]at hg;refine⟨?_,fun q e=>?_,h.2.2.trans hF (fun q hq=>.inr (h.2.1 q (by simpa using hq)))⟩
 {
 unfold eC;rw[zE,hn,sI];exact hown}
 {
 simp only[Value.ownBlock,qI]at e;subst e;rcases hg with e|e
 · exact h.2.1 _ e
 · omega}
theorem PB.own{w wr:World}{a:Option Addr}{n c:Nat}{l:List Nat}(h:PB w wr (.slice a n c) l)(hn:l.length=n):∀o,World.ownsRow (wr.alloc o) 0 5 1 (.slice a n c) n (bM l):=fun o=>by
 have:=h.1.fr0 ((Fr.refl [] wr).alloc o);unfold eC at this;rw[hn]at this;exact this
theorem aP{x:Int}(h:0<=x/\x<=9223372036854775807):aQ x=x.toNat:=by unfold aQ;omega
def iP:Array Value:=#[.int .u8 0,.int .u8 0,.int .u8 0,.int .u8 0,.int .u8 0,.int .u8 0,.int .u8 0,.int .u8 0,.int .u8 0,.int .u8 0,.int .u8 0,.int .u8 0,.int .u8 0,.int .u8 0,.int .u8 0,.int .u8 0,.int .u8 0,.int .u8 0,.int .u8 0,.int .u8 0,.int .u8 0,.int .u8 0,.int .u8 0,.int .u8 0,.int .u8 0,.int .u8 0,.int .u8 0,.int .u8 0,.int .u8 0,.int .u8 0,.int .u8 0,.int .u8 0]
theorem aDK(w:World):(Instr.makeSlice 22 (.int .i64 0) (.int .i64 32)).run Tryz.prog w=.ok (.slice (some ⟨w.heap.size,0,none⟩) 0 32) (w.alloc (.cells iP 5)):=by kernel_rfl
theorem eC.mk32(w:World):eC (w.alloc (.cells iP 5)) (.slice (some ⟨w.heap.size,0,none⟩) 0 32) []:=
  ⟨rfl,.inr ⟨w.heap.size,32,iP,rfl,qR _,Blk.new w iP.toList 5,qR _,by decide,by decide,rfl⟩⟩
theorem put_ok{w:World}(hL:fH w)(m E V D:Int)(hm:m<=9223372036854775807)(hc:mM m E V D=true):
    Calls Tryz.prog 39 #[.agg #[.int .i64 m,.int .i64 E,.int .i64 V,.int .i64 D]] w fun e w' =>∃v,e=.returned (.tuple #[v,.int .i64 0])/\eC w' v (fI m E V D)/\(∀q,v.ownBlock=some q->w.heap.size<=q)/\Fr [] w w' :=by
 have hb:=Blk.new w [.int .i64 m,.int .i64 E,.int .i64 V,.int .i64 D] 31;have r0:=hb.cell 0;have r1:=hb.cell 1;have r2:=hb.cell 2;have r3:=hb.cell 3;simp only[zI,zJ]at r0 r1 r2 r3;have HF:=qA ((Fr.refl [] w).alloc (.cells #[.int .i64 m,.int .i64 E,.int .i64 V,.int .i64 D] 31));have HS:=qA (aOQ m E V D (w.alloc (.cells #[.int .i64 m,.int .i64 E,.int .i64 V,.int .i64 D] 31)));have HL:=qA hL;have HC:=qA hc;clear hb hL hc;go_enter Tryz.func39,Tryz.ntmps39
 go_wp2_with fail
 refine HS.out.mono ?_;rintro _ w2 ⟨rfl,hF⟩;have hb:=Blk.new w2 [.int .i64 m,.int .i64 E,.int .i64 V,.int .i64 D] 115;have r0:=hb.cell 0;have r1:=hb.cell 1;have r2:=hb.cell 2;have r3:=hb.cell 3;simp only[zI,zJ]at r0 r1 r2 r3;have HF:=qA ((HF.out.trans' hF).alloc (.cells #[.int .i64 m,.int .i64 E,.int .i64 V,.int .i64 D] 115));have HB:=qA hb;have hg:=wR (HL.out.fr HF.out (by simp)) m E V D hm;rw[wI HC.out]at hg;have HG:=qA hg;clear hb hF HS hg;go_wp2_with fail
 refine HG.out.mono ?_;rintro _ w3 ⟨rfl,hF⟩;have hb:=hF.blk HB.out (by simp);have r0:=hb.cell 0;have r1:=hb.cell 1;have r2:=hb.cell 2;have r3:=hb.cell 3;simp only[zI,zJ]at r0 r1 r2 r3;have HF:=qA (HF.out.trans' hF);clear hF HG hb;have hmk:=aDK w3;have HR0:=qA (zH (eC.mk32 w3) (HF.out.alloc (.cells iP 5)));have r0:=((Fr.refl [] w3).alloc (.cells iP 5)).cell r0 (by simp);have r1:=((Fr.refl [] w3).alloc (.cells iP 5)).cell r1 (by simp);have r2:=((Fr.refl [] w3).alloc (.cells iP 5)).cell r2 (by simp);have r3:=((Fr.refl [] w3).alloc (.cells iP 5)).cell r3 (by simp);generalize iP=z32 at *;have HP0:=qA (show PB w (w3.alloc (.cells z32 5)) (.slice (some ⟨w3.heap.size,0,none⟩) 0 32) [] from⟨HR0.out.1,fun q e=>(by simp only[Value.ownBlock,qI]at e;have:=HF.out.size;omega),HR0.out.2⟩);obtain⟨L,hL⟩:∃L,L=fI m E V D:=⟨_,rfl⟩;have HLL:=qA hL;have H0:=qA (show(0<=m/\m<=9223372036854775807)/\(0<=E/\E<=9223372036854775807)/\(0<=V/\V<=9223372036854775807)/\(0<=D/\D<=9223372036854775807) by have:=gZ.1 HC.out;omega);clear HR0 hL;go_wp2_with fail
 clear r0 r1 r2 r3 hmk;go_loopw [5,16] (fun c1 c2 wr=>∃k:Nat,k<=4/\(∃sa sc,c1=.slice sa (8*k) sc/\Hid (PB w wr (.slice sa (8*k) sc) (L.take (8*k))))/\c2=.int .i64 k) (fun _ c _=>4-(intOf c).toNat)
 case atStart=>exact⟨0,by omega,⟨_,_,rfl,HP0⟩,rfl⟩
 case round=>
  clear HP0;obtain⟨k,hk,⟨sa,sc,rfl,HP⟩,rfl⟩:=hrel;rename World=>wr
  by_cases hlt:k<4
  {
  have hk4:k=0∨k=1∨k=2∨k=3:=by omega
  have hlt' :(k:Int)<4:=by omega
  have hw1:IntKind.i64.wrap ((k:Int)+1)=((k+1:Nat):Int):=by rw[show(k:Int)+1=((k+1:Nat):Int) by omega];exact zF _ (by omega)
  rcases hk4 with hk' | hk' | hk' | hk'
  {
  have hidx:∀w,(Instr.index 115 (.agg #[.int .i64 m,.int .i64 E,.int .i64 V,.int .i64 D]) (.int .i64 (k:Int))).run Tryz.prog w=.ok (.int .i64 m) w:=by rw[hk'];exact aRI m E V D
  have HK:=qA hk';clear hk';go_wp2_with fail
  clear hidx;go_loopw [5,8] (fun c1 c2 wr=>∃j:Nat,j<=8/\(∃sa sc,c1=.slice sa (8*k+j) sc/\Hid (PB w wr (.slice sa (8*k+j) sc) (L.take (8*k+j))))/\c2=.int .i64 (56-8*(j:Int))) (fun _ c _=>((intOf c)+8).toNat)
  case atStart=>exact⟨0,by omega,⟨_,_,rfl,HP⟩,rfl⟩
  case round=>
   clear HP;obtain⟨j,hj,⟨sa,sc,rfl,HP⟩,rfl⟩:=hrel;rename World=>wr
   by_cases hlt:j<8
   {
   have hj8:j=0∨j=1∨j=2∨j=3∨j=4∨j=5∨j=6∨j=7:=by omega
   rcases hj8 with rfl|rfl|rfl|rfl|rfl|rfl|rfl|rfl
   {
   have HQ:=qA (PB.own (n:=(8*k+0)) HP.out (by rw[List.length_take,HLL.out,aA];omega));go_wp2_with (first|(at_builtin;refine aB rfl (.tmp 23) (.tmp 28) 22 rfl 5 (.int .u8 0) 1 Tryz.underlying22 Tryz.info5 rfl (.slice sa (8*k+0) sc) (8*k+0) (bM (L.take (8*k+0))) rfl (HQ.out _) wr.heap.size (.int .u8 (m/72057594037927936%256)) rfl (aC _ _ _ _ rfl) rfl (by omega) (by decide) ?_;intro g' cap' w4 hown4 hgrow4 hg4)|fail)
   have HN:Hid (PB w w4 (.slice (some ⟨g', 0,none⟩) (8*k+(0+1)) cap') (L.take (8*k+(0+1)))):=qA (by
     have hat:L[(8*k+0)]? =some (m.toNat/72057594037927936%256):=by rw[HLL.out,HK.out];show some (aQ m/72057594037927936%256)=_;rw[aP H0.out.1]
     rw[show m/72057594037927936%256=((m.toNat/72057594037927936%256:Nat):Int) by have:=H0.out;omega]at hown4;have h1:=PB.push (n:=(8*k+0)) HP.out (by rw[List.length_take,HLL.out,aA];omega) hown4 hgrow4 hg4;have h2:L.take (8*k+(0+1))=L.take (8*k+0)++[m.toNat/72057594037927936%256]:=(List.take_add_one (l:=L) (i:=(8*k+0))).trans (by rw[hat];rfl);rw[h2];exact h1)
   clear HQ hown4 hgrow4 hg4 HP;go_roundw
   case rel=>exact⟨0+1,by omega,⟨_,_,rfl,HN⟩,by go_num⟩
   case measure=>simp[intOf]}
   {
   have HQ:=qA (PB.own (n:=(8*k+1)) HP.out (by rw[List.length_take,HLL.out,aA];omega));go_wp2_with (first|(at_builtin;refine aB rfl (.tmp 23) (.tmp 28) 22 rfl 5 (.int .u8 0) 1 Tryz.underlying22 Tryz.info5 rfl (.slice sa (8*k+1) sc) (8*k+1) (bM (L.take (8*k+1))) rfl (HQ.out _) wr.heap.size (.int .u8 (m/281474976710656%256)) rfl (aC _ _ _ _ rfl) rfl (by omega) (by decide) ?_;intro g' cap' w4 hown4 hgrow4 hg4)|fail)
   have HN:Hid (PB w w4 (.slice (some ⟨g', 0,none⟩) (8*k+(1+1)) cap') (L.take (8*k+(1+1)))):=qA (by
     have hat:L[(8*k+1)]? =some (m.toNat/281474976710656%256):=by rw[HLL.out,HK.out];show some (aQ m/281474976710656%256)=_;rw[aP H0.out.1]
     rw[show m/281474976710656%256=((m.toNat/281474976710656%256:Nat):Int) by have:=H0.out;omega]at hown4;have h1:=PB.push (n:=(8*k+1)) HP.out (by rw[List.length_take,HLL.out,aA];omega) hown4 hgrow4 hg4;have h2:L.take (8*k+(1+1))=L.take (8*k+1)++[m.toNat/281474976710656%256]:=(List.take_add_one (l:=L) (i:=(8*k+1))).trans (by rw[hat];rfl);rw[h2];exact h1)
   clear HQ hown4 hgrow4 hg4 HP;go_roundw
   case rel=>exact⟨1+1,by omega,⟨_,_,rfl,HN⟩,by go_num⟩
   case measure=>simp[intOf]}
   {
   have HQ:=qA (PB.own (n:=(8*k+2)) HP.out (by rw[List.length_take,HLL.out,aA];omega));go_wp2_with (first|(at_builtin;refine aB rfl (.tmp 23) (.tmp 28) 22 rfl 5 (.int .u8 0) 1 Tryz.underlying22 Tryz.info5 rfl (.slice sa (8*k+2) sc) (8*k+2) (bM (L.take (8*k+2))) rfl (HQ.out _) wr.heap.size (.int .u8 (m/1099511627776%256)) rfl (aC _ _ _ _ rfl) rfl (by omega) (by decide) ?_;intro g' cap' w4 hown4 hgrow4 hg4)|fail)
   have HN:Hid (PB w w4 (.slice (some ⟨g', 0,none⟩) (8*k+(2+1)) cap') (L.take (8*k+(2+1)))):=qA (by
     have hat:L[(8*k+2)]? =some (m.toNat/1099511627776%256):=by rw[HLL.out,HK.out];show some (aQ m/1099511627776%256)=_;rw[aP H0.out.1]
     rw[show m/1099511627776%256=((m.toNat/1099511627776%256:Nat):Int) by have:=H0.out;omega]at hown4;have h1:=PB.push (n:=(8*k+2)) HP.out (by rw[List.length_take,HLL.out,aA];omega) hown4 hgrow4 hg4;have h2:L.take (8*k+(2+1))=L.take (8*k+2)++[m.toNat/1099511627776%256]:=(List.take_add_one (l:=L) (i:=(8*k+2))).trans (by rw[hat];rfl);rw[h2];exact h1)
   clear HQ hown4 hgrow4 hg4 HP;go_roundw
   case rel=>exact⟨2+1,by omega,⟨_,_,rfl,HN⟩,by go_num⟩
   case measure=>simp[intOf]}
   {
   have HQ:=qA (PB.own (n:=(8*k+3)) HP.out (by rw[List.length_take,HLL.out,aA];omega));go_wp2_with (first|(at_builtin;refine aB rfl (.tmp 23) (.tmp 28) 22 rfl 5 (.int .u8 0) 1 Tryz.underlying22 Tryz.info5 rfl (.slice sa (8*k+3) sc) (8*k+3) (bM (L.take (8*k+3))) rfl (HQ.out _) wr.heap.size (.int .u8 (m/4294967296%256)) rfl (aC _ _ _ _ rfl) rfl (by omega) (by decide) ?_;intro g' cap' w4 hown4 hgrow4 hg4)|fail)
   have HN:Hid (PB w w4 (.slice (some ⟨g', 0,none⟩) (8*k+(3+1)) cap') (L.take (8*k+(3+1)))):=qA (by
     have hat:L[(8*k+3)]? =some (m.toNat/4294967296%256):=by rw[HLL.out,HK.out];show some (aQ m/4294967296%256)=_;rw[aP H0.out.1]
     rw[show m/4294967296%256=((m.toNat/4294967296%256:Nat):Int) by have:=H0.out;omega]at hown4;have h1:=PB.push (n:=(8*k+3)) HP.out (by rw[List.length_take,HLL.out,aA];omega) hown4 hgrow4 hg4;have h2:L.take (8*k+(3+1))=L.take (8*k+3)++[m.toNat/4294967296%256]:=(List.take_add_one (l:=L) (i:=(8*k+3))).trans (by rw[hat];rfl);rw[h2];exact h1)
   clear HQ hown4 hgrow4 hg4 HP;go_roundw
   case rel=>exact⟨3+1,by omega,⟨_,_,rfl,HN⟩,by go_num⟩
   case measure=>simp[intOf]}
   {
   have HQ:=qA (PB.own (n:=(8*k+4)) HP.out (by rw[List.length_take,HLL.out,aA];omega));go_wp2_with (first|(at_builtin;refine aB rfl (.tmp 23) (.tmp 28) 22 rfl 5 (.int .u8 0) 1 Tryz.underlying22 Tryz.info5 rfl (.slice sa (8*k+4) sc) (8*k+4) (bM (L.take (8*k+4))) rfl (HQ.out _) wr.heap.size (.int .u8 (m/16777216%256)) rfl (aC _ _ _ _ rfl) rfl (by omega) (by decide) ?_;intro g' cap' w4 hown4 hgrow4 hg4)|fail)
   have HN:Hid (PB w w4 (.slice (some ⟨g', 0,none⟩) (8*k+(4+1)) cap') (L.take (8*k+(4+1)))):=qA (by
     have hat:L[(8*k+4)]? =some (m.toNat/16777216%256):=by rw[HLL.out,HK.out];show some (aQ m/16777216%256)=_;rw[aP H0.out.1]
     rw[show m/16777216%256=((m.toNat/16777216%256:Nat):Int) by have:=H0.out;omega]at hown4;have h1:=PB.push (n:=(8*k+4)) HP.out (by rw[List.length_take,HLL.out,aA];omega) hown4 hgrow4 hg4;have h2:L.take (8*k+(4+1))=L.take (8*k+4)++[m.toNat/16777216%256]:=(List.take_add_one (l:=L) (i:=(8*k+4))).trans (by rw[hat];rfl);rw[h2];exact h1)
   clear HQ hown4 hgrow4 hg4 HP;go_roundw
   case rel=>exact⟨4+1,by omega,⟨_,_,rfl,HN⟩,by go_num⟩
   case measure=>simp[intOf]}
   {
   have HQ:=qA (PB.own (n:=(8*k+5)) HP.out (by rw[List.length_take,HLL.out,aA];omega));go_wp2_with (first|(at_builtin;refine aB rfl (.tmp 23) (.tmp 28) 22 rfl 5 (.int .u8 0) 1 Tryz.underlying22 Tryz.info5 rfl (.slice sa (8*k+5) sc) (8*k+5) (bM (L.take (8*k+5))) rfl (HQ.out _) wr.heap.size (.int .u8 (m/65536%256)) rfl (aC _ _ _ _ rfl) rfl (by omega) (by decide) ?_;intro g' cap' w4 hown4 hgrow4 hg4)|fail)
   have HN:Hid (PB w w4 (.slice (some ⟨g', 0,none⟩) (8*k+(5+1)) cap') (L.take (8*k+(5+1)))):=qA (by
     have hat:L[(8*k+5)]? =some (m.toNat/65536%256):=by rw[HLL.out,HK.out];show some (aQ m/65536%256)=_;rw[aP H0.out.1]
     rw[show m/65536%256=((m.toNat/65536%256:Nat):Int) by have:=H0.out;omega]at hown4;have h1:=PB.push (n:=(8*k+5)) HP.out (by rw[List.length_take,HLL.out,aA];omega) hown4 hgrow4 hg4;have h2:L.take (8*k+(5+1))=L.take (8*k+5)++[m.toNat/65536%256]:=(List.take_add_one (l:=L) (i:=(8*k+5))).trans (by rw[hat];rfl);rw[h2];exact h1)
   clear HQ hown4 hgrow4 hg4 HP;go_roundw
   case rel=>exact⟨5+1,by omega,⟨_,_,rfl,HN⟩,by go_num⟩
   case measure=>simp[intOf]}
   {
   have HQ:=qA (PB.own (n:=(8*k+6)) HP.out (by rw[List.length_take,HLL.out,aA];omega));go_wp2_with (first|(at_builtin;refine aB rfl (.tmp 23) (.tmp 28) 22 rfl 5 (.int .u8 0) 1 Tryz.underlying22 Tryz.info5 rfl (.slice sa (8*k+6) sc) (8*k+6) (bM (L.take (8*k+6))) rfl (HQ.out _) wr.heap.size (.int .u8 (m/256%256)) rfl (aC _ _ _ _ rfl) rfl (by omega) (by decide) ?_;intro g' cap' w4 hown4 hgrow4 hg4)|fail)
   have HN:Hid (PB w w4 (.slice (some ⟨g', 0,none⟩) (8*k+(6+1)) cap') (L.take (8*k+(6+1)))):=qA (by
     have hat:L[(8*k+6)]? =some (m.toNat/256%256):=by rw[HLL.out,HK.out];show some (aQ m/256%256)=_;rw[aP H0.out.1]
     rw[show m/256%256=((m.toNat/256%256:Nat):Int) by have:=H0.out;omega]at hown4;have h1:=PB.push (n:=(8*k+6)) HP.out (by rw[List.length_take,HLL.out,aA];omega) hown4 hgrow4 hg4;have h2:L.take (8*k+(6+1))=L.take (8*k+6)++[m.toNat/256%256]:=(List.take_add_one (l:=L) (i:=(8*k+6))).trans (by rw[hat];rfl);rw[h2];exact h1)
   clear HQ hown4 hgrow4 hg4 HP;go_roundw
   case rel=>exact⟨6+1,by omega,⟨_,_,rfl,HN⟩,by go_num⟩
   case measure=>simp[intOf]}
   {
   have HQ:=qA (PB.own (n:=(8*k+7)) HP.out (by rw[List.length_take,HLL.out,aA];omega));go_wp2_with (first|(at_builtin;refine aB rfl (.tmp 23) (.tmp 28) 22 rfl 5 (.int .u8 0) 1 Tryz.underlying22 Tryz.info5 rfl (.slice sa (8*k+7) sc) (8*k+7) (bM (L.take (8*k+7))) rfl (HQ.out _) wr.heap.size (.int .u8 (m%256)) rfl (aC _ _ _ _ rfl) rfl (by omega) (by decide) ?_;intro g' cap' w4 hown4 hgrow4 hg4)|fail)
   have HN:Hid (PB w w4 (.slice (some ⟨g', 0,none⟩) (8*k+(7+1)) cap') (L.take (8*k+(7+1)))):=qA (by
     have hat:L[(8*k+7)]? =some (m.toNat/1%256):=by rw[HLL.out,HK.out];show some (aQ m/1%256)=_;rw[aP H0.out.1]
     rw[show m%256=((m.toNat/1%256:Nat):Int) by have:=H0.out;omega]at hown4;have h1:=PB.push (n:=(8*k+7)) HP.out (by rw[List.length_take,HLL.out,aA];omega) hown4 hgrow4 hg4;have h2:L.take (8*k+(7+1))=L.take (8*k+7)++[m.toNat/1%256]:=(List.take_add_one (l:=L) (i:=(8*k+7))).trans (by rw[hat];rfl);rw[h2];exact h1)
   clear HQ hown4 hgrow4 hg4 HP;go_roundw
   case rel=>exact⟨7+1,by omega,⟨_,_,rfl,HN⟩,by go_num⟩
   case measure=>simp[intOf]}}
   {
   obtain rfl:j=8:=by omega
   have HN:=qA (show PB w wr (.slice sa (8*(k+1)) sc) (L.take (8*(k+1))) from HP.out);clear HP;go_wp2_with fail
   go_roundw
   case rel=>exact⟨k+1,by omega,⟨_,_,rfl,HN⟩,by go_num⟩
   case measure=>simp[intOf];omega}}
  {
  have hidx:∀w,(Instr.index 115 (.agg #[.int .i64 m,.int .i64 E,.int .i64 V,.int .i64 D]) (.int .i64 (k:Int))).run Tryz.prog w=.ok (.int .i64 E) w:=by rw[hk'];exact aRJ m E V D
  have HK:=qA hk';clear hk';go_wp2_with fail
  clear hidx;go_loopw [5,8] (fun c1 c2 wr=>∃j:Nat,j<=8/\(∃sa sc,c1=.slice sa (8*k+j) sc/\Hid (PB w wr (.slice sa (8*k+j) sc) (L.take (8*k+j))))/\c2=.int .i64 (56-8*(j:Int))) (fun _ c _=>((intOf c)+8).toNat)
  case atStart=>exact⟨0,by omega,⟨_,_,rfl,HP⟩,rfl⟩
  case round=>
   clear HP;obtain⟨j,hj,⟨sa,sc,rfl,HP⟩,rfl⟩:=hrel;rename World=>wr
   by_cases hlt:j<8
   {
   have hj8:j=0∨j=1∨j=2∨j=3∨j=4∨j=5∨j=6∨j=7:=by omega
   rcases hj8 with rfl|rfl|rfl|rfl|rfl|rfl|rfl|rfl
   {
   have HQ:=qA (PB.own (n:=(8*k+0)) HP.out (by rw[List.length_take,HLL.out,aA];omega));go_wp2_with (first|(at_builtin;refine aB rfl (.tmp 23) (.tmp 28) 22 rfl 5 (.int .u8 0) 1 Tryz.underlying22 Tryz.info5 rfl (.slice sa (8*k+0) sc) (8*k+0) (bM (L.take (8*k+0))) rfl (HQ.out _) wr.heap.size (.int .u8 (E/72057594037927936%256)) rfl (aC _ _ _ _ rfl) rfl (by omega) (by decide) ?_;intro g' cap' w4 hown4 hgrow4 hg4)|fail)
   have HN:Hid (PB w w4 (.slice (some ⟨g', 0,none⟩) (8*k+(0+1)) cap') (L.take (8*k+(0+1)))):=qA (by
     have hat:L[(8*k+0)]? =some (E.toNat/72057594037927936%256):=by rw[HLL.out,HK.out];show some (aQ E/72057594037927936%256)=_;rw[aP H0.out.2.1]
     rw[show E/72057594037927936%256=((E.toNat/72057594037927936%256:Nat):Int) by have:=H0.out;omega]at hown4;have h1:=PB.push (n:=(8*k+0)) HP.out (by rw[List.length_take,HLL.out,aA];omega) hown4 hgrow4 hg4;have h2:L.take (8*k+(0+1))=L.take (8*k+0)++[E.toNat/72057594037927936%256]:=(List.take_add_one (l:=L) (i:=(8*k+0))).trans (by rw[hat];rfl);rw[h2];exact h1)
   clear HQ hown4 hgrow4 hg4 HP;go_roundw
   case rel=>exact⟨0+1,by omega,⟨_,_,rfl,HN⟩,by go_num⟩
   case measure=>simp[intOf]}
   {
   have HQ:=qA (PB.own (n:=(8*k+1)) HP.out (by rw[List.length_take,HLL.out,aA];omega));go_wp2_with (first|(at_builtin;refine aB rfl (.tmp 23) (.tmp 28) 22 rfl 5 (.int .u8 0) 1 Tryz.underlying22 Tryz.info5 rfl (.slice sa (8*k+1) sc) (8*k+1) (bM (L.take (8*k+1))) rfl (HQ.out _) wr.heap.size (.int .u8 (E/281474976710656%256)) rfl (aC _ _ _ _ rfl) rfl (by omega) (by decide) ?_;intro g' cap' w4 hown4 hgrow4 hg4)|fail)
   have HN:Hid (PB w w4 (.slice (some ⟨g', 0,none⟩) (8*k+(1+1)) cap') (L.take (8*k+(1+1)))):=qA (by
     have hat:L[(8*k+1)]? =some (E.toNat/281474976710656%256):=by rw[HLL.out,HK.out];show some (aQ E/281474976710656%256)=_;rw[aP H0.out.2.1]
     rw[show E/281474976710656%256=((E.toNat/281474976710656%256:Nat):Int) by have:=H0.out;omega]at hown4;have h1:=PB.push (n:=(8*k+1)) HP.out (by rw[List.length_take,HLL.out,aA];omega) hown4 hgrow4 hg4;have h2:L.take (8*k+(1+1))=L.take (8*k+1)++[E.toNat/281474976710656%256]:=(List.take_add_one (l:=L) (i:=(8*k+1))).trans (by rw[hat];rfl);rw[h2];exact h1)
   clear HQ hown4 hgrow4 hg4 HP;go_roundw
   case rel=>exact⟨1+1,by omega,⟨_,_,rfl,HN⟩,by go_num⟩
   case measure=>simp[intOf]}
   {
   have HQ:=qA (PB.own (n:=(8*k+2)) HP.out (by rw[List.length_take,HLL.out,aA];omega));go_wp2_with (first|(at_builtin;refine aB rfl (.tmp 23) (.tmp 28) 22 rfl 5 (.int .u8 0) 1 Tryz.underlying22 Tryz.info5 rfl (.slice sa (8*k+2) sc) (8*k+2) (bM (L.take (8*k+2))) rfl (HQ.out _) wr.heap.size (.int .u8 (E/1099511627776%256)) rfl (aC _ _ _ _ rfl) rfl (by omega) (by decide) ?_;intro g' cap' w4 hown4 hgrow4 hg4)|fail)
   have HN:Hid (PB w w4 (.slice (some ⟨g', 0,none⟩) (8*k+(2+1)) cap') (L.take (8*k+(2+1)))):=qA (by
     have hat:L[(8*k+2)]? =some (E.toNat/1099511627776%256):=by rw[HLL.out,HK.out];show some (aQ E/1099511627776%256)=_;rw[aP H0.out.2.1]
     rw[show E/1099511627776%256=((E.toNat/1099511627776%256:Nat):Int) by have:=H0.out;omega]at hown4;have h1:=PB.push (n:=(8*k+2)) HP.out (by rw[List.length_take,HLL.out,aA];omega) hown4 hgrow4 hg4;have h2:L.take (8*k+(2+1))=L.take (8*k+2)++[E.toNat/1099511627776%256]:=(List.take_add_one (l:=L) (i:=(8*k+2))).trans (by rw[hat];rfl);rw[h2];exact h1)
   clear HQ hown4 hgrow4 hg4 HP;go_roundw
   case rel=>exact⟨2+1,by omega,⟨_,_,rfl,HN⟩,by go_num⟩
   case measure=>simp[intOf]}
   {
   have HQ:=qA (PB.own (n:=(8*k+3)) HP.out (by rw[List.length_take,HLL.out,aA];omega));go_wp2_with (first|(at_builtin;refine aB rfl (.tmp 23) (.tmp 28) 22 rfl 5 (.int .u8 0) 1 Tryz.underlying22 Tryz.info5 rfl (.slice sa (8*k+3) sc) (8*k+3) (bM (L.take (8*k+3))) rfl (HQ.out _) wr.heap.size (.int .u8 (E/4294967296%256)) rfl (aC _ _ _ _ rfl) rfl (by omega) (by decide) ?_;intro g' cap' w4 hown4 hgrow4 hg4)|fail)
   have HN:Hid (PB w w4 (.slice (some ⟨g', 0,none⟩) (8*k+(3+1)) cap') (L.take (8*k+(3+1)))):=qA (by
     have hat:L[(8*k+3)]? =some (E.toNat/4294967296%256):=by rw[HLL.out,HK.out];show some (aQ E/4294967296%256)=_;rw[aP H0.out.2.1]
     rw[show E/4294967296%256=((E.toNat/4294967296%256:Nat):Int) by have:=H0.out;omega]at hown4;have h1:=PB.push (n:=(8*k+3)) HP.out (by rw[List.length_take,HLL.out,aA];omega) hown4 hgrow4 hg4;have h2:L.take (8*k+(3+1))=L.take (8*k+3)++[E.toNat/4294967296%256]:=(List.take_add_one (l:=L) (i:=(8*k+3))).trans (by rw[hat];rfl);rw[h2];exact h1)
   clear HQ hown4 hgrow4 hg4 HP;go_roundw
   case rel=>exact⟨3+1,by omega,⟨_,_,rfl,HN⟩,by go_num⟩
   case measure=>simp[intOf]}
   {
   have HQ:=qA (PB.own (n:=(8*k+4)) HP.out (by rw[List.length_take,HLL.out,aA];omega));go_wp2_with (first|(at_builtin;refine aB rfl (.tmp 23) (.tmp 28) 22 rfl 5 (.int .u8 0) 1 Tryz.underlying22 Tryz.info5 rfl (.slice sa (8*k+4) sc) (8*k+4) (bM (L.take (8*k+4))) rfl (HQ.out _) wr.heap.size (.int .u8 (E/16777216%256)) rfl (aC _ _ _ _ rfl) rfl (by omega) (by decide) ?_;intro g' cap' w4 hown4 hgrow4 hg4)|fail)
   have HN:Hid (PB w w4 (.slice (some ⟨g', 0,none⟩) (8*k+(4+1)) cap') (L.take (8*k+(4+1)))):=qA (by
     have hat:L[(8*k+4)]? =some (E.toNat/16777216%256):=by rw[HLL.out,HK.out];show some (aQ E/16777216%256)=_;rw[aP H0.out.2.1]
     rw[show E/16777216%256=((E.toNat/16777216%256:Nat):Int) by have:=H0.out;omega]at hown4;have h1:=PB.push (n:=(8*k+4)) HP.out (by rw[List.length_take,HLL.out,aA];omega) hown4 hgrow4 hg4;have h2:L.take (8*k+(4+1))=L.take (8*k+4)++[E.toNat/16777216%256]:=(List.take_add_one (l:=L) (i:=(8*k+4))).trans (by rw[hat];rfl);rw[h2];exact h1)
   clear HQ hown4 hgrow4 hg4 HP;go_roundw
   case rel=>exact⟨4+1,by omega,⟨_,_,rfl,HN⟩,by go_num⟩
   case measure=>simp[intOf]}
   {
   have HQ:=qA (PB.own (n:=(8*k+5)) HP.out (by rw[List.length_take,HLL.out,aA];omega));go_wp2_with (first|(at_builtin;refine aB rfl (.tmp 23) (.tmp 28) 22 rfl 5 (.int .u8 0) 1 Tryz.underlying22 Tryz.info5 rfl (.slice sa (8*k+5) sc) (8*k+5) (bM (L.take (8*k+5))) rfl (HQ.out _) wr.heap.size (.int .u8 (E/65536%256)) rfl (aC _ _ _ _ rfl) rfl (by omega) (by decide) ?_;intro g' cap' w4 hown4 hgrow4 hg4)|fail)
   have HN:Hid (PB w w4 (.slice (some ⟨g', 0,none⟩) (8*k+(5+1)) cap') (L.take (8*k+(5+1)))):=qA (by
     have hat:L[(8*k+5)]? =some (E.toNat/65536%256):=by rw[HLL.out,HK.out];show some (aQ E/65536%256)=_;rw[aP H0.out.2.1]
     rw[show E/65536%256=((E.toNat/65536%256:Nat):Int) by have:=H0.out;omega]at hown4;have h1:=PB.push (n:=(8*k+5)) HP.out (by rw[List.length_take,HLL.out,aA];omega) hown4 hgrow4 hg4;have h2:L.take (8*k+(5+1))=L.take (8*k+5)++[E.toNat/65536%256]:=(List.take_add_one (l:=L) (i:=(8*k+5))).trans (by rw[hat];rfl);rw[h2];exact h1)
   clear HQ hown4 hgrow4 hg4 HP;go_roundw
   case rel=>exact⟨5+1,by omega,⟨_,_,rfl,HN⟩,by go_num⟩
   case measure=>simp[intOf]}
   {
   have HQ:=qA (PB.own (n:=(8*k+6)) HP.out (by rw[List.length_take,HLL.out,aA];omega));go_wp2_with (first|(at_builtin;refine aB rfl (.tmp 23) (.tmp 28) 22 rfl 5 (.int .u8 0) 1 Tryz.underlying22 Tryz.info5 rfl (.slice sa (8*k+6) sc) (8*k+6) (bM (L.take (8*k+6))) rfl (HQ.out _) wr.heap.size (.int .u8 (E/256%256)) rfl (aC _ _ _ _ rfl) rfl (by omega) (by decide) ?_;intro g' cap' w4 hown4 hgrow4 hg4)|fail)
   have HN:Hid (PB w w4 (.slice (some ⟨g', 0,none⟩) (8*k+(6+1)) cap') (L.take (8*k+(6+1)))):=qA (by
     have hat:L[(8*k+6)]? =some (E.toNat/256%256):=by rw[HLL.out,HK.out];show some (aQ E/256%256)=_;rw[aP H0.out.2.1]
     rw[show E/256%256=((E.toNat/256%256:Nat):Int) by have:=H0.out;omega]at hown4;have h1:=PB.push (n:=(8*k+6)) HP.out (by rw[List.length_take,HLL.out,aA];omega) hown4 hgrow4 hg4;have h2:L.take (8*k+(6+1))=L.take (8*k+6)++[E.toNat/256%256]:=(List.take_add_one (l:=L) (i:=(8*k+6))).trans (by rw[hat];rfl);rw[h2];exact h1)
   clear HQ hown4 hgrow4 hg4 HP;go_roundw
   case rel=>exact⟨6+1,by omega,⟨_,_,rfl,HN⟩,by go_num⟩
   case measure=>simp[intOf]}
   {
   have HQ:=qA (PB.own (n:=(8*k+7)) HP.out (by rw[List.length_take,HLL.out,aA];omega));go_wp2_with (first|(at_builtin;refine aB rfl (.tmp 23) (.tmp 28) 22 rfl 5 (.int .u8 0) 1 Tryz.underlying22 Tryz.info5 rfl (.slice sa (8*k+7) sc) (8*k+7) (bM (L.take (8*k+7))) rfl (HQ.out _) wr.heap.size (.int .u8 (E%256)) rfl (aC _ _ _ _ rfl) rfl (by omega) (by decide) ?_;intro g' cap' w4 hown4 hgrow4 hg4)|fail)
   have HN:Hid (PB w w4 (.slice (some ⟨g', 0,none⟩) (8*k+(7+1)) cap') (L.take (8*k+(7+1)))):=qA (by
     have hat:L[(8*k+7)]? =some (E.toNat/1%256):=by rw[HLL.out,HK.out];show some (aQ E/1%256)=_;rw[aP H0.out.2.1]
     rw[show E%256=((E.toNat/1%256:Nat):Int) by have:=H0.out;omega]at hown4;have h1:=PB.push (n:=(8*k+7)) HP.out (by rw[List.length_take,HLL.out,aA];omega) hown4 hgrow4 hg4;have h2:L.take (8*k+(7+1))=L.take (8*k+7)++[E.toNat/1%256]:=(List.take_add_one (l:=L) (i:=(8*k+7))).trans (by rw[hat];rfl);rw[h2];exact h1)
   clear HQ hown4 hgrow4 hg4 HP;go_roundw
   case rel=>exact⟨7+1,by omega,⟨_,_,rfl,HN⟩,by go_num⟩
   case measure=>simp[intOf]}}
   {
   obtain rfl:j=8:=by omega
   have HN:=qA (show PB w wr (.slice sa (8*(k+1)) sc) (L.take (8*(k+1))) from HP.out);clear HP;go_wp2_with fail
   go_roundw
   case rel=>exact⟨k+1,by omega,⟨_,_,rfl,HN⟩,by go_num⟩
   case measure=>simp[intOf];omega}}
  {
  have hidx:∀w,(Instr.index 115 (.agg #[.int .i64 m,.int .i64 E,.int .i64 V,.int .i64 D]) (.int .i64 (k:Int))).run Tryz.prog w=.ok (.int .i64 V) w:=by rw[hk'];exact aRK m E V D
  have HK:=qA hk';clear hk';go_wp2_with fail
  clear hidx;go_loopw [5,8] (fun c1 c2 wr=>∃j:Nat,j<=8/\(∃sa sc,c1=.slice sa (8*k+j) sc/\Hid (PB w wr (.slice sa (8*k+j) sc) (L.take (8*k+j))))/\c2=.int .i64 (56-8*(j:Int))) (fun _ c _=>((intOf c)+8).toNat)
  case atStart=>exact⟨0,by omega,⟨_,_,rfl,HP⟩,rfl⟩
  case round=>
   clear HP;obtain⟨j,hj,⟨sa,sc,rfl,HP⟩,rfl⟩:=hrel;rename World=>wr
   by_cases hlt:j<8
   {
   have hj8:j=0∨j=1∨j=2∨j=3∨j=4∨j=5∨j=6∨j=7:=by omega
   rcases hj8 with rfl|rfl|rfl|rfl|rfl|rfl|rfl|rfl
   {
   have HQ:=qA (PB.own (n:=(8*k+0)) HP.out (by rw[List.length_take,HLL.out,aA];omega));go_wp2_with (first|(at_builtin;refine aB rfl (.tmp 23) (.tmp 28) 22 rfl 5 (.int .u8 0) 1 Tryz.underlying22 Tryz.info5 rfl (.slice sa (8*k+0) sc) (8*k+0) (bM (L.take (8*k+0))) rfl (HQ.out _) wr.heap.size (.int .u8 (V/72057594037927936%256)) rfl (aC _ _ _ _ rfl) rfl (by omega) (by decide) ?_;intro g' cap' w4 hown4 hgrow4 hg4)|fail)
   have HN:Hid (PB w w4 (.slice (some ⟨g', 0,none⟩) (8*k+(0+1)) cap') (L.take (8*k+(0+1)))):=qA (by
     have hat:L[(8*k+0)]? =some (V.toNat/72057594037927936%256):=by rw[HLL.out,HK.out];show some (aQ V/72057594037927936%256)=_;rw[aP H0.out.2.2.1]
     rw[show V/72057594037927936%256=((V.toNat/72057594037927936%256:Nat):Int) by have:=H0.out;omega]at hown4;have h1:=PB.push (n:=(8*k+0)) HP.out (by rw[List.length_take,HLL.out,aA];omega) hown4 hgrow4 hg4;have h2:L.take (8*k+(0+1))=L.take (8*k+0)++[V.toNat/72057594037927936%256]:=(List.take_add_one (l:=L) (i:=(8*k+0))).trans (by rw[hat];rfl);rw[h2];exact h1)
   clear HQ hown4 hgrow4 hg4 HP;go_roundw
   case rel=>exact⟨0+1,by omega,⟨_,_,rfl,HN⟩,by go_num⟩
   case measure=>simp[intOf]}
   {
   have HQ:=qA (PB.own (n:=(8*k+1)) HP.out (by rw[List.length_take,HLL.out,aA];omega));go_wp2_with (first|(at_builtin;refine aB rfl (.tmp 23) (.tmp 28) 22 rfl 5 (.int .u8 0) 1 Tryz.underlying22 Tryz.info5 rfl (.slice sa (8*k+1) sc) (8*k+1) (bM (L.take (8*k+1))) rfl (HQ.out _) wr.heap.size (.int .u8 (V/281474976710656%256)) rfl (aC _ _ _ _ rfl) rfl (by omega) (by decide) ?_;intro g' cap' w4 hown4 hgrow4 hg4)|fail)
   have HN:Hid (PB w w4 (.slice (some ⟨g', 0,none⟩) (8*k+(1+1)) cap') (L.take (8*k+(1+1)))):=qA (by
     have hat:L[(8*k+1)]? =some (V.toNat/281474976710656%256):=by rw[HLL.out,HK.out];show some (aQ V/281474976710656%256)=_;rw[aP H0.out.2.2.1]
     rw[show V/281474976710656%256=((V.toNat/281474976710656%256:Nat):Int) by have:=H0.out;omega]at hown4;have h1:=PB.push (n:=(8*k+1)) HP.out (by rw[List.length_take,HLL.out,aA];omega) hown4 hgrow4 hg4;have h2:L.take (8*k+(1+1))=L.take (8*k+1)++[V.toNat/281474976710656%256]:=(List.take_add_one (l:=L) (i:=(8*k+1))).trans (by rw[hat];rfl);rw[h2];exact h1)
   clear HQ hown4 hgrow4 hg4 HP;go_roundw
   case rel=>exact⟨1+1,by omega,⟨_,_,rfl,HN⟩,by go_num⟩
   case measure=>simp[intOf]}
   {
   have HQ:=qA (PB.own (n:=(8*k+2)) HP.out (by rw[List.length_take,HLL.out,aA];omega));go_wp2_with (first|(at_builtin;refine aB rfl (.tmp 23) (.tmp 28) 22 rfl 5 (.int .u8 0) 1 Tryz.underlying22 Tryz.info5 rfl (.slice sa (8*k+2) sc) (8*k+2) (bM (L.take (8*k+2))) rfl (HQ.out _) wr.heap.size (.int .u8 (V/1099511627776%256)) rfl (aC _ _ _ _ rfl) rfl (by omega) (by decide) ?_;intro g' cap' w4 hown4 hgrow4 hg4)|fail)
   have HN:Hid (PB w w4 (.slice (some ⟨g', 0,none⟩) (8*k+(2+1)) cap') (L.take (8*k+(2+1)))):=qA (by
     have hat:L[(8*k+2)]? =some (V.toNat/1099511627776%256):=by rw[HLL.out,HK.out];show some (aQ V/1099511627776%256)=_;rw[aP H0.out.2.2.1]
     rw[show V/1099511627776%256=((V.toNat/1099511627776%256:Nat):Int) by have:=H0.out;omega]at hown4;have h1:=PB.push (n:=(8*k+2)) HP.out (by rw[List.length_take,HLL.out,aA];omega) hown4 hgrow4 hg4;have h2:L.take (8*k+(2+1))=L.take (8*k+2)++[V.toNat/1099511627776%256]:=(List.take_add_one (l:=L) (i:=(8*k+2))).trans (by rw[hat];rfl);rw[h2];exact h1)
   clear HQ hown4 hgrow4 hg4 HP;go_roundw
   case rel=>exact⟨2+1,by omega,⟨_,_,rfl,HN⟩,by go_num⟩
   case measure=>simp[intOf]}
   {
   have HQ:=qA (PB.own (n:=(8*k+3)) HP.out (by rw[List.length_take,HLL.out,aA];omega));go_wp2_with (first|(at_builtin;refine aB rfl (.tmp 23) (.tmp 28) 22 rfl 5 (.int .u8 0) 1 Tryz.underlying22 Tryz.info5 rfl (.slice sa (8*k+3) sc) (8*k+3) (bM (L.take (8*k+3))) rfl (HQ.out _) wr.heap.size (.int .u8 (V/4294967296%256)) rfl (aC _ _ _ _ rfl) rfl (by omega) (by decide) ?_;intro g' cap' w4 hown4 hgrow4 hg4)|fail)
   have HN:Hid (PB w w4 (.slice (some ⟨g', 0,none⟩) (8*k+(3+1)) cap') (L.take (8*k+(3+1)))):=qA (by
     have hat:L[(8*k+3)]? =some (V.toNat/4294967296%256):=by rw[HLL.out,HK.out];show some (aQ V/4294967296%256)=_;rw[aP H0.out.2.2.1]
     rw[show V/4294967296%256=((V.toNat/4294967296%256:Nat):Int) by have:=H0.out;omega]at hown4;have h1:=PB.push (n:=(8*k+3)) HP.out (by rw[List.length_take,HLL.out,aA];omega) hown4 hgrow4 hg4;have h2:L.take (8*k+(3+1))=L.take (8*k+3)++[V.toNat/4294967296%256]:=(List.take_add_one (l:=L) (i:=(8*k+3))).trans (by rw[hat];rfl);rw[h2];exact h1)
   clear HQ hown4 hgrow4 hg4 HP;go_roundw
   case rel=>exact⟨3+1,by omega,⟨_,_,rfl,HN⟩,by go_num⟩
   case measure=>simp[intOf]}
   {
   have HQ:=qA (PB.own (n:=(8*k+4)) HP.out (by rw[List.length_take,HLL.out,aA];omega));go_wp2_with (first|(at_builtin;refine aB rfl (.tmp 23) (.tmp 28) 22 rfl 5 (.int .u8 0) 1 Tryz.underlying22 Tryz.info5 rfl (.slice sa (8*k+4) sc) (8*k+4) (bM (L.take (8*k+4))) rfl (HQ.out _) wr.heap.size (.int .u8 (V/16777216%256)) rfl (aC _ _ _ _ rfl) rfl (by omega) (by decide) ?_;intro g' cap' w4 hown4 hgrow4 hg4)|fail)
   have HN:Hid (PB w w4 (.slice (some ⟨g', 0,none⟩) (8*k+(4+1)) cap') (L.take (8*k+(4+1)))):=qA (by
     have hat:L[(8*k+4)]? =some (V.toNat/16777216%256):=by rw[HLL.out,HK.out];show some (aQ V/16777216%256)=_;rw[aP H0.out.2.2.1]
     rw[show V/16777216%256=((V.toNat/16777216%256:Nat):Int) by have:=H0.out;omega]at hown4;have h1:=PB.push (n:=(8*k+4)) HP.out (by rw[List.length_take,HLL.out,aA];omega) hown4 hgrow4 hg4;have h2:L.take (8*k+(4+1))=L.take (8*k+4)++[V.toNat/16777216%256]:=(List.take_add_one (l:=L) (i:=(8*k+4))).trans (by rw[hat];rfl);rw[h2];exact h1)
   clear HQ hown4 hgrow4 hg4 HP;go_roundw
   case rel=>exact⟨4+1,by omega,⟨_,_,rfl,HN⟩,by go_num⟩
   case measure=>simp[intOf]}
   {
   have HQ:=qA (PB.own (n:=(8*k+5)) HP.out (by rw[List.length_take,HLL.out,aA];omega));go_wp2_with (first|(at_builtin;refine aB rfl (.tmp 23) (.tmp 28) 22 rfl 5 (.int .u8 0) 1 Tryz.underlying22 Tryz.info5 rfl (.slice sa (8*k+5) sc) (8*k+5) (bM (L.take (8*k+5))) rfl (HQ.out _) wr.heap.size (.int .u8 (V/65536%256)) rfl (aC _ _ _ _ rfl) rfl (by omega) (by decide) ?_;intro g' cap' w4 hown4 hgrow4 hg4)|fail)
   have HN:Hid (PB w w4 (.slice (some ⟨g', 0,none⟩) (8*k+(5+1)) cap') (L.take (8*k+(5+1)))):=qA (by
     have hat:L[(8*k+5)]? =some (V.toNat/65536%256):=by rw[HLL.out,HK.out];show some (aQ V/65536%256)=_;rw[aP H0.out.2.2.1]
     rw[show V/65536%256=((V.toNat/65536%256:Nat):Int) by have:=H0.out;omega]at hown4;have h1:=PB.push (n:=(8*k+5)) HP.out (by rw[List.length_take,HLL.out,aA];omega) hown4 hgrow4 hg4;have h2:L.take (8*k+(5+1))=L.take (8*k+5)++[V.toNat/65536%256]:=(List.take_add_one (l:=L) (i:=(8*k+5))).trans (by rw[hat];rfl);rw[h2];exact h1)
   clear HQ hown4 hgrow4 hg4 HP;go_roundw
   case rel=>exact⟨5+1,by omega,⟨_,_,rfl,HN⟩,by go_num⟩
   case measure=>simp[intOf]}
   {
   have HQ:=qA (PB.own (n:=(8*k+6)) HP.out (by rw[List.length_take,HLL.out,aA];omega));go_wp2_with (first|(at_builtin;refine aB rfl (.tmp 23) (.tmp 28) 22 rfl 5 (.int .u8 0) 1 Tryz.underlying22 Tryz.info5 rfl (.slice sa (8*k+6) sc) (8*k+6) (bM (L.take (8*k+6))) rfl (HQ.out _) wr.heap.size (.int .u8 (V/256%256)) rfl (aC _ _ _ _ rfl) rfl (by omega) (by decide) ?_;intro g' cap' w4 hown4 hgrow4 hg4)|fail)
   have HN:Hid (PB w w4 (.slice (some ⟨g', 0,none⟩) (8*k+(6+1)) cap') (L.take (8*k+(6+1)))):=qA (by
     have hat:L[(8*k+6)]? =some (V.toNat/256%256):=by rw[HLL.out,HK.out];show some (aQ V/256%256)=_;rw[aP H0.out.2.2.1]
     rw[show V/256%256=((V.toNat/256%256:Nat):Int) by have:=H0.out;omega]at hown4;have h1:=PB.push (n:=(8*k+6)) HP.out (by rw[List.length_take,HLL.out,aA];omega) hown4 hgrow4 hg4;have h2:L.take (8*k+(6+1))=L.take (8*k+6)++[V.toNat/256%256]:=(List.take_add_one (l:=L) (i:=(8*k+6))).trans (by rw[hat];rfl);rw[h2];exact h1)
   clear HQ hown4 hgrow4 hg4 HP;go_roundw
   case rel=>exact⟨6+1,by omega,⟨_,_,rfl,HN⟩,by go_num⟩
   case measure=>simp[intOf]}
   {
   have HQ:=qA (PB.own (n:=(8*k+7)) HP.out (by rw[List.length_take,HLL.out,aA];omega));go_wp2_with (first|(at_builtin;refine aB rfl (.tmp 23) (.tmp 28) 22 rfl 5 (.int .u8 0) 1 Tryz.underlying22 Tryz.info5 rfl (.slice sa (8*k+7) sc) (8*k+7) (bM (L.take (8*k+7))) rfl (HQ.out _) wr.heap.size (.int .u8 (V%256)) rfl (aC _ _ _ _ rfl) rfl (by omega) (by decide) ?_;intro g' cap' w4 hown4 hgrow4 hg4)|fail)
   have HN:Hid (PB w w4 (.slice (some ⟨g', 0,none⟩) (8*k+(7+1)) cap') (L.take (8*k+(7+1)))):=qA (by
     have hat:L[(8*k+7)]? =some (V.toNat/1%256):=by rw[HLL.out,HK.out];show some (aQ V/1%256)=_;rw[aP H0.out.2.2.1]
     rw[show V%256=((V.toNat/1%256:Nat):Int) by have:=H0.out;omega]at hown4;have h1:=PB.push (n:=(8*k+7)) HP.out (by rw[List.length_take,HLL.out,aA];omega) hown4 hgrow4 hg4;have h2:L.take (8*k+(7+1))=L.take (8*k+7)++[V.toNat/1%256]:=(List.take_add_one (l:=L) (i:=(8*k+7))).trans (by rw[hat];rfl);rw[h2];exact h1)
   clear HQ hown4 hgrow4 hg4 HP;go_roundw
   case rel=>exact⟨7+1,by omega,⟨_,_,rfl,HN⟩,by go_num⟩
   case measure=>simp[intOf]}}
   {
   obtain rfl:j=8:=by omega
   have HN:=qA (show PB w wr (.slice sa (8*(k+1)) sc) (L.take (8*(k+1))) from HP.out);clear HP;go_wp2_with fail
   go_roundw
   case rel=>exact⟨k+1,by omega,⟨_,_,rfl,HN⟩,by go_num⟩
   case measure=>simp[intOf];omega}}
  {
  have hidx:∀w,(Instr.index 115 (.agg #[.int .i64 m,.int .i64 E,.int .i64 V,.int .i64 D]) (.int .i64 (k:Int))).run Tryz.prog w=.ok (.int .i64 D) w:=by rw[hk'];exact aRL m E V D
  have HK:=qA hk';clear hk';go_wp2_with fail
  clear hidx;go_loopw [5,8] (fun c1 c2 wr=>∃j:Nat,j<=8/\(∃sa sc,c1=.slice sa (8*k+j) sc/\Hid (PB w wr (.slice sa (8*k+j) sc) (L.take (8*k+j))))/\c2=.int .i64 (56-8*(j:Int))) (fun _ c _=>((intOf c)+8).toNat)
  case atStart=>exact⟨0,by omega,⟨_,_,rfl,HP⟩,rfl⟩
  case round=>
   clear HP;obtain⟨j,hj,⟨sa,sc,rfl,HP⟩,rfl⟩:=hrel;rename World=>wr
   by_cases hlt:j<8
   {
   have hj8:j=0∨j=1∨j=2∨j=3∨j=4∨j=5∨j=6∨j=7:=by omega
   rcases hj8 with rfl|rfl|rfl|rfl|rfl|rfl|rfl|rfl
   {
   have HQ:=qA (PB.own (n:=(8*k+0)) HP.out (by rw[List.length_take,HLL.out,aA];omega));go_wp2_with (first|(at_builtin;refine aB rfl (.tmp 23) (.tmp 28) 22 rfl 5 (.int .u8 0) 1 Tryz.underlying22 Tryz.info5 rfl (.slice sa (8*k+0) sc) (8*k+0) (bM (L.take (8*k+0))) rfl (HQ.out _) wr.heap.size (.int .u8 (D/72057594037927936%256)) rfl (aC _ _ _ _ rfl) rfl (by omega) (by decide) ?_;intro g' cap' w4 hown4 hgrow4 hg4)|fail)
   have HN:Hid (PB w w4 (.slice (some ⟨g', 0,none⟩) (8*k+(0+1)) cap') (L.take (8*k+(0+1)))):=qA (by
     have hat:L[(8*k+0)]? =some (D.toNat/72057594037927936%256):=by rw[HLL.out,HK.out];show some (aQ D/72057594037927936%256)=_;rw[aP H0.out.2.2.2]
     rw[show D/72057594037927936%256=((D.toNat/72057594037927936%256:Nat):Int) by have:=H0.out;omega]at hown4;have h1:=PB.push (n:=(8*k+0)) HP.out (by rw[List.length_take,HLL.out,aA];omega) hown4 hgrow4 hg4;have h2:L.take (8*k+(0+1))=L.take (8*k+0)++[D.toNat/72057594037927936%256]:=(List.take_add_one (l:=L) (i:=(8*k+0))).trans (by rw[hat];rfl);rw[h2];exact h1)
   clear HQ hown4 hgrow4 hg4 HP;go_roundw
   case rel=>exact⟨0+1,by omega,⟨_,_,rfl,HN⟩,by go_num⟩
   case measure=>simp[intOf]}
   {
   have HQ:=qA (PB.own (n:=(8*k+1)) HP.out (by rw[List.length_take,HLL.out,aA];omega));go_wp2_with (first|(at_builtin;refine aB rfl (.tmp 23) (.tmp 28) 22 rfl 5 (.int .u8 0) 1 Tryz.underlying22 Tryz.info5 rfl (.slice sa (8*k+1) sc) (8*k+1) (bM (L.take (8*k+1))) rfl (HQ.out _) wr.heap.size (.int .u8 (D/281474976710656%256)) rfl (aC _ _ _ _ rfl) rfl (by omega) (by decide) ?_;intro g' cap' w4 hown4 hgrow4 hg4)|fail)
   have HN:Hid (PB w w4 (.slice (some ⟨g', 0,none⟩) (8*k+(1+1)) cap') (L.take (8*k+(1+1)))):=qA (by
     have hat:L[(8*k+1)]? =some (D.toNat/281474976710656%256):=by rw[HLL.out,HK.out];show some (aQ D/281474976710656%256)=_;rw[aP H0.out.2.2.2]
     rw[show D/281474976710656%256=((D.toNat/281474976710656%256:Nat):Int) by have:=H0.out;omega]at hown4;have h1:=PB.push (n:=(8*k+1)) HP.out (by rw[List.length_take,HLL.out,aA];omega) hown4 hgrow4 hg4;have h2:L.take (8*k+(1+1))=L.take (8*k+1)++[D.toNat/281474976710656%256]:=(List.take_add_one (l:=L) (i:=(8*k+1))).trans (by rw[hat];rfl);rw[h2];exact h1)
   clear HQ hown4 hgrow4 hg4 HP;go_roundw
   case rel=>exact⟨1+1,by omega,⟨_,_,rfl,HN⟩,by go_num⟩
   case measure=>simp[intOf]}
   {
   have HQ:=qA (PB.own (n:=(8*k+2)) HP.out (by rw[List.length_take,HLL.out,aA];omega));go_wp2_with (first|(at_builtin;refine aB rfl (.tmp 23) (.tmp 28) 22 rfl 5 (.int .u8 0) 1 Tryz.underlying22 Tryz.info5 rfl (.slice sa (8*k+2) sc) (8*k+2) (bM (L.take (8*k+2))) rfl (HQ.out _) wr.heap.size (.int .u8 (D/1099511627776%256)) rfl (aC _ _ _ _ rfl) rfl (by omega) (by decide) ?_;intro g' cap' w4 hown4 hgrow4 hg4)|fail)
   have HN:Hid (PB w w4 (.slice (some ⟨g', 0,none⟩) (8*k+(2+1)) cap') (L.take (8*k+(2+1)))):=qA (by
     have hat:L[(8*k+2)]? =some (D.toNat/1099511627776%256):=by rw[HLL.out,HK.out];show some (aQ D/1099511627776%256)=_;rw[aP H0.out.2.2.2]
     rw[show D/1099511627776%256=((D.toNat/1099511627776%256:Nat):Int) by have:=H0.out;omega]at hown4;have h1:=PB.push (n:=(8*k+2)) HP.out (by rw[List.length_take,HLL.out,aA];omega) hown4 hgrow4 hg4;have h2:L.take (8*k+(2+1))=L.take (8*k+2)++[D.toNat/1099511627776%256]:=(List.take_add_one (l:=L) (i:=(8*k+2))).trans (by rw[hat];rfl);rw[h2];exact h1)
   clear HQ hown4 hgrow4 hg4 HP;go_roundw
   case rel=>exact⟨2+1,by omega,⟨_,_,rfl,HN⟩,by go_num⟩
   case measure=>simp[intOf]}
   {
   have HQ:=qA (PB.own (n:=(8*k+3)) HP.out (by rw[List.length_take,HLL.out,aA];omega));go_wp2_with (first|(at_builtin;refine aB rfl (.tmp 23) (.tmp 28) 22 rfl 5 (.int .u8 0) 1 Tryz.underlying22 Tryz.info5 rfl (.slice sa (8*k+3) sc) (8*k+3) (bM (L.take (8*k+3))) rfl (HQ.out _) wr.heap.size (.int .u8 (D/4294967296%256)) rfl (aC _ _ _ _ rfl) rfl (by omega) (by decide) ?_;intro g' cap' w4 hown4 hgrow4 hg4)|fail)
   have HN:Hid (PB w w4 (.slice (some ⟨g', 0,none⟩) (8*k+(3+1)) cap') (L.take (8*k+(3+1)))):=qA (by
     have hat:L[(8*k+3)]? =some (D.toNat/4294967296%256):=by rw[HLL.out,HK.out];show some (aQ D/4294967296%256)=_;rw[aP H0.out.2.2.2]
     rw[show D/4294967296%256=((D.toNat/4294967296%256:Nat):Int) by have:=H0.out;omega]at hown4;have h1:=PB.push (n:=(8*k+3)) HP.out (by rw[List.length_take,HLL.out,aA];omega) hown4 hgrow4 hg4;have h2:L.take (8*k+(3+1))=L.take (8*k+3)++[D.toNat/4294967296%256]:=(List.take_add_one (l:=L) (i:=(8*k+3))).trans (by rw[hat];rfl);rw[h2];exact h1)
   clear HQ hown4 hgrow4 hg4 HP;go_roundw
   case rel=>exact⟨3+1,by omega,⟨_,_,rfl,HN⟩,by go_num⟩
   case measure=>simp[intOf]}
   {
   have HQ:=qA (PB.own (n:=(8*k+4)) HP.out (by rw[List.length_take,HLL.out,aA];omega));go_wp2_with (first|(at_builtin;refine aB rfl (.tmp 23) (.tmp 28) 22 rfl 5 (.int .u8 0) 1 Tryz.underlying22 Tryz.info5 rfl (.slice sa (8*k+4) sc) (8*k+4) (bM (L.take (8*k+4))) rfl (HQ.out _) wr.heap.size (.int .u8 (D/16777216%256)) rfl (aC _ _ _ _ rfl) rfl (by omega) (by decide) ?_;intro g' cap' w4 hown4 hgrow4 hg4)|fail)
   have HN:Hid (PB w w4 (.slice (some ⟨g', 0,none⟩) (8*k+(4+1)) cap') (L.take (8*k+(4+1)))):=qA (by
     have hat:L[(8*k+4)]? =some (D.toNat/16777216%256):=by rw[HLL.out,HK.out];show some (aQ D/16777216%256)=_;rw[aP H0.out.2.2.2]
     rw[show D/16777216%256=((D.toNat/16777216%256:Nat):Int) by have:=H0.out;omega]at hown4;have h1:=PB.push (n:=(8*k+4)) HP.out (by rw[List.length_take,HLL.out,aA];omega) hown4 hgrow4 hg4;have h2:L.take (8*k+(4+1))=L.take (8*k+4)++[D.toNat/16777216%256]:=(List.take_add_one (l:=L) (i:=(8*k+4))).trans (by rw[hat];rfl);rw[h2];exact h1)
   clear HQ hown4 hgrow4 hg4 HP;go_roundw
   case rel=>exact⟨4+1,by omega,⟨_,_,rfl,HN⟩,by go_num⟩
   case measure=>simp[intOf]}
   {
   have HQ:=qA (PB.own (n:=(8*k+5)) HP.out (by rw[List.length_take,HLL.out,aA];omega));go_wp2_with (first|(at_builtin;refine aB rfl (.tmp 23) (.tmp 28) 22 rfl 5 (.int .u8 0) 1 Tryz.underlying22 Tryz.info5 rfl (.slice sa (8*k+5) sc) (8*k+5) (bM (L.take (8*k+5))) rfl (HQ.out _) wr.heap.size (.int .u8 (D/65536%256)) rfl (aC _ _ _ _ rfl) rfl (by omega) (by decide) ?_;intro g' cap' w4 hown4 hgrow4 hg4)|fail)
   have HN:Hid (PB w w4 (.slice (some ⟨g', 0,none⟩) (8*k+(5+1)) cap') (L.take (8*k+(5+1)))):=qA (by
     have hat:L[(8*k+5)]? =some (D.toNat/65536%256):=by rw[HLL.out,HK.out];show some (aQ D/65536%256)=_;rw[aP H0.out.2.2.2]
     rw[show D/65536%256=((D.toNat/65536%256:Nat):Int) by have:=H0.out;omega]at hown4;have h1:=PB.push (n:=(8*k+5)) HP.out (by rw[List.length_take,HLL.out,aA];omega) hown4 hgrow4 hg4;have h2:L.take (8*k+(5+1))=L.take (8*k+5)++[D.toNat/65536%256]:=(List.take_add_one (l:=L) (i:=(8*k+5))).trans (by rw[hat];rfl);rw[h2];exact h1)
   clear HQ hown4 hgrow4 hg4 HP;go_roundw
   case rel=>exact⟨5+1,by omega,⟨_,_,rfl,HN⟩,by go_num⟩
   case measure=>simp[intOf]}
   {
   have HQ:=qA (PB.own (n:=(8*k+6)) HP.out (by rw[List.length_take,HLL.out,aA];omega));go_wp2_with (first|(at_builtin;refine aB rfl (.tmp 23) (.tmp 28) 22 rfl 5 (.int .u8 0) 1 Tryz.underlying22 Tryz.info5 rfl (.slice sa (8*k+6) sc) (8*k+6) (bM (L.take (8*k+6))) rfl (HQ.out _) wr.heap.size (.int .u8 (D/256%256)) rfl (aC _ _ _ _ rfl) rfl (by omega) (by decide) ?_;intro g' cap' w4 hown4 hgrow4 hg4)|fail)
   have HN:Hid (PB w w4 (.slice (some ⟨g', 0,none⟩) (8*k+(6+1)) cap') (L.take (8*k+(6+1)))):=qA (by
     have hat:L[(8*k+6)]? =some (D.toNat/256%256):=by rw[HLL.out,HK.out];show some (aQ D/256%256)=_;rw[aP H0.out.2.2.2]
     rw[show D/256%256=((D.toNat/256%256:Nat):Int) by have:=H0.out;omega]at hown4;have h1:=PB.push (n:=(8*k+6)) HP.out (by rw[List.length_take,HLL.out,aA];omega) hown4 hgrow4 hg4;have h2:L.take (8*k+(6+1))=L.take (8*k+6)++[D.toNat/256%256]:=(List.take_add_one (l:=L) (i:=(8*k+6))).trans (by rw[hat];rfl);rw[h2];exact h1)
   clear HQ hown4 hgrow4 hg4 HP;go_roundw
   case rel=>exact⟨6+1,by omega,⟨_,_,rfl,HN⟩,by go_num⟩
   case measure=>simp[intOf]}
   {
   have HQ:=qA (PB.own (n:=(8*k+7)) HP.out (by rw[List.length_take,HLL.out,aA];omega));go_wp2_with (first|(at_builtin;refine aB rfl (.tmp 23) (.tmp 28) 22 rfl 5 (.int .u8 0) 1 Tryz.underlying22 Tryz.info5 rfl (.slice sa (8*k+7) sc) (8*k+7) (bM (L.take (8*k+7))) rfl (HQ.out _) wr.heap.size (.int .u8 (D%256)) rfl (aC _ _ _ _ rfl) rfl (by omega) (by decide) ?_;intro g' cap' w4 hown4 hgrow4 hg4)|fail)
   have HN:Hid (PB w w4 (.slice (some ⟨g', 0,none⟩) (8*k+(7+1)) cap') (L.take (8*k+(7+1)))):=qA (by
     have hat:L[(8*k+7)]? =some (D.toNat/1%256):=by rw[HLL.out,HK.out];show some (aQ D/1%256)=_;rw[aP H0.out.2.2.2]
     rw[show D%256=((D.toNat/1%256:Nat):Int) by have:=H0.out;omega]at hown4;have h1:=PB.push (n:=(8*k+7)) HP.out (by rw[List.length_take,HLL.out,aA];omega) hown4 hgrow4 hg4;have h2:L.take (8*k+(7+1))=L.take (8*k+7)++[D.toNat/1%256]:=(List.take_add_one (l:=L) (i:=(8*k+7))).trans (by rw[hat];rfl);rw[h2];exact h1)
   clear HQ hown4 hgrow4 hg4 HP;go_roundw
   case rel=>exact⟨7+1,by omega,⟨_,_,rfl,HN⟩,by go_num⟩
   case measure=>simp[intOf]}}
   {
   obtain rfl:j=8:=by omega
   have HN:=qA (show PB w wr (.slice sa (8*(k+1)) sc) (L.take (8*(k+1))) from HP.out);clear HP;go_wp2_with fail
   go_roundw
   case rel=>exact⟨k+1,by omega,⟨_,_,rfl,HN⟩,by go_num⟩
   case measure=>simp[intOf];omega}}}
  {
  obtain rfl:k=4:=by omega
  have hPB:PB w wr (.slice sa 32 sc) (L.take 32):=HP.out;rw[show L.take 32=fI m E V D by rw[HLL.out];exact List.take_of_length_le (by rw[aA];exact qJ _)]at hPB;have HFin:=qA hPB;clear HP hPB;go_wp2
  go_ret2;exact⟨_,rfl,HFin.out.1,HFin.out.2.1,HFin.out.2.2⟩}
def PA(w:World)(v:Value)(wr:World)(b:Value)(l:List Nat):Prop:=eC wr b l/\(∀q,b.ownBlock=some q->v.ownBlock=some q∨w.heap.size<=q)/\Fr v.ownBlock.toList w wr
theorem PA.own{w wr:World}{v:Value}{a:Option Addr}{n c:Nat}{l:List Nat}(h:PA w v wr (.slice a n c) l)(hn:l.length=n):∀o,World.ownsRow (wr.alloc o) 0 5 1 (.slice a n c) n (bM l):=fun o=>by
 have:=h.1.fr0 ((Fr.refl [] wr).alloc o);unfold eC at this;rw[hn]at this;exact this
theorem PA.push{w wr w4:World}{v:Value}{a:Option Addr}{n c g c' :Nat}{l:List Nat}{b:Nat}{o:Obj}(h:PA w v wr (.slice a n c) l)(hn:l.length=n)(hown:w4.ownsRow 0 5 1 (.slice (some ⟨g,0,none⟩) (n+1) c') (n+1) (bM l++[.int .u8 (b:Int)]))(hgrow:(wr.alloc o).grownBy w4 (Value.slice a n c).ownBlock)(hg:(Value.slice a n c).ownBlock=some g∨(wr.alloc o).heap.size<=g):
    PA w v w4 (.slice (some ⟨g,0,none⟩) (n+1) c') (l++[b]):=by
 have hF:Fr (Value.slice a n c).ownBlock.toList wr w4:=((Fr.refl _ _).alloc _).grown hgrow (fun q e=>.inl (by simp[e]));have hs:=h.2.2.size;simp only[World.size_alloc]at hg;refine⟨?_,fun q e=>?_,h.2.2.trans hF (fun q hq=>?_)⟩
 {
 unfold eC;rw[zE,hn,sI];exact hown}
 {
 simp only[Value.ownBlock,qI]at e;subst e;rcases hg with e|e
 · exact h.2.1 _ e
 · exact .inr (by omega)}
 · exact(h.2.1 q (by simpa using hq)).imp (fun e=>by simp[e]) id
theorem aRM{w:World}{v:Value}{l ns:List Nat}{nb sz cn:Nat}(hv:eC w v l)(hb:Blk w nb 36 (ns.map fun x:Nat=>.int .u64 (x:Int)))(hne:v.ownBlock≠some nb)(hsz:sz<=8)(hl:l.length+8*ns.length<=1073741824):
    Calls Tryz.prog 48 #[v,.int .i64 sz,.slice (some ⟨nb,0,none⟩) ns.length cn] w fun e w' =>∃v', e=.returned v' /\ PA w v w' v' (l++ns.flatMap (beN sz)):=by
 obtain⟨n,hn⟩:∃n,n=ns.length:=⟨_,rfl⟩;rw[<-hn]at hl ⊢;have HNn:=qA hn;obtain⟨a0,c0,rfl⟩:=hv.slice;have HP0:=qA (show PA w (.slice a0 l.length c0) w (.slice a0 l.length c0) l from⟨hv,fun q h=>.inl h,Fr.refl _ _⟩);obtain⟨v0,hv0⟩:∃v0,v0=Value.slice a0 l.length c0:=⟨_,rfl⟩;have HV0:=qA hv0;have HN:=qA (show Blk w nb 36 (ns.map fun x:Nat=>.int .u64 (x:Int))/\v0.ownBlock≠some nb from⟨hb,by rw[hv0];exact hne⟩);have HS:=qA hsz;have HP0:Hid (PA w v0 w (.slice a0 (l.length+n*0) c0) (l++(ns.take 0).flatMap (beN sz))):=qA (by rw[hv0];simpa using HP0.out);obtain⟨ln,hln⟩:∃ln,ln=l.length:=⟨_,rfl⟩;rw[<-hln]at hl HP0 HV0 ⊢;have HLn:=qA hln;clear hn hv hb hne hv0 hln hsz;go_enter Tryz.func48,Tryz.ntmps48
 go_wp2_with fail
 go_loopw [0,12] (fun c1 c2 wr=>∃k:Nat,k<=n/\(∃sa sc,c1=.slice sa (ln+n*0+sz*k) sc/\Hid (PA w v0 wr (.slice sa (ln+n*0+sz*k) sc) (l++(ns.take k).flatMap (beN sz))))/\c2=.int .i64 k) (fun _ c _=>n-(intOf c).toNat)
 case atStart=>exact⟨0,by omega,⟨_,_,rfl,HP0⟩,rfl⟩
 case round=>
  clear HP0;obtain⟨k,hk,⟨sa,sc,rfl,HP⟩,rfl⟩:=hrel;rename World=>wr
  by_cases hlt:k<n
  {
  have hlt' :(k:Int)<n:=by omega
  have hk0:(0:Int)<=k:=by omega
  have hw1:IntKind.i64.wrap ((k:Int)+1)=((k+1:Nat):Int):=by rw[show(k:Int)+1=((k+1:Nat):Int) by omega];exact zF _ (by omega)
  have hws:IntKind.i64.wrap ((sz:Int)-1)=(sz:Int)-1:=by have:=HS.out;simp[IntKind.wrap,IntKind.bits,IntKind.signed];omega
  have hkn:k<ns.length:=by rw[<-HNn.out];exact hlt
  have c0:=(HP.out.2.2.blk HN.out.1 (fun hm=>HN.out.2 (by simpa using hm))).cell k;rw[List.getElem?_map,qK hkn]at c0;simp only[Option.map_some]at c0;have htk:ns.take (k+1)=ns.take k++[ns[k]'hkn]:=by rw[List.take_add_one,qK hkn];rfl
  generalize ns[k]'hkn=x at *;have HTk:=qA (show l++(ns.take (k+1)).flatMap (beN sz)=l++(ns.take k).flatMap (beN sz)++beN sz x by rw[htk,List.flatMap_append];simp);have hl0:(l++(ns.take k).flatMap (beN sz)).length=ln+n*0+sz*k:=by {
  have:∀m:List Nat,(m.flatMap (beN sz)).length=sz*m.length:=fun m=>by
    induction m with
    | nil=>rfl
    | cons y m ih=>rw[List.flatMap_cons,zE,aM,ih,qY,Nat.mul_succ,Nat.add_comm]
  rw[zE,this,List.length_take,<-HLn.out,<-HNn.out,Nat.min_eq_left (by omega)];omega};have hle:sz*k<=8*n:=Nat.mul_le_mul HS.out hk;obtain⟨n0,hn0⟩:∃n0,n0=ln+n*0+sz*k:=⟨_,rfl⟩;obtain⟨B,hB⟩:∃B,B=l++(ns.take k).flatMap (beN sz):=⟨_,rfl⟩;have HEq:=qA (zH hn0 (zH hB hl0));have hn0le:n0<=1073741824:=by omega
  have HP1:Hid (PA w v0 wr (.slice sa (n0+(sz-sz)) sc) (B++(beN sz x).take (sz-sz))):=qA (by rw[hn0,hB];simpa using HP.out);have HBl:=qA (show B.length=n0 by rw[hB,hn0];exact hl0);rw[<-hn0];clear htk HP hl0 hn0 hB hle;go_wp2_with fail
  clear c0;go_loopw [0,9] (fun c1 c2 wr=>∃i:Nat,i<=sz/\(∃sa sc,c1=.slice sa (n0+(sz-i)) sc/\Hid (PA w v0 wr (.slice sa (n0+(sz-i)) sc) (B++(beN sz x).take (sz-i))))/\c2=.int .i64 ((i:Int)-1)) (fun _ c _=>((intOf c)+1).toNat)
  case atStart=>exact⟨sz,by omega,⟨sa,sc,by rw[Nat.sub_self,Nat.add_zero],HP1⟩,rfl⟩
  case round=>
   clear HP1;obtain⟨i,hi,⟨sa,sc,rfl,HP⟩,rfl⟩:=hrel;rename World=>wr
   by_cases hi0:0<i
   {
   have hi8:i=1∨i=2∨i=3∨i=4∨i=5∨i=6∨i=7∨i=8:=by have:=HS.out;omega
   rcases hi8 with rfl|rfl|rfl|rfl|rfl|rfl|rfl|rfl
   {
   have HQ:=qA (PA.own (n:=n0+(sz-1)) HP.out (by rw[zE,List.length_take,aM,HBl.out];omega));go_wp2_with (first|(at_builtin;refine aB rfl (.tmp 22) (.tmp 28) 22 rfl 5 (.int .u8 0) 1 Tryz.underlying22 Tryz.info5 rfl (.slice sa (n0+(sz-1)) sc) (n0+(sz-1)) (bM (B++(beN sz x).take (sz-1))) rfl (HQ.out _) wr.heap.size (.int .u8 ((x:Int)%256)) rfl (aC _ _ _ _ rfl) rfl (by have:=HS.out;omega) (by decide) ?_;intro g' cap' w4 hown4 hgrow4 hg4)|fail)
   have HN4:Hid (PA w v0 w4 (.slice (some ⟨g', 0,none⟩) (n0+(sz-0)) cap') (B++(beN sz x).take (sz-0))):=qA (by
     rw[show(x:Int)%256=((x/1%256:Nat):Int) by omega]at hown4;have h1:=PA.push HP.out (by rw[zE,List.length_take,aM,HBl.out];omega) hown4 hgrow4 hg4;have hlt:sz-1<(beN sz x).length:=by rw[aM];omega
     have hat:=jJ sz x hlt;rw[show sz-1-(sz-1)=0 by omega]at hat;have h2:(beN sz x).take (sz-0)=(beN sz x).take (sz-1)++[x/1%256]:=by
       rw[show sz-0=sz-1+1 by omega,List.take_add_one,qK hlt,hat];rfl
     rw[h2,<-List.append_assoc,show n0+(sz-0)=n0+(sz-1)+1 by omega];exact h1)
   rw[show n0+(sz-1)+1=n0+(sz-0) by omega];clear HQ hown4 hgrow4 hg4 HP;go_roundw
   case rel=>exact⟨0,by omega,⟨_,_,rfl,HN4⟩,by go_num⟩
   case measure=>simp[intOf]}
   {
   have HQ:=qA (PA.own (n:=n0+(sz-2)) HP.out (by rw[zE,List.length_take,aM,HBl.out];omega));go_wp2_with (first|(at_builtin;refine aB rfl (.tmp 22) (.tmp 28) 22 rfl 5 (.int .u8 0) 1 Tryz.underlying22 Tryz.info5 rfl (.slice sa (n0+(sz-2)) sc) (n0+(sz-2)) (bM (B++(beN sz x).take (sz-2))) rfl (HQ.out _) wr.heap.size (.int .u8 ((x:Int)/256%256)) rfl (aC _ _ _ _ rfl) rfl (by have:=HS.out;omega) (by decide) ?_;intro g' cap' w4 hown4 hgrow4 hg4)|fail)
   have HN4:Hid (PA w v0 w4 (.slice (some ⟨g', 0,none⟩) (n0+(sz-1)) cap') (B++(beN sz x).take (sz-1))):=qA (by
     rw[show(x:Int)/256%256=((x/256%256:Nat):Int) by omega]at hown4;have h1:=PA.push HP.out (by rw[zE,List.length_take,aM,HBl.out];omega) hown4 hgrow4 hg4;have hlt:sz-2<(beN sz x).length:=by rw[aM];omega
     have hat:=jJ sz x hlt;rw[show sz-1-(sz-2)=1 by omega]at hat;have h2:(beN sz x).take (sz-1)=(beN sz x).take (sz-2)++[x/256%256]:=by
       rw[show sz-1=sz-2+1 by omega,List.take_add_one,qK hlt,hat];rfl
     rw[h2,<-List.append_assoc,show n0+(sz-1)=n0+(sz-2)+1 by omega];exact h1)
   rw[show n0+(sz-2)+1=n0+(sz-1) by omega];clear HQ hown4 hgrow4 hg4 HP;go_roundw
   case rel=>exact⟨1,by omega,⟨_,_,rfl,HN4⟩,by go_num⟩
   case measure=>simp[intOf]}
   {
   have HQ:=qA (PA.own (n:=n0+(sz-3)) HP.out (by rw[zE,List.length_take,aM,HBl.out];omega));go_wp2_with (first|(at_builtin;refine aB rfl (.tmp 22) (.tmp 28) 22 rfl 5 (.int .u8 0) 1 Tryz.underlying22 Tryz.info5 rfl (.slice sa (n0+(sz-3)) sc) (n0+(sz-3)) (bM (B++(beN sz x).take (sz-3))) rfl (HQ.out _) wr.heap.size (.int .u8 ((x:Int)/65536%256)) rfl (aC _ _ _ _ rfl) rfl (by have:=HS.out;omega) (by decide) ?_;intro g' cap' w4 hown4 hgrow4 hg4)|fail)
   have HN4:Hid (PA w v0 w4 (.slice (some ⟨g', 0,none⟩) (n0+(sz-2)) cap') (B++(beN sz x).take (sz-2))):=qA (by
     rw[show(x:Int)/65536%256=((x/65536%256:Nat):Int) by omega]at hown4;have h1:=PA.push HP.out (by rw[zE,List.length_take,aM,HBl.out];omega) hown4 hgrow4 hg4;have hlt:sz-3<(beN sz x).length:=by rw[aM];omega
     have hat:=jJ sz x hlt;rw[show sz-1-(sz-3)=2 by omega]at hat;have h2:(beN sz x).take (sz-2)=(beN sz x).take (sz-3)++[x/65536%256]:=by
       rw[show sz-2=sz-3+1 by omega,List.take_add_one,qK hlt,hat];rfl
     rw[h2,<-List.append_assoc,show n0+(sz-2)=n0+(sz-3)+1 by omega];exact h1)
   rw[show n0+(sz-3)+1=n0+(sz-2) by omega];clear HQ hown4 hgrow4 hg4 HP;go_roundw
   case rel=>exact⟨2,by omega,⟨_,_,rfl,HN4⟩,by go_num⟩
   case measure=>simp[intOf]}
   {
   have HQ:=qA (PA.own (n:=n0+(sz-4)) HP.out (by rw[zE,List.length_take,aM,HBl.out];omega));go_wp2_with (first|(at_builtin;refine aB rfl (.tmp 22) (.tmp 28) 22 rfl 5 (.int .u8 0) 1 Tryz.underlying22 Tryz.info5 rfl (.slice sa (n0+(sz-4)) sc) (n0+(sz-4)) (bM (B++(beN sz x).take (sz-4))) rfl (HQ.out _) wr.heap.size (.int .u8 ((x:Int)/16777216%256)) rfl (aC _ _ _ _ rfl) rfl (by have:=HS.out;omega) (by decide) ?_;intro g' cap' w4 hown4 hgrow4 hg4)|fail)
   have HN4:Hid (PA w v0 w4 (.slice (some ⟨g', 0,none⟩) (n0+(sz-3)) cap') (B++(beN sz x).take (sz-3))):=qA (by
     rw[show(x:Int)/16777216%256=((x/16777216%256:Nat):Int) by omega]at hown4;have h1:=PA.push HP.out (by rw[zE,List.length_take,aM,HBl.out];omega) hown4 hgrow4 hg4;have hlt:sz-4<(beN sz x).length:=by rw[aM];omega
     have hat:=jJ sz x hlt;rw[show sz-1-(sz-4)=3 by omega]at hat;have h2:(beN sz x).take (sz-3)=(beN sz x).take (sz-4)++[x/16777216%256]:=by
       rw[show sz-3=sz-4+1 by omega,List.take_add_one,qK hlt,hat];rfl
     rw[h2,<-List.append_assoc,show n0+(sz-3)=n0+(sz-4)+1 by omega];exact h1)
   rw[show n0+(sz-4)+1=n0+(sz-3) by omega];clear HQ hown4 hgrow4 hg4 HP;go_roundw
   case rel=>exact⟨3,by omega,⟨_,_,rfl,HN4⟩,by go_num⟩
   case measure=>simp[intOf]}
   {
   have HQ:=qA (PA.own (n:=n0+(sz-5)) HP.out (by rw[zE,List.length_take,aM,HBl.out];omega));go_wp2_with (first|(at_builtin;refine aB rfl (.tmp 22) (.tmp 28) 22 rfl 5 (.int .u8 0) 1 Tryz.underlying22 Tryz.info5 rfl (.slice sa (n0+(sz-5)) sc) (n0+(sz-5)) (bM (B++(beN sz x).take (sz-5))) rfl (HQ.out _) wr.heap.size (.int .u8 ((x:Int)/4294967296%256)) rfl (aC _ _ _ _ rfl) rfl (by have:=HS.out;omega) (by decide) ?_;intro g' cap' w4 hown4 hgrow4 hg4)|fail)
   have HN4:Hid (PA w v0 w4 (.slice (some ⟨g', 0,none⟩) (n0+(sz-4)) cap') (B++(beN sz x).take (sz-4))):=qA (by
     rw[show(x:Int)/4294967296%256=((x/4294967296%256:Nat):Int) by omega]at hown4;have h1:=PA.push HP.out (by rw[zE,List.length_take,aM,HBl.out];omega) hown4 hgrow4 hg4;have hlt:sz-5<(beN sz x).length:=by rw[aM];omega
     have hat:=jJ sz x hlt;rw[show sz-1-(sz-5)=4 by omega]at hat;have h2:(beN sz x).take (sz-4)=(beN sz x).take (sz-5)++[x/4294967296%256]:=by
       rw[show sz-4=sz-5+1 by omega,List.take_add_one,qK hlt,hat];rfl
     rw[h2,<-List.append_assoc,show n0+(sz-4)=n0+(sz-5)+1 by omega];exact h1)
   rw[show n0+(sz-5)+1=n0+(sz-4) by omega];clear HQ hown4 hgrow4 hg4 HP;go_roundw
   case rel=>exact⟨4,by omega,⟨_,_,rfl,HN4⟩,by go_num⟩
   case measure=>simp[intOf]}
   {
   have HQ:=qA (PA.own (n:=n0+(sz-6)) HP.out (by rw[zE,List.length_take,aM,HBl.out];omega));go_wp2_with (first|(at_builtin;refine aB rfl (.tmp 22) (.tmp 28) 22 rfl 5 (.int .u8 0) 1 Tryz.underlying22 Tryz.info5 rfl (.slice sa (n0+(sz-6)) sc) (n0+(sz-6)) (bM (B++(beN sz x).take (sz-6))) rfl (HQ.out _) wr.heap.size (.int .u8 ((x:Int)/1099511627776%256)) rfl (aC _ _ _ _ rfl) rfl (by have:=HS.out;omega) (by decide) ?_;intro g' cap' w4 hown4 hgrow4 hg4)|fail)
   have HN4:Hid (PA w v0 w4 (.slice (some ⟨g', 0,none⟩) (n0+(sz-5)) cap') (B++(beN sz x).take (sz-5))):=qA (by
     rw[show(x:Int)/1099511627776%256=((x/1099511627776%256:Nat):Int) by omega]at hown4;have h1:=PA.push HP.out (by rw[zE,List.length_take,aM,HBl.out];omega) hown4 hgrow4 hg4;have hlt:sz-6<(beN sz x).length:=by rw[aM];omega
     have hat:=jJ sz x hlt;rw[show sz-1-(sz-6)=5 by omega]at hat;have h2:(beN sz x).take (sz-5)=(beN sz x).take (sz-6)++[x/1099511627776%256]:=by
       rw[show sz-5=sz-6+1 by omega,List.take_add_one,qK hlt,hat];rfl
     rw[h2,<-List.append_assoc,show n0+(sz-5)=n0+(sz-6)+1 by omega];exact h1)
   rw[show n0+(sz-6)+1=n0+(sz-5) by omega];clear HQ hown4 hgrow4 hg4 HP;go_roundw
   case rel=>exact⟨5,by omega,⟨_,_,rfl,HN4⟩,by go_num⟩
   case measure=>simp[intOf]}
   {
   have HQ:=qA (PA.own (n:=n0+(sz-7)) HP.out (by rw[zE,List.length_take,aM,HBl.out];omega));go_wp2_with (first|(at_builtin;refine aB rfl (.tmp 22) (.tmp 28) 22 rfl 5 (.int .u8 0) 1 Tryz.underlying22 Tryz.info5 rfl (.slice sa (n0+(sz-7)) sc) (n0+(sz-7)) (bM (B++(beN sz x).take (sz-7))) rfl (HQ.out _) wr.heap.size (.int .u8 ((x:Int)/281474976710656%256)) rfl (aC _ _ _ _ rfl) rfl (by have:=HS.out;omega) (by decide) ?_;intro g' cap' w4 hown4 hgrow4 hg4)|fail)
   have HN4:Hid (PA w v0 w4 (.slice (some ⟨g', 0,none⟩) (n0+(sz-6)) cap') (B++(beN sz x).take (sz-6))):=qA (by
     rw[show(x:Int)/281474976710656%256=((x/281474976710656%256:Nat):Int) by omega]at hown4;have h1:=PA.push HP.out (by rw[zE,List.length_take,aM,HBl.out];omega) hown4 hgrow4 hg4;have hlt:sz-7<(beN sz x).length:=by rw[aM];omega
     have hat:=jJ sz x hlt;rw[show sz-1-(sz-7)=6 by omega]at hat;have h2:(beN sz x).take (sz-6)=(beN sz x).take (sz-7)++[x/281474976710656%256]:=by
       rw[show sz-6=sz-7+1 by omega,List.take_add_one,qK hlt,hat];rfl
     rw[h2,<-List.append_assoc,show n0+(sz-6)=n0+(sz-7)+1 by omega];exact h1)
   rw[show n0+(sz-7)+1=n0+(sz-6) by omega];clear HQ hown4 hgrow4 hg4 HP;go_roundw
   case rel=>exact⟨6,by omega,⟨_,_,rfl,HN4⟩,by go_num⟩
   case measure=>simp[intOf]}
   {
   have HQ:=qA (PA.own (n:=n0+(sz-8)) HP.out (by rw[zE,List.length_take,aM,HBl.out];omega));go_wp2_with (first|(at_builtin;refine aB rfl (.tmp 22) (.tmp 28) 22 rfl 5 (.int .u8 0) 1 Tryz.underlying22 Tryz.info5 rfl (.slice sa (n0+(sz-8)) sc) (n0+(sz-8)) (bM (B++(beN sz x).take (sz-8))) rfl (HQ.out _) wr.heap.size (.int .u8 ((x:Int)/72057594037927936%256)) rfl (aC _ _ _ _ rfl) rfl (by have:=HS.out;omega) (by decide) ?_;intro g' cap' w4 hown4 hgrow4 hg4)|fail)
   have HN4:Hid (PA w v0 w4 (.slice (some ⟨g', 0,none⟩) (n0+(sz-7)) cap') (B++(beN sz x).take (sz-7))):=qA (by
     rw[show(x:Int)/72057594037927936%256=((x/72057594037927936%256:Nat):Int) by omega]at hown4;have h1:=PA.push HP.out (by rw[zE,List.length_take,aM,HBl.out];omega) hown4 hgrow4 hg4;have hlt:sz-8<(beN sz x).length:=by rw[aM];omega
     have hat:=jJ sz x hlt;rw[show sz-1-(sz-8)=7 by omega]at hat;have h2:(beN sz x).take (sz-7)=(beN sz x).take (sz-8)++[x/72057594037927936%256]:=by
       rw[show sz-7=sz-8+1 by omega,List.take_add_one,qK hlt,hat];rfl
     rw[h2,<-List.append_assoc,show n0+(sz-7)=n0+(sz-8)+1 by omega];exact h1)
   rw[show n0+(sz-8)+1=n0+(sz-7) by omega];clear HQ hown4 hgrow4 hg4 HP;go_roundw
   case rel=>exact⟨7,by omega,⟨_,_,rfl,HN4⟩,by go_num⟩
   case measure=>simp[intOf]}}
   {
   obtain rfl:i=0:=by omega
   have HN5:Hid (PA w v0 wr (.slice sa (ln+n*0+sz*(k+1)) sc) (l++(ns.take (k+1)).flatMap (beN sz))):=qA (by
     rw[HTk.out,<-HEq.out.2.1,Nat.mul_succ,<-Nat.add_assoc,<-HEq.out.1];have h1:=HP.out;rw[show sz-0=sz from rfl,List.take_of_length_le (by rw[aM];exact qJ _)]at h1;exact h1)
   have hfin:n0+sz=ln+n*0+sz*(k+1):=by rw[HEq.out.1,Nat.mul_succ];omega
   rw[show n0+(sz-0)=ln+n*0+sz*(k+1) from hfin];clear HP;go_wp2_with fail
   go_roundw
   case rel=>exact⟨k+1,by omega,⟨_,_,rfl,HN5⟩,by go_num⟩
   case measure=>simp[intOf];omega}}
  {
  obtain rfl:k=n:=by omega
  have HF:Hid (PA w v0 wr (.slice sa (ln+k*0+sz*k) sc) (l++ns.flatMap (beN sz))):=qA (by
    have h1:=HP.out;rw[HNn.out,List.take_length]at h1;rw[HNn.out];exact h1)
  clear HP;go_wp2
  go_ret;have hF:=HF.out;rw[HV0.out]at hF;exact⟨_,rfl,hF⟩}
theorem iJ{l:List Nat}(hb:Byt l){k:Nat}(hk:k<l.length)(h8:l.length<=8):aF (l.take k)<72057594037927936:=by
 have h1:=fY (hb.take k);rw[List.length_take,Nat.min_eq_left (Nat.le_of_lt hk)]at h1;have h2:256 ^ k<=256 ^ 7:=Nat.pow_le_pow_right (by decide) (by omega);exact Nat.lt_of_lt_of_le h1 h2
theorem yJ{x y:Nat}(hx:x<72057594037927936)(hy:y<256):Go.bits .or .u64 ((x:Int)*256) (y:Int)=((x*256+y:Nat):Int):=by
 have k:=Go.bits_join .u64 64 (by decide) (fun n h0 h1=>by simp[IntKind.wrap,IntKind.bits,IntKind.signed];omega) 8 ((x:Int)*256) (y:Int) (by omega) (by omega) (by omega) (by omega) (by omega) (by omega);rw[k];omega
theorem aPK{w:World}{a:Option Addr}{l:List Nat}{cap:Nat}(hr:RdB w a l)(hb:Byt l)(hl:l.length<=8):
    Calls Tryz.prog 50 #[.slice a l.length cap] w fun e w' =>e=.returned (.int .u64 (aF l:Nat))/\w' =w:=by
 obtain⟨n,hn⟩:∃n,n=l.length:=⟨_,rfl⟩;rw[<-hn]at hl ⊢;have HR:=qA (zH hr (zH hb hn));clear hr hb hn;go_enter Tryz.func50,Tryz.ntmps50
 go_wp2_with fail
 go_loopw [3,8] (fun r i wr=>∃(k:Nat) (x:Nat),k<=n/\r=.int .u64 x/\i=.int .i64 k/\wr=w/\Hid (x=aF (l.take k))) (fun _ i _=>n-(intOf i).toNat)
 case atStart=>exact⟨0,0,qR _,rfl,rfl,rfl,qA rfl⟩
 case round=>
  obtain⟨k,x,hk,rfl,rfl,rfl,HX⟩:=hrel;by_cases hlt:k<n
  {
  have hlt' :(k:Int)<n:=by omega
  have hk0:(0:Int)<=k:=by omega
  have hw1:IntKind.i64.wrap ((k:Int)+1)=((k+1:Nat):Int):=by rw[show(k:Int)+1=((k+1:Nat):Int) by omega];exact zF _ (by omega)
  have hkl:k<l.length:=by rw[<-HR.out.2.2];exact hlt
  obtain⟨b,off,rfl,_,c0⟩:=HR.out.1 k hkl;have hby:=HR.out.2.1 _ (List.getElem_mem hkl);have hx:x<72057594037927936:=by rw[HX.out];exact iJ HR.out.2.1 hkl (by rw[<-HR.out.2.2];exact hl)
  have htk:l.take (k+1)=l.take k++[l[k]'hkl]:=by rw[List.take_add_one,qK hkl];rfl
  generalize l[k]'hkl=y at *;have hwy:IntKind.u64.wrap (y:Int)=y:=by simp[IntKind.wrap,IntKind.bits,IntKind.signed];omega
  have hwx:IntKind.u64.wrap ((x:Int)*256)=(x:Int)*256:=by simp[IntKind.wrap,IntKind.bits,IntKind.signed];omega
  have hor:=yJ hx hby;have HN:=qA (show x*256+y=aF (l.take (k+1)) by rw[htk,nX,<-HX.out]);clear htk HX;go_wp2_with fail
  go_roundw
  case rel=>exact⟨k+1,x*256+y,by omega,rfl,by go_num,trivial,HN⟩
  case measure=>simp[intOf];omega}
  {
  obtain rfl:k=n:=by omega
  go_wp2
  go_ret;refine⟨?_,rfl⟩;have e:=HX.out;rw[HR.out.2.2,List.take_length]at e;rw[e];rfl}
theorem aLF(w:World):Calls Tryz.prog 47 #[] w fun e w' =>e=.returned (.agg #[.int .u8 83,.int .u8 69,.int .u8 69,.int .u8 80,.int .u8 1])/\Fr [] w w' :=by
 have hb:=Blk.new w [.int .u8 83,.int .u8 69,.int .u8 69,.int .u8 80,.int .u8 1] 91;have r0:=hb.cell 0;have r1:=hb.cell 1;have r2:=hb.cell 2;have r3:=hb.cell 3;have r4:=hb.cell 4;simp only[zI,zJ]at r0 r1 r2 r3 r4;have HF:=qA ((Fr.refl [] w).alloc (.cells #[.int .u8 83,.int .u8 69,.int .u8 69,.int .u8 80,.int .u8 1] 91));clear hb;go_enter Tryz.func47,Tryz.ntmps47
 go_wp2
 exact bodyPost_ret (v:=.agg #[.int .u8 83,.int .u8 69,.int .u8 69,.int .u8 80,.int .u8 1]) (by simp[results,Tryz.results47,go_sem,r0,r1,r2,r3,r4]) rfl ⟨rfl,HF.out⟩
theorem aRN{w:World}{rb b off n cap:Nat}{l:List Nat}{t:TypeId}(hv:Blk w rb t [.slice (some ⟨b,off,none⟩) n cap])(hr:RdB w (some ⟨b,off,none⟩) l)(hb:Byt l)(hn:l.length=n)(h8:8<=n)(hc:n<cap):
    Calls Tryz.prog 51 #[.pointer (some ⟨rb,0,none⟩)] w fun e w' =>e=.returned (.int .u64 (aF (l.take 8):Nat))/\w' =w.setCell ⟨rb,0,none⟩ (.slice (some ⟨b,off+8,none⟩) (n-8) (cap-8)):=by
 have c0:=hv.cell 0;have z0:=hv.frozen 0;simp only[zI]at c0;have hg:=aPK (cap:=cap) (hr.take 8) (hb.take 8) (by rw[List.length_take];omega);rw[show(l.take 8).length=8 by rw[List.length_take];omega]at hg;have HG:=qA hg;have h8' :(8:Int)<=n:=by omega
 have hcap8:(8:Int)<=cap:=by omega
 have hcn:(n:Int)<=cap:=by omega
 have hne:¬cap=8:=by omega
 clear hv hr hb hn hg;go_enter Tryz.func51,Tryz.ntmps51
 go_wp2_with fail
 refine HG.out.mono ?_;rintro _ w2 ⟨rfl,rfl⟩;clear HG;go_wp2
 go_ret;exact⟨rfl,rfl⟩
theorem aBJ{w:World}{a:Option Addr}{l:List Nat}{cap:Nat}(hr:RdB w a l)(hb:Byt l)(hl:l.length<=4611686018427387904):
    Calls Tryz.prog 15 #[.slice a l.length cap] w fun e w' =>e=.returned (.int .u32 (crc l:Nat))/\w' =w:=by
 obtain⟨n,hn⟩:∃n,n=l.length:=⟨_,rfl⟩;rw[<-hn]at hl ⊢;have HR:=qA (zH hr (zH hb hn));clear hr hb hn;go_enter Tryz.func15,Tryz.ntmps15
 go_wp2_with fail
 go_loopw [3,9] (fun r i wr=>∃(k:Nat) (x:Nat),k<=n/\r=.int .u32 x/\i=.int .i64 k/\wr=w/\x<4294967296/\Hid (x=dW 4294967295 (l.take k))) (fun _ i _=>n-(intOf i).toNat)
 case atStart=>exact⟨0,4294967295,qR _,rfl,rfl,rfl,by decide,qA rfl⟩
 case round=>
  obtain⟨k,x,hk,rfl,rfl,rfl,hx,HX⟩:=hrel;by_cases hlt:k<n
  {
  have hlt' :(k:Int)<n:=by omega
  have hk0:(0:Int)<=k:=by omega
  have hw1:IntKind.i64.wrap ((k:Int)+1)=((k+1:Nat):Int):=by rw[show(k:Int)+1=((k+1:Nat):Int) by omega];exact zF _ (by omega)
  have hkl:k<l.length:=by rw[<-HR.out.2.2];exact hlt
  obtain⟨b,off,rfl,_,c0⟩:=HR.out.1 k hkl;have hby:=HR.out.2.1 _ (List.getElem_mem hkl);have htk:l.take (k+1)=l.take k++[l[k]'hkl]:=by rw[List.take_add_one,qK hkl];rfl
  generalize l[k]'hkl=y at *;have hwy:IntKind.u32.wrap (y:Int)=y:=wrap_u32 (by omega);have hxy:Go.bits .xor .u32 (x:Int) (y:Int)=((x ^^^ y:Nat):Int):=rX hx (by omega);have hlx:x ^^^ y<4294967296:=yQ hx (by omega);have HN:=qA (show dT 8 (x ^^^ y)=dW 4294967295 (l.take (k+1)) by rw[htk,aFL,<-HX.out];rfl);clear htk HX;generalize x ^^^ y=z at *;go_wp2_with fail
  go_loopw [3,17] (fun r i wr2=>∃(j:Nat) (x:Nat),j<=8/\r=.int .u32 x/\i=.int .i64 j/\wr2=wr/\x<4294967296/\Hid (dT (8-j) x=dW 4294967295 (l.take (k+1)))) (fun _ i _=>8-(intOf i).toNat)
  case atStart=>exact⟨0,z,by omega,rfl,rfl,rfl,hlx,HN⟩
  case round=>
   clear HN hlx hwy hxy;obtain⟨j,x,hj,rfl,rfl,rfl,hx,HX⟩:=hrel;by_cases hj8:j<8
   {
   have hj8' :(j:Int)<8:=by omega
   have hw2:IntKind.i64.wrap ((j:Int)+1)=((j+1:Nat):Int):=by rw[show(j:Int)+1=((j+1:Nat):Int) by omega];exact zF _ (by omega)
   have e1:=aIA hx;have e2:=aIB hx;have hlt2:=wP hx;have HN:=qA (show dT (8-(j+1)) (iL x)=dW 4294967295 (l.take (k+1)) by
     rw[<-HX.out,show 8-j=(8-(j+1))+1 by omega];rfl)
   clear HX;go_wp2_with fail
   go_roundw
   case rel=>exact⟨j+1,iL x,by omega,rfl,by go_num,trivial,hlt2,HN⟩
   case measure=>simp[intOf];omega}
   {
   obtain rfl:j=8:=by omega
   have HN:=qA (show x=dW 4294967295 (l.take (k+1)) from HX.out);clear HX;go_wp2_with fail
   go_roundw
   case rel=>exact⟨k+1,x,by omega,rfl,by go_num,trivial,hx,HN⟩
   case measure=>simp[intOf];omega}}
  {
  obtain rfl:k=n:=by omega
  have hnx:=aLY hx;go_wp2
  go_ret;refine⟨?_,rfl⟩;have e:=HX.out;rw[HR.out.2.2,List.take_length]at e;rw[e];rfl}
def RcW(w:World)(a:Option Addr)(l:List R4):Prop:=
  ∀i (hi:i<l.length),∃b off,a=some ⟨b,off,none⟩/\b<w.heap.size/\w.cell? ⟨b,off+i*4,none⟩=some (.int .u64 l[i].1)/\w.cell? ⟨b,off+i*4+1,none⟩=some (.int .u64 l[i].2.1) /\
    w.cell? ⟨b,off+i*4+2,none⟩=some (.int .i64 l[i].2.2.1)/\w.cell? ⟨b,off+i*4+3,none⟩=some (.int .i64 l[i].2.2.2)
def R4.ok(r:R4):Prop:=r.1<18446744073709551616/\r.2.1<18446744073709551616/\ -9223372036854775808<=r.2.2.2/\r.2.2.2<=9223372036854775807
def RsI(w wr:World)(p:Nat)(last:Int)(l:List R4)(R:Option Ob):Prop:=∃X K,eN wr p X K/\Fr [] w wr/\(∀q∈K,w.heap.size<=q)/\(∀e∈X.s.L,e.t<=last)/\0<=last/\X.s.L.length+l.length<=X.E/\X.s.last+l.length<=9223372036854775807/\X.ob.resL last l=R
def RsE(w w' :World)(R:Option Ob)(e:Ending):Prop:=match R with
  | none=>e=.returned (.tuple #[.pointer none,.int .i64 2])/\Fr [] w w'
  | some o=>∃p X K,e=.returned (.tuple #[eO p,.int .i64 0])/\X.ob=o/\eN w' p X K/\Fr [] w w' /\ ∀q∈K,w.heap.size<=q
theorem aRO(m E V D now:Int)(g:Nat)(a:Option Addr)(cap:Nat)(l:List R4)(w:World)(hg:g<18446744073709551616)(hn1:-9223372036854775808<=now)(hn2:now<=9223372036854775807)(hm2:m<=9223372036854775807)
    (hl:l.length<=9223372036854775807) (hrow:RcW w a l) (hok:∀r∈l,r.ok):
    Calls Tryz.prog 53 #[.agg #[.int .i64 m,.int .i64 E,.int .i64 V,.int .i64 D],.int .i64 now,.int .u64 g,.slice a l.length cap] w fun e w' =>RsE w w' (kG m E V D now g l) e:=by
 have hbx:=Blk.new w [.int .i64 m,.int .i64 E,.int .i64 V,.int .i64 D] 31;have hF1:Fr [] w (w.alloc (.cells #[.int .i64 m,.int .i64 E,.int .i64 V,.int .i64 D] 31)):=(Fr.refl [] w).alloc _;obtain⟨w1,hw1⟩:∃w1,w1=w.alloc (.cells #[.int .i64 m,.int .i64 E,.int .i64 V,.int .i64 D] 31):=⟨_,rfl⟩;rw[show w.alloc (.cells [.int .i64 m,.int .i64 E,.int .i64 V,.int .i64 D].toArray 31)=w.alloc (.cells #[.int .i64 m,.int .i64 E,.int .i64 V,.int .i64 D] 31) from rfl,<-hw1]at hbx;rw[<-hw1]at hF1;have HBx:=qA (zH hbx hF1);have x0:=hbx.cell 0;have x1:=hbx.cell 1;have x2:=hbx.cell 2;have x3:=hbx.cell 3;simp only[zI,zJ]at x0 x1 x2 x3;rw[hw1]at x0 x1 x2 x3;have HL:=qA (zH hrow hok);clear hbx hF1 hrow hok;by_cases hg1:g<=9223372036854775807
 {
 have d1:decide ((g:Int)>9223372036854775807)=false:=qF (by omega);cases hcf:mM m E V D with
 | false=>{
 have hR:kG m E V D now g l=none:=qC (by rw[hcf];simp);rw[hR];have HFr:=aLC m D E V g w1 hcf;rw[hw1]at HFr;have HFr:=qA HFr;have HW1:=qA hw1;clear hR hcf hw1;go_enter Tryz.func53,Tryz.ntmps53
 go_wp2_with fail
 refine HFr.out.mono ?_;rintro _ w2 ⟨rfl,hF⟩;rw[<-HW1.out]at hF;have HF:=qA (HBx.out.2.trans' hF);clear hF x0 x1 x2 x3 HFr;go_wp2
 go_ret2;exact⟨rfl,HF.out⟩}
 | true=>{
 obtain⟨c1,c2,c3,c4,c5,c6,c7⟩:=gZ.1 hcf;obtain⟨E,rfl⟩:=Int.eq_ofNat_of_zero_le (show 0<=E by omega);obtain⟨V,rfl⟩:=Int.eq_ofNat_of_zero_le (show 0<=V by omega);have hfr:=aFC m D E V g w1 c1 hm2 (by omega) (by omega) (by omega) (by omega) c6 c7 hg1;rw[hw1]at hfr;have HFr:=qA hfr;have HW1:=qA hw1;clear hfr hw1;by_cases hlE:l.length<=E/\l.length<=9223372036854775807-g
 {
 have d2:decide ((l.length:Int)>E)=false:=qF (by omega);have d2n:decide (E<l.length)=false:=qF (by omega);have d3n:decide (9223372036854775807-(g:Int)<l.length)=false:=qF (by omega);have hw2:IntKind.u64.wrap (l.length:Int)=l.length:=by simp[IntKind.wrap,IntKind.bits,IntKind.signed];omega
 have hw3:IntKind.u64.wrap (9223372036854775807-(g:Int))=9223372036854775807-(g:Int):=by simp[IntKind.wrap,IntKind.bits,IntKind.signed];omega
 have d3:decide ((l.length:Int)>9223372036854775807-(g:Int))=false:=qF (by omega);by_cases hch:dH m 0 now=0
 {
 have hR:kG m E V D now g l=(Ob.at m E V D now g).resL 0 l:=by {
 unfold kG;rw[qD ⟨hg1,hcf,by omega,hlE.2,hch⟩];rfl};obtain⟨R,hRR⟩:∃R,R=(Ob.at m E V D now g).resL 0 l:=⟨_,rfl⟩;rw[hR,<-hRR];have HRR:=qA hRR;clear hRR;have HPl:=qA (zH hch (zH hlE.1 hlE.2));clear hR hcf hch hlE c1 c2 c3 c4 c5 c6 c7;go_enter Tryz.func53,Tryz.ntmps53
 go_wp2_with fail
 refine HFr.out.mono ?_;rintro _ w2 ⟨p,rfl,K,hK,hF2,hnK⟩;rw[<-HW1.out]at hF2 hnK;have hb2:=hF2.blk HBx.out.1 (by simp);have x1:=hb2.cell 1;simp only[zI,zJ]at x1;have HF2:=qA (zH (HBx.out.2.trans' hF2) (show ∀q∈K,w.heap.size<=q from fun q hq=>zG HBx.out.2.size (hnK q hq)));obtain⟨hokX,pc,ps,px,pf,nq,Ks,lx,Lf,cl,hB,hKe⟩:=hK;have c4:=hB.hd.cell 4;simp only[zI,zJ]at c4;have HAd:=qA (aAX hB.clk now hn1 hn2 HPl.out.1);have HB:=qA (zH hokX (zH hB hKe));clear hF2 hnK hb2 hB hKe hokX x0 x2 x3 HFr HW1;go_wp2_with fail
 refine HAd.out.mono ?_;rintro _ w3 ⟨rfl,hclk,hF3⟩;have hI:RsI w w3 p 0 l R:=by {
 rw[HRR.out];obtain⟨q1,q2⟩:=mA HPl.out.1;obtain⟨hokX,hB,rfl⟩:=HB.out;have hB3:=hB.setClk hclk hF3;refine⟨{ (Wm.new m E V D g) with now:=now },bW p pc Ks lx Lf,⟨?_,pc,ps,px,pf,nq,Ks,lx,Lf,cl,hB3,rfl⟩,HF2.out.1.trans hF3 (fun b hb=>?_),HF2.out.2,fun e he=>(by cases he),Int.le_refl _,by show 0+_<=E;have:=HPl.out.2.1;omega,by show g+_<=_;have:=HPl.out.2.2;omega,rfl⟩
 · exact⟨hokX.ok,hokX.hV,hokX.hE,hokX.lk,fun e he=>(by cases he),List.Pairwise.nil,fun i hi=>absurd hi (Nat.not_lt_zero _),hokX.last,hokX.max,hokX.m1,hokX.m2,q1,q2⟩
 {
 have e:b=pc:=by simpa using hb
 exact .inr (by rw[e];exact HF2.out.2 pc (by simp[bW]))}};have HI:=qA hI;clear hclk hF3 hI HB HAd c4 x1 HF2;clear HRR;go_wp2_with fail
 go_loopw [12,48] (fun c1 c2 wr=>∃(i:Nat) (last:Int),i<=l.length/\c1=.int .i64 last/\c2=.int .i64 i/\Hid (RsI w wr p last (l.drop i) R)) (fun _ c _=>l.length-(intOf c).toNat)
 case atStart=>exact⟨0,0,qR _,rfl,rfl,HI⟩
 case round=>
  obtain⟨i,last,hi,rfl,rfl,HR⟩:=hrel;clear HI;rename World=>wr
  by_cases hil:i<l.length
  {
  have hii:(i:Int)<l.length:=by omega
  have hi0:(0:Int)<=i:=by omega
  obtain⟨X,K,⟨hokX,pc,ps,px,pf,nq,Ks,lx,Lf,cl,hB,rfl⟩,hF,hnK,hle,hl0,hle1,hle2,hres⟩:=HR.out;rw[List.drop_eq_getElem_cons hil]at hres hle1 hle2;have hrok:=HL.out.2 _ (List.getElem_mem hil);obtain⟨b,off,rfl,hbw,z0,z1,z2,z3⟩:=HL.out.1 i hil;generalize l[i]'hil=r at *;obtain⟨u,v,wt,t⟩:=r;obtain⟨k1,k2,k3,k4⟩:=hrok;simp only at k1 k2 k3 k4 z0 z1 z2 z3;have z0:=hF.cell z0 (by simp);have z1:=hF.cell z1 (by simp);have z2:=hF.cell z2 (by simp);have z3:=hF.cell z3 (by simp);have hby:=Blk.new wr [.int .u64 u,.int .u64 v,.int .i64 wt,.int .i64 t] 72;have hFa:Fr [] wr (wr.alloc (.cells #[.int .u64 u,.int .u64 v,.int .i64 wt,.int .i64 t] 72)):=(Fr.refl [] wr).alloc _;have hBa:=hB.fr0 hFa;obtain⟨wa,hwa⟩:∃wa,wa=wr.alloc (.cells #[.int .u64 u,.int .u64 v,.int .i64 wt,.int .i64 t] 72):=⟨_,rfl⟩;rw[show wr.alloc (.cells [.int .u64 u,.int .u64 v,.int .i64 wt,.int .i64 t].toArray 72)=wr.alloc (.cells #[.int .u64 u,.int .u64 v,.int .i64 wt,.int .i64 t] 72) from rfl,<-hwa]at hby;rw[<-hwa]at hFa hBa;have y0:=hby.cell 0;have y1:=hby.cell 1;have y2:=hby.cell 2;have y3:=hby.cell 3;have c4:=hBa.hd.cell 4;have c5:=hBa.hd.cell 5;simp only[zI,zJ]at y0 y1 y2 y3 c4 c5;have hLive:∀w', Fr [] wa w' -> Calls Tryz.prog 89 #[kB pc,.int .i64 t] w' fun e w'' =>e=.returned (.bool (mX X.m X.now t))/\Fr [] wa w'' :=fun w' h=>(aOO (hBa.clk.fr0 h) t k3 k4).mono fun _ _ k=>⟨k.1,h.trans' k.2⟩;have hChk:∀w', Fr [] wa w' -> Calls Tryz.prog 90 #[iM ps,pN u v wt t] w' fun e w'' =>e=.returned (.int .i64 (X.s.chk u v))/\Fr [] wa w'' :=fun w' h=>(oG (hBa.st.fr0 h) u v k1 k2 wt t).mono fun _ _ k=>⟨k.1,h.trans' k.2⟩;have HX:=qA (zH hokX (zH hBa (zH (hF.trans' hFa) (zH hnK (zH hle (zH hl0 (zH hle1 (zH hle2 hres))))))));clear hokX hB hBa hF hnK hle hl0 hle1 hle2 hres hby hbw;have hunf:∀{b:Bool},X.ob.resOk last (u,v,wt,t)=b->(if b=true then(X.ob.putT u v wt t).resL t (l.drop (i+1)) else none)=R:=fun {b} hb=>by
    rw[<-hb];exact HX.out.2.2.2.2.2.2.2.2
  by_cases hlt:t<last
  {
  have d5:decide (t<last)=true:=qG hlt;have hRn:R=none:=by {
  have:=hunf (b:=false) (by unfold Ob.resOk;rw[qF (show ¬last<=t by omega)];rfl);exact this.symm};subst hRn;clear hlt hunf;have HLive:=qA hLive;have HChk:=qA hChk;have Hwa:=qA hwa;clear hLive hChk hwa;go_wp2_with fail
  rw[<-Hwa.out];refine cX (fun w' =>Fr [] wa w') (by kernel_rfl) (by kernel_rfl) ((Fr.refl [] wa).drew) ?_;iterate 1 (refine aH (by kernel_rfl) (fun KK hK=>?_);go_simp;refine hK.out _ ?_;clear hK KK)
  refine aS (by kernel_rfl) (.int .i64 t) (fun w' hw' =>?_) ?_
  {
  have y3:=hw'.cell y3 (by simp);go_simp;first|done|exact hw' | exact⟨rfl,hw'⟩};iterate 3 (refine aH (by kernel_rfl) (fun KK hK=>?_);go_simp;refine hK.out _ ?_;clear hK KK)
  iterate 8 (refine rZ (by kernel_rfl) ?_)
  iterate 2 (refine aH (by kernel_rfl) (fun KK hK=>?_);go_simp;refine hK.out _ ?_;clear hK KK)
  iterate 7 (refine rZ (by kernel_rfl) ?_)
  iterate 1 (refine aH (by kernel_rfl) (fun KK hK=>?_);go_simp;refine hK.out _ ?_;clear hK KK)
  refine fZ ?_;intro w6 hF6;have HF6:=qA (HX.out.2.2.1.trans' hF6);clear hF6 y0 y1 y2 y3 c4 c5 z0 z1 z2 z3 HX HR;go_wp2
  go_ret2;exact⟨rfl,HF6.out⟩}
  {
  have d5:decide (t<last)=false:=qF hlt;cases hlv:mX X.m X.now t with
  | false=>{
  have hRn:R=none:=by {
  have:=hunf (b:=false) (by unfold Ob.resOk;rw[show mX X.ob.m X.ob.now t=false from hlv];simp);exact this.symm};subst hRn;rw[hlv]at hLive;clear hlt hunf hlv;have HLive:=qA hLive;have HChk:=qA hChk;have Hwa:=qA hwa;clear hLive hChk hwa;go_wp2_with fail
  rw[<-Hwa.out];refine cX (fun w' =>Fr [] wa w') (by kernel_rfl) (by kernel_rfl) ((Fr.refl [] wa).drew) ?_;iterate 1 (refine aH (by kernel_rfl) (fun KK hK=>?_);go_simp;refine hK.out _ ?_;clear hK KK)
  refine aS (by kernel_rfl) (.int .i64 t) (fun w' hw' =>?_) ?_
  {
  have y3:=hw'.cell y3 (by simp);go_simp;first|done|exact hw' | exact⟨rfl,hw'⟩};iterate 3 (refine aH (by kernel_rfl) (fun KK hK=>?_);go_simp;refine hK.out _ ?_;clear hK KK)
  iterate 3 (refine aH (by kernel_rfl) (fun KK hK=>?_);go_simp;refine hK.out _ ?_;clear hK KK)
  refine aS (by kernel_rfl) (kB pc) (fun w' hw' =>?_) ?_
  {
  have c4:=hw'.cell c4 (by simp);go_simp;first|done|exact hw' | exact⟨rfl,hw'⟩};iterate 1 (refine aH (by kernel_rfl) (fun KK hK=>?_);go_simp;refine hK.out _ ?_;clear hK KK)
  refine aS (by kernel_rfl) (.int .i64 t) (fun w' hw' =>?_) ?_
  {
  have y3:=hw'.cell y3 (by simp);go_simp;first|done|exact hw' | exact⟨rfl,hw'⟩};refine aS (by kernel_rfl) (.bool false) (fun w' hw' =>?_) ?_
  {
  go_simp;exact HLive.out _ hw'};iterate 1 (refine aH (by kernel_rfl) (fun KK hK=>?_);go_simp;refine hK.out _ ?_;clear hK KK)
  iterate 2 (refine aH (by kernel_rfl) (fun KK hK=>?_);go_simp;refine hK.out _ ?_;clear hK KK)
  iterate 7 (refine rZ (by kernel_rfl) ?_)
  iterate 1 (refine aH (by kernel_rfl) (fun KK hK=>?_);go_simp;refine hK.out _ ?_;clear hK KK)
  refine fZ ?_;intro w6 hF6;have HF6:=qA (HX.out.2.2.1.trans' hF6);clear hF6 y0 y1 y2 y3 c4 c5 z0 z1 z2 z3 HX HR;go_wp2
  go_ret2;exact⟨rfl,HF6.out⟩}
  | true=>{
  obtain⟨cc,hcc⟩:∃cc:Int,cc=(X.s.chk u v:Nat):=⟨_,rfl⟩;rw[hlv]at hLive;rw[<-hcc]at hChk;by_cases hc0:X.s.chk u v=0
  {
  have hcc0:cc=0:=by rw[hcc,hc0];rfl
  subst hcc0;have hR2:=hunf (b:=true) (by
    unfold Ob.resOk;rw[show mX X.ob.m X.ob.now t=true from hlv,qG (show last<=t by omega),qG (show X.ob.chkO u v=0 by rw[<-aFE HX.out.1];exact hc0)];rfl)
  rw[qD rfl]at hR2;have hlv' :=of_decide_eq_true hlv;have hN:=pW HX.out.2.1 HX.out.1.lk HX.out.1.ok HX.out.1.hV HX.out.1.hE u v k1 k2 wt t (by have:=HX.out.2.2.2.2.2.1;omega) hlv'.2.1 hc0;have HG:=qA (zH hlv' (zH hc0 (zH hR2 (zH (Int.not_lt.1 hlt) (zH k1 k2)))));clear hlt hunf hlv hc0 hR2 hlv' hcc hN;have HLive:=qA hLive;have HChk:=qA hChk;have Hwa:=qA hwa;clear hLive hChk hwa;go_wp2_with fail
  rw[<-Hwa.out];refine cX (fun w' =>Fr [] wa w') (by kernel_rfl) (by kernel_rfl) ((Fr.refl [] wa).drew) ?_;iterate 1 (refine aH (by kernel_rfl) (fun KK hK=>?_);go_simp;refine hK.out _ ?_;clear hK KK)
  refine aS (by kernel_rfl) (.int .i64 t) (fun w' hw' =>?_) ?_
  {
  have y3:=hw'.cell y3 (by simp);go_simp;first|done|exact hw' | exact⟨rfl,hw'⟩};iterate 3 (refine aH (by kernel_rfl) (fun KK hK=>?_);go_simp;refine hK.out _ ?_;clear hK KK)
  iterate 3 (refine aH (by kernel_rfl) (fun KK hK=>?_);go_simp;refine hK.out _ ?_;clear hK KK)
  refine aS (by kernel_rfl) (kB pc) (fun w' hw' =>?_) ?_
  {
  have c4:=hw'.cell c4 (by simp);go_simp;first|done|exact hw' | exact⟨rfl,hw'⟩};iterate 1 (refine aH (by kernel_rfl) (fun KK hK=>?_);go_simp;refine hK.out _ ?_;clear hK KK)
  refine aS (by kernel_rfl) (.int .i64 t) (fun w' hw' =>?_) ?_
  {
  have y3:=hw'.cell y3 (by simp);go_simp;first|done|exact hw' | exact⟨rfl,hw'⟩};refine aS (by kernel_rfl) (.bool true) (fun w' hw' =>?_) ?_
  {
  go_simp;exact HLive.out _ hw'};iterate 1 (refine aH (by kernel_rfl) (fun KK hK=>?_);go_simp;refine hK.out _ ?_;clear hK KK)
  iterate 2 (refine aH (by kernel_rfl) (fun KK hK=>?_);go_simp;refine hK.out _ ?_;clear hK KK)
  iterate 3 (refine aH (by kernel_rfl) (fun KK hK=>?_);go_simp;refine hK.out _ ?_;clear hK KK)
  refine aS (by kernel_rfl) (iM ps) (fun w' hw' =>?_) ?_
  {
  have c5:=hw'.cell c5 (by simp);go_simp;first|done|exact hw' | exact⟨rfl,hw'⟩};refine aS (by kernel_rfl) (pN u v wt t) (fun w' hw' =>?_) ?_
  {
  have y0:=hw'.cell y0 (by simp);have y1:=hw'.cell y1 (by simp);have y2:=hw'.cell y2 (by simp);have y3:=hw'.cell y3 (by simp);go_simp;first|done|exact hw' | exact⟨rfl,hw'⟩};refine aS (by kernel_rfl) (.int .i64 0) (fun w' hw' =>?_) ?_
  {
  go_simp;exact HChk.out _ hw'};iterate 1 (refine aH (by kernel_rfl) (fun KK hK=>?_);go_simp;refine hK.out _ ?_;clear hK KK)
  iterate 1 (refine aH (by kernel_rfl) (fun KK hK=>?_);go_simp;refine hK.out _ ?_;clear hK KK)
  refine fZ ?_;intro w6 hF6;have hBw:=HX.out.2.1.fr0 hF6;have y0:=hF6.cell y0 (by simp);have y1:=hF6.cell y1 (by simp);have y2:=hF6.cell y2 (by simp);have y3:=hF6.cell y3 (by simp);have HN:=qA (pW hBw HX.out.1.lk HX.out.1.ok HX.out.1.hV HX.out.1.hE u v k1 k2 wt t (by have:=HX.out.2.2.2.2.2.1;have:=HG.out.2.2.2.1;omega) HG.out.1.2.1 HG.out.2.1 (by have h:=HX.out.2.2.2.2.2.2.2.1;simp only[qY]at h;show X.s.last+1<=_;omega) (by have h:=HX.out.2.2.2.2.2.2.2.1;simp only[qY]at h;show X.s.last+1<=_;omega));have HF6:=qA hF6;clear hF6 c4 c5 z0 z1 z2 z3 hBw HR;go_wp2_with fail
  refine HN.out.mono ?_;rintro _ w7 ⟨rfl,ea,eb,Ks7,lx7,Lf7,ha,hb,hI7⟩;have HNew:Hid (RsI w w7 p t (l.drop (i+1)) R):=qA (by
    obtain⟨hokX,hBa,hFw,hnK,hle,hl0,hle1,hle2,_⟩:=HX.out;obtain⟨hlv', hc0,hR2,hlt,k1,k2⟩:=HG.out;obtain⟨⟨cl7,hB7⟩,hF7,hn7,_⟩:=hI7;simp only[qY]at hle1 hle2;have hs1:=hFw.size;have hs2:=HF6.out.size;have hwp:({ (X.wp nq) with s:=(X.wp nq).s.ins u v wt t (t+(X.wp nq).m),Q:=fun j=>if j=(X.wp nq).s.slot then some (t+(X.wp nq).m) else(X.wp nq).Q j,nq:=(X.wp nq).nq+1,G:=fun j=>if j=(X.wp nq).s.slot then some (ea,eb,t+(X.wp nq).m) else(X.wp nq).G j,added:=(X.wp nq).added+1 }:Wp)=(X.putT u v wt t ea eb).wp (nq+1):=by
      simp[Wm.wp,Wm.putT,Sm.ins];exact⟨rfl,rfl⟩
    rw[hwp]at hB7;refine⟨X.putT u v wt t ea eb,bW p pc Ks7 lx7 Lf7,⟨Wm.putT_ok hokX k1 k2 wt t (by omega) hlv'.1 hlv'.2.2 (fun e he=>by have:=hle e he;omega) hc0 (by omega) ha hb,pc,ps,px,pf,nq+1,Ks7,lx7,Lf7,cl7,hB7,rfl⟩,(hFw.trans' HF6.out).trans hF7 (fun b hb=>.inr (hnK b hb)),fun q hq=>?_,fun e he=>?_,by omega,?_,?_,?_⟩
    · rcases hn7 q hq with h | h
      · exact hnK q h
      · omega
    · have he' : e ∈ X.s.L ++ [X.s.edge u v wt t (t + X.m)] := he
      rw[qE,qH]at he';rcases he' with he' | rfl
      · have:=hle e he'; omega
      · exact Int.le_refl _
    · show (X.s.L ++ [X.s.edge u v wt t (t + X.m)]).length + _ <= X.E
      rw[zE];simp only[qY,List.length_nil];omega
    · show X.s.last + 1 + _ <= _
      omega
    · rw[aOP];exact hR2)
  clear hI7 ha hb HN y0 y1 y2 y3 HX HG;go_wp2_with fail
  go_roundw
  case rel=>exact⟨i+1,t,by omega,rfl,by go_num,HNew⟩
  case measure=>simp[intOf];omega}
  {
  have hRn:R=none:=by {
  have:=hunf (b:=false) (by unfold Ob.resOk;rw[qF (show ¬X.ob.chkO u v=0 by rw[<-aFE HX.out.1];exact hc0)];simp);exact this.symm};subst hRn;have d6:(cc != 0)=true:=by rw[hcc];simp;omega
  clear hlt hunf hlv hc0 hcc;have HLive:=qA hLive;have HChk:=qA hChk;have Hwa:=qA hwa;clear hLive hChk hwa;go_wp2_with fail
  rw[<-Hwa.out];refine cX (fun w' =>Fr [] wa w') (by kernel_rfl) (by kernel_rfl) ((Fr.refl [] wa).drew) ?_;iterate 1 (refine aH (by kernel_rfl) (fun KK hK=>?_);go_simp;refine hK.out _ ?_;clear hK KK)
  refine aS (by kernel_rfl) (.int .i64 t) (fun w' hw' =>?_) ?_
  {
  have y3:=hw'.cell y3 (by simp);go_simp;first|done|exact hw' | exact⟨rfl,hw'⟩};iterate 3 (refine aH (by kernel_rfl) (fun KK hK=>?_);go_simp;refine hK.out _ ?_;clear hK KK)
  iterate 3 (refine aH (by kernel_rfl) (fun KK hK=>?_);go_simp;refine hK.out _ ?_;clear hK KK)
  refine aS (by kernel_rfl) (kB pc) (fun w' hw' =>?_) ?_
  {
  have c4:=hw'.cell c4 (by simp);go_simp;first|done|exact hw' | exact⟨rfl,hw'⟩};iterate 1 (refine aH (by kernel_rfl) (fun KK hK=>?_);go_simp;refine hK.out _ ?_;clear hK KK)
  refine aS (by kernel_rfl) (.int .i64 t) (fun w' hw' =>?_) ?_
  {
  have y3:=hw'.cell y3 (by simp);go_simp;first|done|exact hw' | exact⟨rfl,hw'⟩};refine aS (by kernel_rfl) (.bool true) (fun w' hw' =>?_) ?_
  {
  go_simp;exact HLive.out _ hw'};iterate 1 (refine aH (by kernel_rfl) (fun KK hK=>?_);go_simp;refine hK.out _ ?_;clear hK KK)
  iterate 2 (refine aH (by kernel_rfl) (fun KK hK=>?_);go_simp;refine hK.out _ ?_;clear hK KK)
  iterate 3 (refine aH (by kernel_rfl) (fun KK hK=>?_);go_simp;refine hK.out _ ?_;clear hK KK)
  refine aS (by kernel_rfl) (iM ps) (fun w' hw' =>?_) ?_
  {
  have c5:=hw'.cell c5 (by simp);go_simp;first|done|exact hw' | exact⟨rfl,hw'⟩};refine aS (by kernel_rfl) (pN u v wt t) (fun w' hw' =>?_) ?_
  {
  have y0:=hw'.cell y0 (by simp);have y1:=hw'.cell y1 (by simp);have y2:=hw'.cell y2 (by simp);have y3:=hw'.cell y3 (by simp);go_simp;first|done|exact hw' | exact⟨rfl,hw'⟩};refine aS (by kernel_rfl) (.int .i64 cc) (fun w' hw' =>?_) ?_
  {
  go_simp;exact HChk.out _ hw'};iterate 1 (refine aH (by kernel_rfl) (fun KK hK=>?_);go_simp;refine hK.out _ ?_;clear hK KK)
  iterate 1 (refine aH (by kernel_rfl) (fun KK hK=>?_);go_simp;refine hK.out _ ?_;clear hK KK)
  refine fZ ?_;intro w6 hF6;have HF6:=qA (HX.out.2.2.1.trans' hF6);clear hF6 y0 y1 y2 y3 c4 c5 z0 z1 z2 z3 HX HR;go_wp2
  go_ret2;exact⟨rfl,HF6.out⟩}}}}
  {
  obtain rfl:i=l.length:=by omega
  obtain⟨X,K,hX,hF,hnK,hle,hl0,hle1,hle2,hres⟩:=HR.out;rw[List.drop_eq_nil_of_le (qJ _)]at hres;have hRn:R=some X.ob:=hres.symm;subst hRn;have HX:=qA (zH hX (zH hF hnK));clear hX hF hnK hle hl0 hle1 hle2 hres HR;go_wp2
  go_ret2;exact⟨p,X,K,rfl,rfl,HX.out⟩}}
 {
 have hR:kG m E V D now g l=none:=qC (fun h=>hch h.2.2.2.2);rw[hR];obtain⟨cc,hcc⟩:∃cc,cc=dH m 0 now:=⟨_,rfl⟩;have d6:(cc != 0)=true:=by rw[hcc];simp[hch]
 have HC:=qA (zH hcc hch);clear hR hcf hlE c1 c2 c3 c4 c5 c6 c7 hcc hch;go_enter Tryz.func53,Tryz.ntmps53
 go_wp2_with fail
 refine HFr.out.mono ?_;rintro _ w2 ⟨p,rfl,K,hK,hF2,hnK⟩;rw[<-HW1.out]at hF2 hnK;have hb2:=hF2.blk HBx.out.1 (by simp);have x1:=hb2.cell 1;simp only[zI,zJ]at x1;have HF2:=qA (HBx.out.2.trans' hF2);obtain⟨hokX,pc,ps,px,pf,nq,Ks,lx,Lf,cl,hB,hKe⟩:=hK;have c4:=hB.hd.cell 4;simp only[zI,zJ]at c4;have hAd:=aEY hB.clk now hn1 hn2 HC.out.2;rw[show dH (Wm.wp (Wm.new m E V D g) nq).m (Wm.wp (Wm.new m E V D g) nq).now now=cc from HC.out.1.symm]at hAd;have HAd:=qA hAd;clear hF2 hnK hb2 hB hKe hokX x0 x2 x3 HFr HW1 hAd;go_wp2_with fail
 refine HAd.out.mono ?_;rintro _ w3 ⟨rfl,rfl⟩;clear c4 x1 HAd;go_wp2
 go_ret2;exact⟨rfl,HF2.out⟩}}
 {
 have hR:kG m E V D now g l=none:=qC (fun h=>hlE ⟨by omega,h.2.2.2.1⟩);rw[hR];clear hR hcf c1 c2 c4 c5 c6 c7;by_cases hl1:l.length<=E
 {
 have d2:decide ((l.length:Int)>E)=false:=qF (by omega);have d2n:decide (E<l.length)=false:=qF (by omega);have d3n:decide (9223372036854775807-(g:Int)<l.length)=true:=qG (by omega);have d3:decide ((l.length:Int)>9223372036854775807-(g:Int))=true:=qG (by omega);have hw2:IntKind.u64.wrap (l.length:Int)=l.length:=by simp[IntKind.wrap,IntKind.bits,IntKind.signed];omega
 have hw3:IntKind.u64.wrap (9223372036854775807-(g:Int))=9223372036854775807-(g:Int):=by simp[IntKind.wrap,IntKind.bits,IntKind.signed];omega
 clear hlE hl1;go_enter Tryz.func53,Tryz.ntmps53
 go_wp2_with fail
 refine HFr.out.mono ?_;rintro _ w2 ⟨p,rfl,K,hK,hF2,hnK⟩;rw[<-HW1.out]at hF2;have hb2:=hF2.blk HBx.out.1 (by simp);have x1:=hb2.cell 1;simp only[zI,zJ]at x1;have HF2:=qA (HBx.out.2.trans' hF2);clear hF2 hnK hb2 hK x0 x2 x3 HFr HW1;go_wp2
 go_ret2;exact⟨rfl,HF2.out⟩}
 {
 have d2:decide ((l.length:Int)>E)=true:=qG (by omega);have d2n:decide (E<l.length)=true:=qG (by omega);clear hlE hl1;go_enter Tryz.func53,Tryz.ntmps53
 go_wp2_with fail
 refine HFr.out.mono ?_;rintro _ w2 ⟨p,rfl,K,hK,hF2,hnK⟩;rw[<-HW1.out]at hF2;have hb2:=hF2.blk HBx.out.1 (by simp);have x1:=hb2.cell 1;simp only[zI,zJ]at x1;have HF2:=qA (HBx.out.2.trans' hF2);clear hF2 hnK hb2 hK x0 x2 x3 HFr HW1;go_wp2
 go_ret2;exact⟨rfl,HF2.out⟩}}}}
 {
 have hR:kG m E V D now g l=none:=qC (fun h=>hg1 h.1);rw[hR];have d1:decide ((g:Int)>9223372036854775807)=true:=qG (by omega);have HF:=qA HBx.out.2;rw[hw1]at HF;clear hR hg1 hw1 HBx;go_enter Tryz.func53,Tryz.ntmps53
 go_wp2
 go_ret2;exact⟨rfl,HF.out⟩}
structure Og (o:Ob) (k:Nat):Prop where
  ok:o.Ok
  m:o.m=20
  E:o.E=40
  V:o.V=12
  D:o.D=0
  now:o.now<=3*k
  id:∀e∈o.L,e.u<12/\e.v<12
  last:o.last<=k
section
variable {o:Ob} {k:Nat}
end
section
variable {W wr w' :World} {p:Nat} {o:Ob} {ts:List Th}
def ResE(W w' :World)(ts:List Th)(R:Option Ob)(e:Ending):Prop:=match R with
  | none=>e=.returned (.tuple #[.pointer none,.int .i64 2])/\Wd W w' ts
  | some o=>∃p,e=.returned (.tuple #[eO p,.int .i64 0])/\Wd W w' (thO p o::ts)
theorem aRP(h:Wd W wr ts)(m E V D now:Int)(g:Nat)(a:Option Addr)(cap:Nat)(l:List R4)(hg:g<18446744073709551616)(hn1:-9223372036854775808<=now)(hn2:now<=9223372036854775807)(hm2:m<=9223372036854775807)
    (hl:l.length<=9223372036854775807) (hrow:RcW wr a l) (hok:∀r∈l,r.ok):
    Calls Tryz.prog 53 #[.agg #[.int .i64 m,.int .i64 E,.int .i64 V,.int .i64 D],.int .i64 now,.int .u64 g,.slice a l.length cap] wr fun e w' =>ResE W w' ts (kG m E V D now g l) e:=by
 refine(aRO m E V D now g a cap l wr hg hn1 hn2 hm2 hl hrow hok).mono fun e w' k=>?_;cases hR:kG m E V D now g l with
 | none=>rw[hR]at k;exact⟨k.1,h.fr0 k.2⟩
 | some o=>{
 rw[hR]at k;obtain⟨p,X,K,k1,k2,k3,k4,k5⟩:=k;exact⟨p,k1,h.new k4 ⟨X,k2,k3⟩ k5⟩}
end
def rC(r:R4):List Value:=[.int .u64 r.1,.int .u64 r.2.1,.int .i64 r.2.2.1,.int .i64 r.2.2.2]
section
variable {w w' :World} {v:Value} {l:List R4}
end
def lL(e:Lv):R4:=(e.u,e.v,e.wt,e.t)
def Ob.cut(o:Ob)(k:Nat):Ob:={ o with L:=o.L.take k,last:=o.gone+k }
theorem Ob.cut_all{o:Ob}(h:o.Ok):o.cut o.L.length=o:=by
 unfold Ob.cut;rw[List.take_length,<-h.last]
theorem aLG{L M:List Lv}(h:∀e∈L,e∈M):(nQ L).length<=(nQ M).length:=
  mR (aDF L) fun x hx=>by
 obtain⟨e,he,hat⟩:=jE.1 hx;exact jE.2 ⟨e,h e he,hat⟩
theorem aDL(L:List Lv)(e:Lv):Ob.idsUV L e.u e.v=nQ (L++[e]):=by
 unfold Ob.idsUV nQ;rw[List.foldl_append];rfl
theorem aLH{o:Ob}(h:o.Ok){k:Nat}(hk:k<o.L.length){last:Int}(hl:last<=(o.L[k]).t):(o.cut k).resOk last (lL o.L[k])=true/\(o.cut k).putT (o.L[k]).u (o.L[k]).v (o.L[k]).wt (o.L[k]).t=o.cut (k+1):=by
 have hm:=List.getElem_mem hk;have hx:=h.x _ hm;have hlen:(o.L.take k).length=k:=by rw[List.length_take];omega
 have hle:=h.leE;have htk:o.L.take (k+1)=o.L.take k++[o.L[k]]:=by rw[List.take_add_one,qK hk];rfl
 constructor
 {
 unfold Ob.resOk;have e1:mX (o.cut k).m (o.cut k).now (lL o.L[k]).2.2.2=true:=qG ⟨hx.2.2.1,by have:=h.n1;show(o.L[k]).t+o.m<=_;omega,by show o.now<(o.L[k]).t+o.m;omega⟩;have e2:(o.cut k).chkO (lL o.L[k]).1 (lL o.L[k]).2.1=0:=by {
 unfold Ob.chkO;rw[qC (show ¬(lL o.L[k]).1=(lL o.L[k]).2.1 from h.ne _ hm),qC (show ¬(o.cut k).E<=(o.cut k).L.length by show ¬o.E<=(o.L.take k).length;omega),qC];show ¬o.V<(Ob.idsUV (o.L.take k) (o.L[k]).u (o.L[k]).v).length
 rw[aDL,<-htk];have:=aLG (L:=o.L.take (k+1)) (M:=o.L) fun e he=>List.mem_of_mem_take he;have:=h.leV;omega};rw[e1,e2,qG (show last<=(lL o.L[k]).2.2.2 from hl)];rfl}
 {
 have hs:o.L[k]=⟨0,o.gone+k+1,(o.L[k]).u,(o.L[k]).v,(o.L[k]).wt,(o.L[k]).t,(o.L[k]).t+o.m⟩:=by {
 have h1:=h.num k hk;have h2:=h.sl _ hm;generalize o.L[k]=e at *;obtain⟨a,b,c,d,f,g,i⟩:=e;simp only at h1 h2 hx ⊢;rw[h1,h2,hx.1]};unfold Ob.putT Ob.cut;simp only[htk];rw[<-hs];rfl}
theorem aBK{o:Ob}(h:o.Ok):∀(n k:Nat) (last:Int),k+n=o.L.length->(∀e,o.L[k]? =some e->last<=e.t)->(o.cut k).resL last ((o.L.drop k).map lL)=some o
  | 0,k,last,hk,_=>by
    rw[List.drop_eq_nil_of_le (by omega)];have:k=o.L.length:=by omega
    subst this;show some (o.cut o.L.length)=_
    rw[Ob.cut_all h]
  | n+1,k,last,hk,hl=>by
    have hlt:k<o.L.length:=by omega
    obtain⟨h1,h2⟩:=aLH h hlt (hl _ (qK hlt));rw[List.drop_eq_getElem_cons hlt,List.map_cons];unfold Ob.resL;rw[qD h1];show((o.cut k).putT (o.L[k]).u (o.L[k]).v (o.L[k]).wt (o.L[k]).t).resL (o.L[k]).t ((o.L.drop (k+1)).map lL)=_
    rw[h2];refine aBK h n (k+1) _ (by omega) fun e he=>?_;obtain⟨h3,rfl⟩:=qS.1 he;exact(List.pairwise_iff_getElem.1 h.mono) k (k+1) hlt h3 (by omega)
theorem aHN{o:Ob}(h:o.Ok)(hc:mM o.m o.E o.V o.D=true):kG o.m o.E o.V o.D o.now o.gone (o.L.map lL)=some o:=by
 have h1:=h.last;have h2:=h.max;have h3:=h.leE;unfold kG;rw[qD]
 {
 have:=aBK h o.L.length 0 0 (by omega) (fun e he=>(h.x e (List.mem_of_getElem? he)).2.1);exact this}
 {
 refine⟨by omega,hc,by rw[List.length_map];omega,by rw[List.length_map];omega,?_⟩;unfold dH lG;rw[qC (by have:=h.n0;omega),qD (by have:=h.n1;omega)]}
end Go.Proofs.YtjdgpcjbgjnahaaGreatDoor
