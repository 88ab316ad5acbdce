/- The configuration of four fields: the walk of config's join. -/
import Derived.Test.YtjdgpcjbgjnahaaGreatDoorH11
import Derived.Test.YtjdgpcjbgjnahaaGreatDoorH10
import Derived.Test.YtjdgpcjbgjnahaaGreatDoorH3
set_option maxRecDepth 10000
set_option maxHeartbeats 1600000
set_option linter.unusedSimpArgs false
set_option linter.unusedVariables false
/- A configuration as bytes: the walks of config's split and Put. -/
namespace Go.Proofs.YtjdgpcjbgjnahaaGreatDoor
open Go.RowKit
theorem aOU(m E V D:Int)(w:World):Calls Tryz.prog 73 #[.agg #[.int .i64 m,.int .i64 E,.int .i64 V,.int .i64 D]] w fun e w' =>e=.returned (.agg #[.int .i64 m,.int .i64 E,.int .i64 V,.int .i64 D])/\Fr [] w w' :=by
 have hb:=Blk.new w [.int .i64 m,.int .i64 E,.int .i64 V,.int .i64 D] 31;have hF:Fr [] (w.alloc (.cells #[.int .i64 m,.int .i64 E,.int .i64 V,.int .i64 D] 31)) ((w.alloc (.cells #[.int .i64 m,.int .i64 E,.int .i64 V,.int .i64 D] 31)).alloc (.cells #[.int .i64 0,.int .i64 0,.int .i64 0,.int .i64 0] 115)):=(Fr.refl [] _).alloc _;have hb2:=hF.blk hb (by simp);have r0:=hb2.cell 0;have r1:=hb2.cell 1;have r2:=hb2.cell 2;have r3:=hb2.cell 3;have hb3:=Blk.new (w.alloc (.cells #[.int .i64 m,.int .i64 E,.int .i64 V,.int .i64 D] 31)) [.int .i64 m,.int .i64 E,.int .i64 V,.int .i64 D] 115;rw[World.size_alloc]at hb3;have q0:=hb3.cell 0;have q1:=hb3.cell 1;have q2:=hb3.cell 2;have q3:=hb3.cell 3;simp only[zJ,zK]at r0 r1 r2 r3 q0 q1 q2 q3;have HF:=qA (((Fr.refl [] w).alloc (.cells #[.int .i64 m,.int .i64 E,.int .i64 V,.int .i64 D] 31)).alloc (.cells #[.int .i64 m,.int .i64 E,.int .i64 V,.int .i64 D] 115));clear hb hF hb2 hb3;go_enter Tryz.func73,Tryz.ntmps73
 go_wp2
 exact bodyPost_ret (v:=.agg #[.int .i64 m,.int .i64 E,.int .i64 V,.int .i64 D]) (by simp[results,Tryz.results73,go_sem,q0,q1,q2,q3]) rfl ⟨rfl,HF.out⟩
theorem vS{m E V D:Int}(h:eZ m E V D=true):cA m E V D=-1:=by
 obtain⟨k1,k2,k3,k4,k5,k6,k7⟩:=cO.1 h;unfold cA;rw[qC (by omega),qC (by omega),qC (by omega),qC (by omega)]
theorem aGX{m E V D:Int}(h:eZ m E V D=false):0<=cA m E V D:=by
 by_cases k:0<=cA m E V D
 · exact k
 {
 exfalso
 have:eZ m E V D=true:=cO.2 (by unfold cA at k;split at k<;>(try split at k)<;>(try split at k)<;>(try split at k)<;>omega);rw[h]at this;cases this}
theorem Tryz.info5:(Tryz.prog.info? 5).map (fun i=>(i.zero,i.size,i.bytes))=some (some (.int .u8 0),1,1):=by kernel_rfl
@[go_sem] theorem aRV(m E V D:Int)(w:World):(Instr.index 115 (.agg #[.int .i64 m,.int .i64 E,.int .i64 V,.int .i64 D]) (.int .i64 0)).run Tryz.prog w=.ok (.int .i64 m) w:=by kernel_rfl
@[go_sem] theorem aRW(m E V D:Int)(w:World):(Instr.index 115 (.agg #[.int .i64 m,.int .i64 E,.int .i64 V,.int .i64 D]) (.int .i64 1)).run Tryz.prog w=.ok (.int .i64 E) w:=by kernel_rfl
@[go_sem] theorem aRX(m E V D:Int)(w:World):(Instr.index 115 (.agg #[.int .i64 m,.int .i64 E,.int .i64 V,.int .i64 D]) (.int .i64 2)).run Tryz.prog w=.ok (.int .i64 V) w:=by kernel_rfl
@[go_sem] theorem aRY(m E V D:Int)(w:World):(Instr.index 115 (.agg #[.int .i64 m,.int .i64 E,.int .i64 V,.int .i64 D]) (.int .i64 3)).run Tryz.prog w=.ok (.int .i64 D) w:=by kernel_rfl
def PB(w wr:World)(v:Value)(l:List Nat):Prop:=cX wr v l/\(∀q,v.ownBlock=some q->w.heap.size<=q)/\Fr [] w wr
theorem PB.push{w wr w4:World}{a:Option Addr}{n c g c' :Nat}{l:List Nat}{b:Nat}{o:Obj}(h:PB w wr (.slice a n c) l)(hn:l.length=n)(hown:w4.ownsRow 0 5 1 (.slice (some ⟨g,0,none⟩) (n+1) c') (n+1) (bF l++[.int .u8 (b:Int)]))(hgrow:(wr.alloc o).grownBy w4 (Value.slice a n c).ownBlock)(hg:(Value.slice a n c).ownBlock=some g∨(wr.alloc o).heap.size<=g):
    PB w w4 (.slice (some ⟨g,0,none⟩) (n+1) c') (l++[b]):=by
 have hF:Fr (Value.slice a n c).ownBlock.toList wr w4:=((Fr.refl _ _).alloc _).grown hgrow (fun q e=>.inl (by simp[e]));have hs:=h.2.2.size;simp only[World.size_alloc]at hg;refine⟨?_,fun q e=>?_,h.2.2.trans hF (fun q hq=>.inr (h.2.1 q (by simpa using hq)))⟩
 {
 unfold cX;rw[zF,hn,oJ];exact hown}
 {
 simp only[Value.ownBlock,qI]at e;subst e;rcases hg with e|e
 · exact h.2.1 _ e
 · omega}
theorem PB.own{w wr:World}{a:Option Addr}{n c:Nat}{l:List Nat}(h:PB w wr (.slice a n c) l)(hn:l.length=n):∀o,World.ownsRow (wr.alloc o) 0 5 1 (.slice a n c) n (bF l):=fun o=>by
 have:=h.1.fr0 ((Fr.refl [] wr).alloc o);unfold cX at this;rw[hn]at this;exact this
theorem aL{x:Int}(h:0<=x/\x<=9223372036854775807):aX x=x.toNat:=by unfold aX;omega
def iO:Array Value:=#[.int .u8 0,.int .u8 0,.int .u8 0,.int .u8 0,.int .u8 0,.int .u8 0,.int .u8 0,.int .u8 0,.int .u8 0,.int .u8 0,.int .u8 0,.int .u8 0,.int .u8 0,.int .u8 0,.int .u8 0,.int .u8 0,.int .u8 0,.int .u8 0,.int .u8 0,.int .u8 0,.int .u8 0,.int .u8 0,.int .u8 0,.int .u8 0,.int .u8 0,.int .u8 0,.int .u8 0,.int .u8 0,.int .u8 0,.int .u8 0,.int .u8 0,.int .u8 0]
theorem aCT(w:World):(Instr.makeSlice 22 (.int .i64 0) (.int .i64 32)).run Tryz.prog w=.ok (.slice (some ⟨w.heap.size,0,none⟩) 0 32) (w.alloc (.cells iO 5)):=by kernel_rfl
theorem cX.mk32(w:World):cX (w.alloc (.cells iO 5)) (.slice (some ⟨w.heap.size,0,none⟩) 0 32) []:=
  ⟨rfl,.inr ⟨w.heap.size,32,iO,rfl,qS _,Blk.new w iO.toList 5,qS _,by decide,by decide,rfl⟩⟩
theorem put_ok{w:World}(hL:iC w)(m E V D:Int)(hm:m<=9223372036854775807)(hc:eZ m E V D=true):
    Calls Tryz.prog 39 #[.agg #[.int .i64 m,.int .i64 E,.int .i64 V,.int .i64 D]] w fun e w' =>∃v,e=.returned (.tuple #[v,.int .i64 0])/\cX w' v (jD m E V D)/\(∀q,v.ownBlock=some q->w.heap.size<=q)/\Fr [] w w' :=by
 have hb:=Blk.new w [.int .i64 m,.int .i64 E,.int .i64 V,.int .i64 D] 31;have r0:=hb.cell 0;have r1:=hb.cell 1;have r2:=hb.cell 2;have r3:=hb.cell 3;simp only[zJ,zK]at r0 r1 r2 r3;have HF:=qA ((Fr.refl [] w).alloc (.cells #[.int .i64 m,.int .i64 E,.int .i64 V,.int .i64 D] 31));have HS:=qA (aOU m E V D (w.alloc (.cells #[.int .i64 m,.int .i64 E,.int .i64 V,.int .i64 D] 31)));have HL:=qA hL;have HC:=qA hc;clear hb hL hc;go_enter Tryz.func39,Tryz.ntmps39
 go_wp2_with fail
 refine HS.out.mono ?_;rintro _ w2 ⟨rfl,hF⟩;have hb:=Blk.new w2 [.int .i64 m,.int .i64 E,.int .i64 V,.int .i64 D] 115;have r0:=hb.cell 0;have r1:=hb.cell 1;have r2:=hb.cell 2;have r3:=hb.cell 3;simp only[zJ,zK]at r0 r1 r2 r3;have HF:=qA ((HF.out.trans' hF).alloc (.cells #[.int .i64 m,.int .i64 E,.int .i64 V,.int .i64 D] 115));have HB:=qA hb;have hg:=xY (HL.out.fr HF.out (by simp)) m E V D hm;rw[vS HC.out]at hg;have HG:=qA hg;clear hb hF HS hg;go_wp2_with fail
 refine HG.out.mono ?_;rintro _ w3 ⟨rfl,hF⟩;have hb:=hF.blk HB.out (by simp);have r0:=hb.cell 0;have r1:=hb.cell 1;have r2:=hb.cell 2;have r3:=hb.cell 3;simp only[zJ,zK]at r0 r1 r2 r3;have HF:=qA (HF.out.trans' hF);clear hF HG hb;have hmk:=aCT w3;have HR0:=qA (zI (cX.mk32 w3) (HF.out.alloc (.cells iO 5)));have r0:=((Fr.refl [] w3).alloc (.cells iO 5)).cell r0 (by simp);have r1:=((Fr.refl [] w3).alloc (.cells iO 5)).cell r1 (by simp);have r2:=((Fr.refl [] w3).alloc (.cells iO 5)).cell r2 (by simp);have r3:=((Fr.refl [] w3).alloc (.cells iO 5)).cell r3 (by simp);generalize iO=z32 at *;have HP0:=qA (show PB w (w3.alloc (.cells z32 5)) (.slice (some ⟨w3.heap.size,0,none⟩) 0 32) [] from⟨HR0.out.1,fun q e=>(by simp only[Value.ownBlock,qI]at e;have:=HF.out.size;omega),HR0.out.2⟩);obtain⟨L,hL⟩:∃L,L=jD m E V D:=⟨_,rfl⟩;have HLL:=qA hL;have H0:=qA (show(0<=m/\m<=9223372036854775807)/\(0<=E/\E<=9223372036854775807)/\(0<=V/\V<=9223372036854775807)/\(0<=D/\D<=9223372036854775807) by have:=cO.1 HC.out;omega);clear HR0 hL;go_wp2_with fail
 clear r0 r1 r2 r3 hmk;go_loopw [5,16] (fun c1 c2 wr=>∃k:Nat,k<=4/\(∃sa sc,c1=.slice sa (8*k) sc/\Hid (PB w wr (.slice sa (8*k) sc) (L.take (8*k))))/\c2=.int .i64 k) (fun _ c _=>4-(intOf c).toNat)
 case atStart=>exact⟨0,by omega,⟨_,_,rfl,HP0⟩,rfl⟩
 case round=>
  clear HP0;obtain⟨k,hk,⟨sa,sc,rfl,HP⟩,rfl⟩:=hrel;rename World=>wr
  by_cases hlt:k<4
  {
  have hk4:k=0∨k=1∨k=2∨k=3:=by omega
  have hlt' :(k:Int)<4:=by omega
  have hw1:IntKind.i64.wrap ((k:Int)+1)=((k+1:Nat):Int):=by rw[show(k:Int)+1=((k+1:Nat):Int) by omega];exact zG _ (by omega)
  rcases hk4 with hk' | hk' | hk' | hk'
  {
  have hidx:∀w,(Instr.index 115 (.agg #[.int .i64 m,.int .i64 E,.int .i64 V,.int .i64 D]) (.int .i64 (k:Int))).run Tryz.prog w=.ok (.int .i64 m) w:=by rw[hk'];exact aRV m E V D
  have HK:=qA hk';clear hk';go_wp2_with fail
  clear hidx;go_loopw [5,8] (fun c1 c2 wr=>∃j:Nat,j<=8/\(∃sa sc,c1=.slice sa (8*k+j) sc/\Hid (PB w wr (.slice sa (8*k+j) sc) (L.take (8*k+j))))/\c2=.int .i64 (56-8*(j:Int))) (fun _ c _=>((intOf c)+8).toNat)
  case atStart=>exact⟨0,by omega,⟨_,_,rfl,HP⟩,rfl⟩
  case round=>
   clear HP;obtain⟨j,hj,⟨sa,sc,rfl,HP⟩,rfl⟩:=hrel;rename World=>wr
   by_cases hlt:j<8
   {
   have hj8:j=0∨j=1∨j=2∨j=3∨j=4∨j=5∨j=6∨j=7:=by omega
   rcases hj8 with rfl|rfl|rfl|rfl|rfl|rfl|rfl|rfl
   {
   have HQ:=qA (PB.own (n:=(8*k+0)) HP.out (by rw[List.length_take,HLL.out,aA];omega));go_wp2_with (first|(at_builtin;refine aB rfl (.tmp 23) (.tmp 28) 22 rfl 5 (.int .u8 0) 1 Tryz.underlying22 Tryz.info5 rfl (.slice sa (8*k+0) sc) (8*k+0) (bF (L.take (8*k+0))) rfl (HQ.out _) wr.heap.size (.int .u8 (m/72057594037927936%256)) rfl (aD _ _ _ _ rfl) rfl (by omega) (by decide) ?_;intro g' cap' w4 hown4 hgrow4 hg4)|fail)
   have HN:Hid (PB w w4 (.slice (some ⟨g', 0,none⟩) (8*k+(0+1)) cap') (L.take (8*k+(0+1)))):=qA (by
     have hat:L[(8*k+0)]? =some (m.toNat/72057594037927936%256):=by rw[HLL.out,HK.out];show some (aX m/72057594037927936%256)=_;rw[aL H0.out.1]
     rw[show m/72057594037927936%256=((m.toNat/72057594037927936%256:Nat):Int) by have:=H0.out;omega]at hown4;have h1:=PB.push (n:=(8*k+0)) HP.out (by rw[List.length_take,HLL.out,aA];omega) hown4 hgrow4 hg4;have h2:L.take (8*k+(0+1))=L.take (8*k+0)++[m.toNat/72057594037927936%256]:=(List.take_add_one (l:=L) (i:=(8*k+0))).trans (by rw[hat];rfl);rw[h2];exact h1)
   clear HQ hown4 hgrow4 hg4 HP;go_roundw
   case rel=>exact⟨0+1,by omega,⟨_,_,rfl,HN⟩,by go_num⟩
   case measure=>simp[intOf]}
   {
   have HQ:=qA (PB.own (n:=(8*k+1)) HP.out (by rw[List.length_take,HLL.out,aA];omega));go_wp2_with (first|(at_builtin;refine aB rfl (.tmp 23) (.tmp 28) 22 rfl 5 (.int .u8 0) 1 Tryz.underlying22 Tryz.info5 rfl (.slice sa (8*k+1) sc) (8*k+1) (bF (L.take (8*k+1))) rfl (HQ.out _) wr.heap.size (.int .u8 (m/281474976710656%256)) rfl (aD _ _ _ _ rfl) rfl (by omega) (by decide) ?_;intro g' cap' w4 hown4 hgrow4 hg4)|fail)
   have HN:Hid (PB w w4 (.slice (some ⟨g', 0,none⟩) (8*k+(1+1)) cap') (L.take (8*k+(1+1)))):=qA (by
     have hat:L[(8*k+1)]? =some (m.toNat/281474976710656%256):=by rw[HLL.out,HK.out];show some (aX m/281474976710656%256)=_;rw[aL H0.out.1]
     rw[show m/281474976710656%256=((m.toNat/281474976710656%256:Nat):Int) by have:=H0.out;omega]at hown4;have h1:=PB.push (n:=(8*k+1)) HP.out (by rw[List.length_take,HLL.out,aA];omega) hown4 hgrow4 hg4;have h2:L.take (8*k+(1+1))=L.take (8*k+1)++[m.toNat/281474976710656%256]:=(List.take_add_one (l:=L) (i:=(8*k+1))).trans (by rw[hat];rfl);rw[h2];exact h1)
   clear HQ hown4 hgrow4 hg4 HP;go_roundw
   case rel=>exact⟨1+1,by omega,⟨_,_,rfl,HN⟩,by go_num⟩
   case measure=>simp[intOf]}
   {
   have HQ:=qA (PB.own (n:=(8*k+2)) HP.out (by rw[List.length_take,HLL.out,aA];omega));go_wp2_with (first|(at_builtin;refine aB rfl (.tmp 23) (.tmp 28) 22 rfl 5 (.int .u8 0) 1 Tryz.underlying22 Tryz.info5 rfl (.slice sa (8*k+2) sc) (8*k+2) (bF (L.take (8*k+2))) rfl (HQ.out _) wr.heap.size (.int .u8 (m/1099511627776%256)) rfl (aD _ _ _ _ rfl) rfl (by omega) (by decide) ?_;intro g' cap' w4 hown4 hgrow4 hg4)|fail)
   have HN:Hid (PB w w4 (.slice (some ⟨g', 0,none⟩) (8*k+(2+1)) cap') (L.take (8*k+(2+1)))):=qA (by
     have hat:L[(8*k+2)]? =some (m.toNat/1099511627776%256):=by rw[HLL.out,HK.out];show some (aX m/1099511627776%256)=_;rw[aL H0.out.1]
     rw[show m/1099511627776%256=((m.toNat/1099511627776%256:Nat):Int) by have:=H0.out;omega]at hown4;have h1:=PB.push (n:=(8*k+2)) HP.out (by rw[List.length_take,HLL.out,aA];omega) hown4 hgrow4 hg4;have h2:L.take (8*k+(2+1))=L.take (8*k+2)++[m.toNat/1099511627776%256]:=(List.take_add_one (l:=L) (i:=(8*k+2))).trans (by rw[hat];rfl);rw[h2];exact h1)
   clear HQ hown4 hgrow4 hg4 HP;go_roundw
   case rel=>exact⟨2+1,by omega,⟨_,_,rfl,HN⟩,by go_num⟩
   case measure=>simp[intOf]}
   {
   have HQ:=qA (PB.own (n:=(8*k+3)) HP.out (by rw[List.length_take,HLL.out,aA];omega));go_wp2_with (first|(at_builtin;refine aB rfl (.tmp 23) (.tmp 28) 22 rfl 5 (.int .u8 0) 1 Tryz.underlying22 Tryz.info5 rfl (.slice sa (8*k+3) sc) (8*k+3) (bF (L.take (8*k+3))) rfl (HQ.out _) wr.heap.size (.int .u8 (m/4294967296%256)) rfl (aD _ _ _ _ rfl) rfl (by omega) (by decide) ?_;intro g' cap' w4 hown4 hgrow4 hg4)|fail)
   have HN:Hid (PB w w4 (.slice (some ⟨g', 0,none⟩) (8*k+(3+1)) cap') (L.take (8*k+(3+1)))):=qA (by
     have hat:L[(8*k+3)]? =some (m.toNat/4294967296%256):=by rw[HLL.out,HK.out];show some (aX m/4294967296%256)=_;rw[aL H0.out.1]
     rw[show m/4294967296%256=((m.toNat/4294967296%256:Nat):Int) by have:=H0.out;omega]at hown4;have h1:=PB.push (n:=(8*k+3)) HP.out (by rw[List.length_take,HLL.out,aA];omega) hown4 hgrow4 hg4;have h2:L.take (8*k+(3+1))=L.take (8*k+3)++[m.toNat/4294967296%256]:=(List.take_add_one (l:=L) (i:=(8*k+3))).trans (by rw[hat];rfl);rw[h2];exact h1)
   clear HQ hown4 hgrow4 hg4 HP;go_roundw
   case rel=>exact⟨3+1,by omega,⟨_,_,rfl,HN⟩,by go_num⟩
   case measure=>simp[intOf]}
   {
   have HQ:=qA (PB.own (n:=(8*k+4)) HP.out (by rw[List.length_take,HLL.out,aA];omega));go_wp2_with (first|(at_builtin;refine aB rfl (.tmp 23) (.tmp 28) 22 rfl 5 (.int .u8 0) 1 Tryz.underlying22 Tryz.info5 rfl (.slice sa (8*k+4) sc) (8*k+4) (bF (L.take (8*k+4))) rfl (HQ.out _) wr.heap.size (.int .u8 (m/16777216%256)) rfl (aD _ _ _ _ rfl) rfl (by omega) (by decide) ?_;intro g' cap' w4 hown4 hgrow4 hg4)|fail)
   have HN:Hid (PB w w4 (.slice (some ⟨g', 0,none⟩) (8*k+(4+1)) cap') (L.take (8*k+(4+1)))):=qA (by
     have hat:L[(8*k+4)]? =some (m.toNat/16777216%256):=by rw[HLL.out,HK.out];show some (aX m/16777216%256)=_;rw[aL H0.out.1]
     rw[show m/16777216%256=((m.toNat/16777216%256:Nat):Int) by have:=H0.out;omega]at hown4;have h1:=PB.push (n:=(8*k+4)) HP.out (by rw[List.length_take,HLL.out,aA];omega) hown4 hgrow4 hg4;have h2:L.take (8*k+(4+1))=L.take (8*k+4)++[m.toNat/16777216%256]:=(List.take_add_one (l:=L) (i:=(8*k+4))).trans (by rw[hat];rfl);rw[h2];exact h1)
   clear HQ hown4 hgrow4 hg4 HP;go_roundw
   case rel=>exact⟨4+1,by omega,⟨_,_,rfl,HN⟩,by go_num⟩
   case measure=>simp[intOf]}
   {
   have HQ:=qA (PB.own (n:=(8*k+5)) HP.out (by rw[List.length_take,HLL.out,aA];omega));go_wp2_with (first|(at_builtin;refine aB rfl (.tmp 23) (.tmp 28) 22 rfl 5 (.int .u8 0) 1 Tryz.underlying22 Tryz.info5 rfl (.slice sa (8*k+5) sc) (8*k+5) (bF (L.take (8*k+5))) rfl (HQ.out _) wr.heap.size (.int .u8 (m/65536%256)) rfl (aD _ _ _ _ rfl) rfl (by omega) (by decide) ?_;intro g' cap' w4 hown4 hgrow4 hg4)|fail)
   have HN:Hid (PB w w4 (.slice (some ⟨g', 0,none⟩) (8*k+(5+1)) cap') (L.take (8*k+(5+1)))):=qA (by
     have hat:L[(8*k+5)]? =some (m.toNat/65536%256):=by rw[HLL.out,HK.out];show some (aX m/65536%256)=_;rw[aL H0.out.1]
     rw[show m/65536%256=((m.toNat/65536%256:Nat):Int) by have:=H0.out;omega]at hown4;have h1:=PB.push (n:=(8*k+5)) HP.out (by rw[List.length_take,HLL.out,aA];omega) hown4 hgrow4 hg4;have h2:L.take (8*k+(5+1))=L.take (8*k+5)++[m.toNat/65536%256]:=(List.take_add_one (l:=L) (i:=(8*k+5))).trans (by rw[hat];rfl);rw[h2];exact h1)
   clear HQ hown4 hgrow4 hg4 HP;go_roundw
   case rel=>exact⟨5+1,by omega,⟨_,_,rfl,HN⟩,by go_num⟩
   case measure=>simp[intOf]}
   {
   have HQ:=qA (PB.own (n:=(8*k+6)) HP.out (by rw[List.length_take,HLL.out,aA];omega));go_wp2_with (first|(at_builtin;refine aB rfl (.tmp 23) (.tmp 28) 22 rfl 5 (.int .u8 0) 1 Tryz.underlying22 Tryz.info5 rfl (.slice sa (8*k+6) sc) (8*k+6) (bF (L.take (8*k+6))) rfl (HQ.out _) wr.heap.size (.int .u8 (m/256%256)) rfl (aD _ _ _ _ rfl) rfl (by omega) (by decide) ?_;intro g' cap' w4 hown4 hgrow4 hg4)|fail)
   have HN:Hid (PB w w4 (.slice (some ⟨g', 0,none⟩) (8*k+(6+1)) cap') (L.take (8*k+(6+1)))):=qA (by
     have hat:L[(8*k+6)]? =some (m.toNat/256%256):=by rw[HLL.out,HK.out];show some (aX m/256%256)=_;rw[aL H0.out.1]
     rw[show m/256%256=((m.toNat/256%256:Nat):Int) by have:=H0.out;omega]at hown4;have h1:=PB.push (n:=(8*k+6)) HP.out (by rw[List.length_take,HLL.out,aA];omega) hown4 hgrow4 hg4;have h2:L.take (8*k+(6+1))=L.take (8*k+6)++[m.toNat/256%256]:=(List.take_add_one (l:=L) (i:=(8*k+6))).trans (by rw[hat];rfl);rw[h2];exact h1)
   clear HQ hown4 hgrow4 hg4 HP;go_roundw
   case rel=>exact⟨6+1,by omega,⟨_,_,rfl,HN⟩,by go_num⟩
   case measure=>simp[intOf]}
   {
   have HQ:=qA (PB.own (n:=(8*k+7)) HP.out (by rw[List.length_take,HLL.out,aA];omega));go_wp2_with (first|(at_builtin;refine aB rfl (.tmp 23) (.tmp 28) 22 rfl 5 (.int .u8 0) 1 Tryz.underlying22 Tryz.info5 rfl (.slice sa (8*k+7) sc) (8*k+7) (bF (L.take (8*k+7))) rfl (HQ.out _) wr.heap.size (.int .u8 (m%256)) rfl (aD _ _ _ _ rfl) rfl (by omega) (by decide) ?_;intro g' cap' w4 hown4 hgrow4 hg4)|fail)
   have HN:Hid (PB w w4 (.slice (some ⟨g', 0,none⟩) (8*k+(7+1)) cap') (L.take (8*k+(7+1)))):=qA (by
     have hat:L[(8*k+7)]? =some (m.toNat/1%256):=by rw[HLL.out,HK.out];show some (aX m/1%256)=_;rw[aL H0.out.1]
     rw[show m%256=((m.toNat/1%256:Nat):Int) by have:=H0.out;omega]at hown4;have h1:=PB.push (n:=(8*k+7)) HP.out (by rw[List.length_take,HLL.out,aA];omega) hown4 hgrow4 hg4;have h2:L.take (8*k+(7+1))=L.take (8*k+7)++[m.toNat/1%256]:=(List.take_add_one (l:=L) (i:=(8*k+7))).trans (by rw[hat];rfl);rw[h2];exact h1)
   clear HQ hown4 hgrow4 hg4 HP;go_roundw
   case rel=>exact⟨7+1,by omega,⟨_,_,rfl,HN⟩,by go_num⟩
   case measure=>simp[intOf]}}
   {
   obtain rfl:j=8:=by omega
   have HN:=qA (show PB w wr (.slice sa (8*(k+1)) sc) (L.take (8*(k+1))) from HP.out);clear HP;go_wp2_with fail
   go_roundw
   case rel=>exact⟨k+1,by omega,⟨_,_,rfl,HN⟩,by go_num⟩
   case measure=>simp[intOf];omega}}
  {
  have hidx:∀w,(Instr.index 115 (.agg #[.int .i64 m,.int .i64 E,.int .i64 V,.int .i64 D]) (.int .i64 (k:Int))).run Tryz.prog w=.ok (.int .i64 E) w:=by rw[hk'];exact aRW m E V D
  have HK:=qA hk';clear hk';go_wp2_with fail
  clear hidx;go_loopw [5,8] (fun c1 c2 wr=>∃j:Nat,j<=8/\(∃sa sc,c1=.slice sa (8*k+j) sc/\Hid (PB w wr (.slice sa (8*k+j) sc) (L.take (8*k+j))))/\c2=.int .i64 (56-8*(j:Int))) (fun _ c _=>((intOf c)+8).toNat)
  case atStart=>exact⟨0,by omega,⟨_,_,rfl,HP⟩,rfl⟩
  case round=>
   clear HP;obtain⟨j,hj,⟨sa,sc,rfl,HP⟩,rfl⟩:=hrel;rename World=>wr
   by_cases hlt:j<8
   {
   have hj8:j=0∨j=1∨j=2∨j=3∨j=4∨j=5∨j=6∨j=7:=by omega
   rcases hj8 with rfl|rfl|rfl|rfl|rfl|rfl|rfl|rfl
   {
   have HQ:=qA (PB.own (n:=(8*k+0)) HP.out (by rw[List.length_take,HLL.out,aA];omega));go_wp2_with (first|(at_builtin;refine aB rfl (.tmp 23) (.tmp 28) 22 rfl 5 (.int .u8 0) 1 Tryz.underlying22 Tryz.info5 rfl (.slice sa (8*k+0) sc) (8*k+0) (bF (L.take (8*k+0))) rfl (HQ.out _) wr.heap.size (.int .u8 (E/72057594037927936%256)) rfl (aD _ _ _ _ rfl) rfl (by omega) (by decide) ?_;intro g' cap' w4 hown4 hgrow4 hg4)|fail)
   have HN:Hid (PB w w4 (.slice (some ⟨g', 0,none⟩) (8*k+(0+1)) cap') (L.take (8*k+(0+1)))):=qA (by
     have hat:L[(8*k+0)]? =some (E.toNat/72057594037927936%256):=by rw[HLL.out,HK.out];show some (aX E/72057594037927936%256)=_;rw[aL H0.out.2.1]
     rw[show E/72057594037927936%256=((E.toNat/72057594037927936%256:Nat):Int) by have:=H0.out;omega]at hown4;have h1:=PB.push (n:=(8*k+0)) HP.out (by rw[List.length_take,HLL.out,aA];omega) hown4 hgrow4 hg4;have h2:L.take (8*k+(0+1))=L.take (8*k+0)++[E.toNat/72057594037927936%256]:=(List.take_add_one (l:=L) (i:=(8*k+0))).trans (by rw[hat];rfl);rw[h2];exact h1)
   clear HQ hown4 hgrow4 hg4 HP;go_roundw
   case rel=>exact⟨0+1,by omega,⟨_,_,rfl,HN⟩,by go_num⟩
   case measure=>simp[intOf]}
   {
   have HQ:=qA (PB.own (n:=(8*k+1)) HP.out (by rw[List.length_take,HLL.out,aA];omega));go_wp2_with (first|(at_builtin;refine aB rfl (.tmp 23) (.tmp 28) 22 rfl 5 (.int .u8 0) 1 Tryz.underlying22 Tryz.info5 rfl (.slice sa (8*k+1) sc) (8*k+1) (bF (L.take (8*k+1))) rfl (HQ.out _) wr.heap.size (.int .u8 (E/281474976710656%256)) rfl (aD _ _ _ _ rfl) rfl (by omega) (by decide) ?_;intro g' cap' w4 hown4 hgrow4 hg4)|fail)
   have HN:Hid (PB w w4 (.slice (some ⟨g', 0,none⟩) (8*k+(1+1)) cap') (L.take (8*k+(1+1)))):=qA (by
     have hat:L[(8*k+1)]? =some (E.toNat/281474976710656%256):=by rw[HLL.out,HK.out];show some (aX E/281474976710656%256)=_;rw[aL H0.out.2.1]
     rw[show E/281474976710656%256=((E.toNat/281474976710656%256:Nat):Int) by have:=H0.out;omega]at hown4;have h1:=PB.push (n:=(8*k+1)) HP.out (by rw[List.length_take,HLL.out,aA];omega) hown4 hgrow4 hg4;have h2:L.take (8*k+(1+1))=L.take (8*k+1)++[E.toNat/281474976710656%256]:=(List.take_add_one (l:=L) (i:=(8*k+1))).trans (by rw[hat];rfl);rw[h2];exact h1)
   clear HQ hown4 hgrow4 hg4 HP;go_roundw
   case rel=>exact⟨1+1,by omega,⟨_,_,rfl,HN⟩,by go_num⟩
   case measure=>simp[intOf]}
   {
   have HQ:=qA (PB.own (n:=(8*k+2)) HP.out (by rw[List.length_take,HLL.out,aA];omega));go_wp2_with (first|(at_builtin;refine aB rfl (.tmp 23) (.tmp 28) 22 rfl 5 (.int .u8 0) 1 Tryz.underlying22 Tryz.info5 rfl (.slice sa (8*k+2) sc) (8*k+2) (bF (L.take (8*k+2))) rfl (HQ.out _) wr.heap.size (.int .u8 (E/1099511627776%256)) rfl (aD _ _ _ _ rfl) rfl (by omega) (by decide) ?_;intro g' cap' w4 hown4 hgrow4 hg4)|fail)
   have HN:Hid (PB w w4 (.slice (some ⟨g', 0,none⟩) (8*k+(2+1)) cap') (L.take (8*k+(2+1)))):=qA (by
     have hat:L[(8*k+2)]? =some (E.toNat/1099511627776%256):=by rw[HLL.out,HK.out];show some (aX E/1099511627776%256)=_;rw[aL H0.out.2.1]
     rw[show E/1099511627776%256=((E.toNat/1099511627776%256:Nat):Int) by have:=H0.out;omega]at hown4;have h1:=PB.push (n:=(8*k+2)) HP.out (by rw[List.length_take,HLL.out,aA];omega) hown4 hgrow4 hg4;have h2:L.take (8*k+(2+1))=L.take (8*k+2)++[E.toNat/1099511627776%256]:=(List.take_add_one (l:=L) (i:=(8*k+2))).trans (by rw[hat];rfl);rw[h2];exact h1)
   clear HQ hown4 hgrow4 hg4 HP;go_roundw
   case rel=>exact⟨2+1,by omega,⟨_,_,rfl,HN⟩,by go_num⟩
   case measure=>simp[intOf]}
   {
   have HQ:=qA (PB.own (n:=(8*k+3)) HP.out (by rw[List.length_take,HLL.out,aA];omega));go_wp2_with (first|(at_builtin;refine aB rfl (.tmp 23) (.tmp 28) 22 rfl 5 (.int .u8 0) 1 Tryz.underlying22 Tryz.info5 rfl (.slice sa (8*k+3) sc) (8*k+3) (bF (L.take (8*k+3))) rfl (HQ.out _) wr.heap.size (.int .u8 (E/4294967296%256)) rfl (aD _ _ _ _ rfl) rfl (by omega) (by decide) ?_;intro g' cap' w4 hown4 hgrow4 hg4)|fail)
   have HN:Hid (PB w w4 (.slice (some ⟨g', 0,none⟩) (8*k+(3+1)) cap') (L.take (8*k+(3+1)))):=qA (by
     have hat:L[(8*k+3)]? =some (E.toNat/4294967296%256):=by rw[HLL.out,HK.out];show some (aX E/4294967296%256)=_;rw[aL H0.out.2.1]
     rw[show E/4294967296%256=((E.toNat/4294967296%256:Nat):Int) by have:=H0.out;omega]at hown4;have h1:=PB.push (n:=(8*k+3)) HP.out (by rw[List.length_take,HLL.out,aA];omega) hown4 hgrow4 hg4;have h2:L.take (8*k+(3+1))=L.take (8*k+3)++[E.toNat/4294967296%256]:=(List.take_add_one (l:=L) (i:=(8*k+3))).trans (by rw[hat];rfl);rw[h2];exact h1)
   clear HQ hown4 hgrow4 hg4 HP;go_roundw
   case rel=>exact⟨3+1,by omega,⟨_,_,rfl,HN⟩,by go_num⟩
   case measure=>simp[intOf]}
   {
   have HQ:=qA (PB.own (n:=(8*k+4)) HP.out (by rw[List.length_take,HLL.out,aA];omega));go_wp2_with (first|(at_builtin;refine aB rfl (.tmp 23) (.tmp 28) 22 rfl 5 (.int .u8 0) 1 Tryz.underlying22 Tryz.info5 rfl (.slice sa (8*k+4) sc) (8*k+4) (bF (L.take (8*k+4))) rfl (HQ.out _) wr.heap.size (.int .u8 (E/16777216%256)) rfl (aD _ _ _ _ rfl) rfl (by omega) (by decide) ?_;intro g' cap' w4 hown4 hgrow4 hg4)|fail)
   have HN:Hid (PB w w4 (.slice (some ⟨g', 0,none⟩) (8*k+(4+1)) cap') (L.take (8*k+(4+1)))):=qA (by
     have hat:L[(8*k+4)]? =some (E.toNat/16777216%256):=by rw[HLL.out,HK.out];show some (aX E/16777216%256)=_;rw[aL H0.out.2.1]
     rw[show E/16777216%256=((E.toNat/16777216%256:Nat):Int) by have:=H0.out;omega]at hown4;have h1:=PB.push (n:=(8*k+4)) HP.out (by rw[List.length_take,HLL.out,aA];omega) hown4 hgrow4 hg4;have h2:L.take (8*k+(4+1))=L.take (8*k+4)++[E.toNat/16777216%256]:=(List.take_add_one (l:=L) (i:=(8*k+4))).trans (by rw[hat];rfl);rw[h2];exact h1)
   clear HQ hown4 hgrow4 hg4 HP;go_roundw
   case rel=>exact⟨4+1,by omega,⟨_,_,rfl,HN⟩,by go_num⟩
   case measure=>simp[intOf]}
   {
   have HQ:=qA (PB.own (n:=(8*k+5)) HP.out (by rw[List.length_take,HLL.out,aA];omega));go_wp2_with (first|(at_builtin;refine aB rfl (.tmp 23) (.tmp 28) 22 rfl 5 (.int .u8 0) 1 Tryz.underlying22 Tryz.info5 rfl (.slice sa (8*k+5) sc) (8*k+5) (bF (L.take (8*k+5))) rfl (HQ.out _) wr.heap.size (.int .u8 (E/65536%256)) rfl (aD _ _ _ _ rfl) rfl (by omega) (by decide) ?_;intro g' cap' w4 hown4 hgrow4 hg4)|fail)
   have HN:Hid (PB w w4 (.slice (some ⟨g', 0,none⟩) (8*k+(5+1)) cap') (L.take (8*k+(5+1)))):=qA (by
     have hat:L[(8*k+5)]? =some (E.toNat/65536%256):=by rw[HLL.out,HK.out];show some (aX E/65536%256)=_;rw[aL H0.out.2.1]
     rw[show E/65536%256=((E.toNat/65536%256:Nat):Int) by have:=H0.out;omega]at hown4;have h1:=PB.push (n:=(8*k+5)) HP.out (by rw[List.length_take,HLL.out,aA];omega) hown4 hgrow4 hg4;have h2:L.take (8*k+(5+1))=L.take (8*k+5)++[E.toNat/65536%256]:=(List.take_add_one (l:=L) (i:=(8*k+5))).trans (by rw[hat];rfl);rw[h2];exact h1)
   clear HQ hown4 hgrow4 hg4 HP;go_roundw
   case rel=>exact⟨5+1,by omega,⟨_,_,rfl,HN⟩,by go_num⟩
   case measure=>simp[intOf]}
   {
   have HQ:=qA (PB.own (n:=(8*k+6)) HP.out (by rw[List.length_take,HLL.out,aA];omega));go_wp2_with (first|(at_builtin;refine aB rfl (.tmp 23) (.tmp 28) 22 rfl 5 (.int .u8 0) 1 Tryz.underlying22 Tryz.info5 rfl (.slice sa (8*k+6) sc) (8*k+6) (bF (L.take (8*k+6))) rfl (HQ.out _) wr.heap.size (.int .u8 (E/256%256)) rfl (aD _ _ _ _ rfl) rfl (by omega) (by decide) ?_;intro g' cap' w4 hown4 hgrow4 hg4)|fail)
   have HN:Hid (PB w w4 (.slice (some ⟨g', 0,none⟩) (8*k+(6+1)) cap') (L.take (8*k+(6+1)))):=qA (by
     have hat:L[(8*k+6)]? =some (E.toNat/256%256):=by rw[HLL.out,HK.out];show some (aX E/256%256)=_;rw[aL H0.out.2.1]
     rw[show E/256%256=((E.toNat/256%256:Nat):Int) by have:=H0.out;omega]at hown4;have h1:=PB.push (n:=(8*k+6)) HP.out (by rw[List.length_take,HLL.out,aA];omega) hown4 hgrow4 hg4;have h2:L.take (8*k+(6+1))=L.take (8*k+6)++[E.toNat/256%256]:=(List.take_add_one (l:=L) (i:=(8*k+6))).trans (by rw[hat];rfl);rw[h2];exact h1)
   clear HQ hown4 hgrow4 hg4 HP;go_roundw
   case rel=>exact⟨6+1,by omega,⟨_,_,rfl,HN⟩,by go_num⟩
   case measure=>simp[intOf]}
   {
   have HQ:=qA (PB.own (n:=(8*k+7)) HP.out (by rw[List.length_take,HLL.out,aA];omega));go_wp2_with (first|(at_builtin;refine aB rfl (.tmp 23) (.tmp 28) 22 rfl 5 (.int .u8 0) 1 Tryz.underlying22 Tryz.info5 rfl (.slice sa (8*k+7) sc) (8*k+7) (bF (L.take (8*k+7))) rfl (HQ.out _) wr.heap.size (.int .u8 (E%256)) rfl (aD _ _ _ _ rfl) rfl (by omega) (by decide) ?_;intro g' cap' w4 hown4 hgrow4 hg4)|fail)
   have HN:Hid (PB w w4 (.slice (some ⟨g', 0,none⟩) (8*k+(7+1)) cap') (L.take (8*k+(7+1)))):=qA (by
     have hat:L[(8*k+7)]? =some (E.toNat/1%256):=by rw[HLL.out,HK.out];show some (aX E/1%256)=_;rw[aL H0.out.2.1]
     rw[show E%256=((E.toNat/1%256:Nat):Int) by have:=H0.out;omega]at hown4;have h1:=PB.push (n:=(8*k+7)) HP.out (by rw[List.length_take,HLL.out,aA];omega) hown4 hgrow4 hg4;have h2:L.take (8*k+(7+1))=L.take (8*k+7)++[E.toNat/1%256]:=(List.take_add_one (l:=L) (i:=(8*k+7))).trans (by rw[hat];rfl);rw[h2];exact h1)
   clear HQ hown4 hgrow4 hg4 HP;go_roundw
   case rel=>exact⟨7+1,by omega,⟨_,_,rfl,HN⟩,by go_num⟩
   case measure=>simp[intOf]}}
   {
   obtain rfl:j=8:=by omega
   have HN:=qA (show PB w wr (.slice sa (8*(k+1)) sc) (L.take (8*(k+1))) from HP.out);clear HP;go_wp2_with fail
   go_roundw
   case rel=>exact⟨k+1,by omega,⟨_,_,rfl,HN⟩,by go_num⟩
   case measure=>simp[intOf];omega}}
  {
  have hidx:∀w,(Instr.index 115 (.agg #[.int .i64 m,.int .i64 E,.int .i64 V,.int .i64 D]) (.int .i64 (k:Int))).run Tryz.prog w=.ok (.int .i64 V) w:=by rw[hk'];exact aRX m E V D
  have HK:=qA hk';clear hk';go_wp2_with fail
  clear hidx;go_loopw [5,8] (fun c1 c2 wr=>∃j:Nat,j<=8/\(∃sa sc,c1=.slice sa (8*k+j) sc/\Hid (PB w wr (.slice sa (8*k+j) sc) (L.take (8*k+j))))/\c2=.int .i64 (56-8*(j:Int))) (fun _ c _=>((intOf c)+8).toNat)
  case atStart=>exact⟨0,by omega,⟨_,_,rfl,HP⟩,rfl⟩
  case round=>
   clear HP;obtain⟨j,hj,⟨sa,sc,rfl,HP⟩,rfl⟩:=hrel;rename World=>wr
   by_cases hlt:j<8
   {
   have hj8:j=0∨j=1∨j=2∨j=3∨j=4∨j=5∨j=6∨j=7:=by omega
   rcases hj8 with rfl|rfl|rfl|rfl|rfl|rfl|rfl|rfl
   {
   have HQ:=qA (PB.own (n:=(8*k+0)) HP.out (by rw[List.length_take,HLL.out,aA];omega));go_wp2_with (first|(at_builtin;refine aB rfl (.tmp 23) (.tmp 28) 22 rfl 5 (.int .u8 0) 1 Tryz.underlying22 Tryz.info5 rfl (.slice sa (8*k+0) sc) (8*k+0) (bF (L.take (8*k+0))) rfl (HQ.out _) wr.heap.size (.int .u8 (V/72057594037927936%256)) rfl (aD _ _ _ _ rfl) rfl (by omega) (by decide) ?_;intro g' cap' w4 hown4 hgrow4 hg4)|fail)
   have HN:Hid (PB w w4 (.slice (some ⟨g', 0,none⟩) (8*k+(0+1)) cap') (L.take (8*k+(0+1)))):=qA (by
     have hat:L[(8*k+0)]? =some (V.toNat/72057594037927936%256):=by rw[HLL.out,HK.out];show some (aX V/72057594037927936%256)=_;rw[aL H0.out.2.2.1]
     rw[show V/72057594037927936%256=((V.toNat/72057594037927936%256:Nat):Int) by have:=H0.out;omega]at hown4;have h1:=PB.push (n:=(8*k+0)) HP.out (by rw[List.length_take,HLL.out,aA];omega) hown4 hgrow4 hg4;have h2:L.take (8*k+(0+1))=L.take (8*k+0)++[V.toNat/72057594037927936%256]:=(List.take_add_one (l:=L) (i:=(8*k+0))).trans (by rw[hat];rfl);rw[h2];exact h1)
   clear HQ hown4 hgrow4 hg4 HP;go_roundw
   case rel=>exact⟨0+1,by omega,⟨_,_,rfl,HN⟩,by go_num⟩
   case measure=>simp[intOf]}
   {
   have HQ:=qA (PB.own (n:=(8*k+1)) HP.out (by rw[List.length_take,HLL.out,aA];omega));go_wp2_with (first|(at_builtin;refine aB rfl (.tmp 23) (.tmp 28) 22 rfl 5 (.int .u8 0) 1 Tryz.underlying22 Tryz.info5 rfl (.slice sa (8*k+1) sc) (8*k+1) (bF (L.take (8*k+1))) rfl (HQ.out _) wr.heap.size (.int .u8 (V/281474976710656%256)) rfl (aD _ _ _ _ rfl) rfl (by omega) (by decide) ?_;intro g' cap' w4 hown4 hgrow4 hg4)|fail)
   have HN:Hid (PB w w4 (.slice (some ⟨g', 0,none⟩) (8*k+(1+1)) cap') (L.take (8*k+(1+1)))):=qA (by
     have hat:L[(8*k+1)]? =some (V.toNat/281474976710656%256):=by rw[HLL.out,HK.out];show some (aX V/281474976710656%256)=_;rw[aL H0.out.2.2.1]
     rw[show V/281474976710656%256=((V.toNat/281474976710656%256:Nat):Int) by have:=H0.out;omega]at hown4;have h1:=PB.push (n:=(8*k+1)) HP.out (by rw[List.length_take,HLL.out,aA];omega) hown4 hgrow4 hg4;have h2:L.take (8*k+(1+1))=L.take (8*k+1)++[V.toNat/281474976710656%256]:=(List.take_add_one (l:=L) (i:=(8*k+1))).trans (by rw[hat];rfl);rw[h2];exact h1)
   clear HQ hown4 hgrow4 hg4 HP;go_roundw
   case rel=>exact⟨1+1,by omega,⟨_,_,rfl,HN⟩,by go_num⟩
   case measure=>simp[intOf]}
   {
   have HQ:=qA (PB.own (n:=(8*k+2)) HP.out (by rw[List.length_take,HLL.out,aA];omega));go_wp2_with (first|(at_builtin;refine aB rfl (.tmp 23) (.tmp 28) 22 rfl 5 (.int .u8 0) 1 Tryz.underlying22 Tryz.info5 rfl (.slice sa (8*k+2) sc) (8*k+2) (bF (L.take (8*k+2))) rfl (HQ.out _) wr.heap.size (.int .u8 (V/1099511627776%256)) rfl (aD _ _ _ _ rfl) rfl (by omega) (by decide) ?_;intro g' cap' w4 hown4 hgrow4 hg4)|fail)
   have HN:Hid (PB w w4 (.slice (some ⟨g', 0,none⟩) (8*k+(2+1)) cap') (L.take (8*k+(2+1)))):=qA (by
     have hat:L[(8*k+2)]? =some (V.toNat/1099511627776%256):=by rw[HLL.out,HK.out];show some (aX V/1099511627776%256)=_;rw[aL H0.out.2.2.1]
     rw[show V/1099511627776%256=((V.toNat/1099511627776%256:Nat):Int) by have:=H0.out;omega]at hown4;have h1:=PB.push (n:=(8*k+2)) HP.out (by rw[List.length_take,HLL.out,aA];omega) hown4 hgrow4 hg4;have h2:L.take (8*k+(2+1))=L.take (8*k+2)++[V.toNat/1099511627776%256]:=(List.take_add_one (l:=L) (i:=(8*k+2))).trans (by rw[hat];rfl);rw[h2];exact h1)
   clear HQ hown4 hgrow4 hg4 HP;go_roundw
   case rel=>exact⟨2+1,by omega,⟨_,_,rfl,HN⟩,by go_num⟩
   case measure=>simp[intOf]}
   {
   have HQ:=qA (PB.own (n:=(8*k+3)) HP.out (by rw[List.length_take,HLL.out,aA];omega));go_wp2_with (first|(at_builtin;refine aB rfl (.tmp 23) (.tmp 28) 22 rfl 5 (.int .u8 0) 1 Tryz.underlying22 Tryz.info5 rfl (.slice sa (8*k+3) sc) (8*k+3) (bF (L.take (8*k+3))) rfl (HQ.out _) wr.heap.size (.int .u8 (V/4294967296%256)) rfl (aD _ _ _ _ rfl) rfl (by omega) (by decide) ?_;intro g' cap' w4 hown4 hgrow4 hg4)|fail)
   have HN:Hid (PB w w4 (.slice (some ⟨g', 0,none⟩) (8*k+(3+1)) cap') (L.take (8*k+(3+1)))):=qA (by
     have hat:L[(8*k+3)]? =some (V.toNat/4294967296%256):=by rw[HLL.out,HK.out];show some (aX V/4294967296%256)=_;rw[aL H0.out.2.2.1]
     rw[show V/4294967296%256=((V.toNat/4294967296%256:Nat):Int) by have:=H0.out;omega]at hown4;have h1:=PB.push (n:=(8*k+3)) HP.out (by rw[List.length_take,HLL.out,aA];omega) hown4 hgrow4 hg4;have h2:L.take (8*k+(3+1))=L.take (8*k+3)++[V.toNat/4294967296%256]:=(List.take_add_one (l:=L) (i:=(8*k+3))).trans (by rw[hat];rfl);rw[h2];exact h1)
   clear HQ hown4 hgrow4 hg4 HP;go_roundw
   case rel=>exact⟨3+1,by omega,⟨_,_,rfl,HN⟩,by go_num⟩
   case measure=>simp[intOf]}
   {
   have HQ:=qA (PB.own (n:=(8*k+4)) HP.out (by rw[List.length_take,HLL.out,aA];omega));go_wp2_with (first|(at_builtin;refine aB rfl (.tmp 23) (.tmp 28) 22 rfl 5 (.int .u8 0) 1 Tryz.underlying22 Tryz.info5 rfl (.slice sa (8*k+4) sc) (8*k+4) (bF (L.take (8*k+4))) rfl (HQ.out _) wr.heap.size (.int .u8 (V/16777216%256)) rfl (aD _ _ _ _ rfl) rfl (by omega) (by decide) ?_;intro g' cap' w4 hown4 hgrow4 hg4)|fail)
   have HN:Hid (PB w w4 (.slice (some ⟨g', 0,none⟩) (8*k+(4+1)) cap') (L.take (8*k+(4+1)))):=qA (by
     have hat:L[(8*k+4)]? =some (V.toNat/16777216%256):=by rw[HLL.out,HK.out];show some (aX V/16777216%256)=_;rw[aL H0.out.2.2.1]
     rw[show V/16777216%256=((V.toNat/16777216%256:Nat):Int) by have:=H0.out;omega]at hown4;have h1:=PB.push (n:=(8*k+4)) HP.out (by rw[List.length_take,HLL.out,aA];omega) hown4 hgrow4 hg4;have h2:L.take (8*k+(4+1))=L.take (8*k+4)++[V.toNat/16777216%256]:=(List.take_add_one (l:=L) (i:=(8*k+4))).trans (by rw[hat];rfl);rw[h2];exact h1)
   clear HQ hown4 hgrow4 hg4 HP;go_roundw
   case rel=>exact⟨4+1,by omega,⟨_,_,rfl,HN⟩,by go_num⟩
   case measure=>simp[intOf]}
   {
   have HQ:=qA (PB.own (n:=(8*k+5)) HP.out (by rw[List.length_take,HLL.out,aA];omega));go_wp2_with (first|(at_builtin;refine aB rfl (.tmp 23) (.tmp 28) 22 rfl 5 (.int .u8 0) 1 Tryz.underlying22 Tryz.info5 rfl (.slice sa (8*k+5) sc) (8*k+5) (bF (L.take (8*k+5))) rfl (HQ.out _) wr.heap.size (.int .u8 (V/65536%256)) rfl (aD _ _ _ _ rfl) rfl (by omega) (by decide) ?_;intro g' cap' w4 hown4 hgrow4 hg4)|fail)
   have HN:Hid (PB w w4 (.slice (some ⟨g', 0,none⟩) (8*k+(5+1)) cap') (L.take (8*k+(5+1)))):=qA (by
     have hat:L[(8*k+5)]? =some (V.toNat/65536%256):=by rw[HLL.out,HK.out];show some (aX V/65536%256)=_;rw[aL H0.out.2.2.1]
     rw[show V/65536%256=((V.toNat/65536%256:Nat):Int) by have:=H0.out;omega]at hown4;have h1:=PB.push (n:=(8*k+5)) HP.out (by rw[List.length_take,HLL.out,aA];omega) hown4 hgrow4 hg4;have h2:L.take (8*k+(5+1))=L.take (8*k+5)++[V.toNat/65536%256]:=(List.take_add_one (l:=L) (i:=(8*k+5))).trans (by rw[hat];rfl);rw[h2];exact h1)
   clear HQ hown4 hgrow4 hg4 HP;go_roundw
   case rel=>exact⟨5+1,by omega,⟨_,_,rfl,HN⟩,by go_num⟩
   case measure=>simp[intOf]}
   {
   have HQ:=qA (PB.own (n:=(8*k+6)) HP.out (by rw[List.length_take,HLL.out,aA];omega));go_wp2_with (first|(at_builtin;refine aB rfl (.tmp 23) (.tmp 28) 22 rfl 5 (.int .u8 0) 1 Tryz.underlying22 Tryz.info5 rfl (.slice sa (8*k+6) sc) (8*k+6) (bF (L.take (8*k+6))) rfl (HQ.out _) wr.heap.size (.int .u8 (V/256%256)) rfl (aD _ _ _ _ rfl) rfl (by omega) (by decide) ?_;intro g' cap' w4 hown4 hgrow4 hg4)|fail)
   have HN:Hid (PB w w4 (.slice (some ⟨g', 0,none⟩) (8*k+(6+1)) cap') (L.take (8*k+(6+1)))):=qA (by
     have hat:L[(8*k+6)]? =some (V.toNat/256%256):=by rw[HLL.out,HK.out];show some (aX V/256%256)=_;rw[aL H0.out.2.2.1]
     rw[show V/256%256=((V.toNat/256%256:Nat):Int) by have:=H0.out;omega]at hown4;have h1:=PB.push (n:=(8*k+6)) HP.out (by rw[List.length_take,HLL.out,aA];omega) hown4 hgrow4 hg4;have h2:L.take (8*k+(6+1))=L.take (8*k+6)++[V.toNat/256%256]:=(List.take_add_one (l:=L) (i:=(8*k+6))).trans (by rw[hat];rfl);rw[h2];exact h1)
   clear HQ hown4 hgrow4 hg4 HP;go_roundw
   case rel=>exact⟨6+1,by omega,⟨_,_,rfl,HN⟩,by go_num⟩
   case measure=>simp[intOf]}
   {
   have HQ:=qA (PB.own (n:=(8*k+7)) HP.out (by rw[List.length_take,HLL.out,aA];omega));go_wp2_with (first|(at_builtin;refine aB rfl (.tmp 23) (.tmp 28) 22 rfl 5 (.int .u8 0) 1 Tryz.underlying22 Tryz.info5 rfl (.slice sa (8*k+7) sc) (8*k+7) (bF (L.take (8*k+7))) rfl (HQ.out _) wr.heap.size (.int .u8 (V%256)) rfl (aD _ _ _ _ rfl) rfl (by omega) (by decide) ?_;intro g' cap' w4 hown4 hgrow4 hg4)|fail)
   have HN:Hid (PB w w4 (.slice (some ⟨g', 0,none⟩) (8*k+(7+1)) cap') (L.take (8*k+(7+1)))):=qA (by
     have hat:L[(8*k+7)]? =some (V.toNat/1%256):=by rw[HLL.out,HK.out];show some (aX V/1%256)=_;rw[aL H0.out.2.2.1]
     rw[show V%256=((V.toNat/1%256:Nat):Int) by have:=H0.out;omega]at hown4;have h1:=PB.push (n:=(8*k+7)) HP.out (by rw[List.length_take,HLL.out,aA];omega) hown4 hgrow4 hg4;have h2:L.take (8*k+(7+1))=L.take (8*k+7)++[V.toNat/1%256]:=(List.take_add_one (l:=L) (i:=(8*k+7))).trans (by rw[hat];rfl);rw[h2];exact h1)
   clear HQ hown4 hgrow4 hg4 HP;go_roundw
   case rel=>exact⟨7+1,by omega,⟨_,_,rfl,HN⟩,by go_num⟩
   case measure=>simp[intOf]}}
   {
   obtain rfl:j=8:=by omega
   have HN:=qA (show PB w wr (.slice sa (8*(k+1)) sc) (L.take (8*(k+1))) from HP.out);clear HP;go_wp2_with fail
   go_roundw
   case rel=>exact⟨k+1,by omega,⟨_,_,rfl,HN⟩,by go_num⟩
   case measure=>simp[intOf];omega}}
  {
  have hidx:∀w,(Instr.index 115 (.agg #[.int .i64 m,.int .i64 E,.int .i64 V,.int .i64 D]) (.int .i64 (k:Int))).run Tryz.prog w=.ok (.int .i64 D) w:=by rw[hk'];exact aRY m E V D
  have HK:=qA hk';clear hk';go_wp2_with fail
  clear hidx;go_loopw [5,8] (fun c1 c2 wr=>∃j:Nat,j<=8/\(∃sa sc,c1=.slice sa (8*k+j) sc/\Hid (PB w wr (.slice sa (8*k+j) sc) (L.take (8*k+j))))/\c2=.int .i64 (56-8*(j:Int))) (fun _ c _=>((intOf c)+8).toNat)
  case atStart=>exact⟨0,by omega,⟨_,_,rfl,HP⟩,rfl⟩
  case round=>
   clear HP;obtain⟨j,hj,⟨sa,sc,rfl,HP⟩,rfl⟩:=hrel;rename World=>wr
   by_cases hlt:j<8
   {
   have hj8:j=0∨j=1∨j=2∨j=3∨j=4∨j=5∨j=6∨j=7:=by omega
   rcases hj8 with rfl|rfl|rfl|rfl|rfl|rfl|rfl|rfl
   {
   have HQ:=qA (PB.own (n:=(8*k+0)) HP.out (by rw[List.length_take,HLL.out,aA];omega));go_wp2_with (first|(at_builtin;refine aB rfl (.tmp 23) (.tmp 28) 22 rfl 5 (.int .u8 0) 1 Tryz.underlying22 Tryz.info5 rfl (.slice sa (8*k+0) sc) (8*k+0) (bF (L.take (8*k+0))) rfl (HQ.out _) wr.heap.size (.int .u8 (D/72057594037927936%256)) rfl (aD _ _ _ _ rfl) rfl (by omega) (by decide) ?_;intro g' cap' w4 hown4 hgrow4 hg4)|fail)
   have HN:Hid (PB w w4 (.slice (some ⟨g', 0,none⟩) (8*k+(0+1)) cap') (L.take (8*k+(0+1)))):=qA (by
     have hat:L[(8*k+0)]? =some (D.toNat/72057594037927936%256):=by rw[HLL.out,HK.out];show some (aX D/72057594037927936%256)=_;rw[aL H0.out.2.2.2]
     rw[show D/72057594037927936%256=((D.toNat/72057594037927936%256:Nat):Int) by have:=H0.out;omega]at hown4;have h1:=PB.push (n:=(8*k+0)) HP.out (by rw[List.length_take,HLL.out,aA];omega) hown4 hgrow4 hg4;have h2:L.take (8*k+(0+1))=L.take (8*k+0)++[D.toNat/72057594037927936%256]:=(List.take_add_one (l:=L) (i:=(8*k+0))).trans (by rw[hat];rfl);rw[h2];exact h1)
   clear HQ hown4 hgrow4 hg4 HP;go_roundw
   case rel=>exact⟨0+1,by omega,⟨_,_,rfl,HN⟩,by go_num⟩
   case measure=>simp[intOf]}
   {
   have HQ:=qA (PB.own (n:=(8*k+1)) HP.out (by rw[List.length_take,HLL.out,aA];omega));go_wp2_with (first|(at_builtin;refine aB rfl (.tmp 23) (.tmp 28) 22 rfl 5 (.int .u8 0) 1 Tryz.underlying22 Tryz.info5 rfl (.slice sa (8*k+1) sc) (8*k+1) (bF (L.take (8*k+1))) rfl (HQ.out _) wr.heap.size (.int .u8 (D/281474976710656%256)) rfl (aD _ _ _ _ rfl) rfl (by omega) (by decide) ?_;intro g' cap' w4 hown4 hgrow4 hg4)|fail)
   have HN:Hid (PB w w4 (.slice (some ⟨g', 0,none⟩) (8*k+(1+1)) cap') (L.take (8*k+(1+1)))):=qA (by
     have hat:L[(8*k+1)]? =some (D.toNat/281474976710656%256):=by rw[HLL.out,HK.out];show some (aX D/281474976710656%256)=_;rw[aL H0.out.2.2.2]
     rw[show D/281474976710656%256=((D.toNat/281474976710656%256:Nat):Int) by have:=H0.out;omega]at hown4;have h1:=PB.push (n:=(8*k+1)) HP.out (by rw[List.length_take,HLL.out,aA];omega) hown4 hgrow4 hg4;have h2:L.take (8*k+(1+1))=L.take (8*k+1)++[D.toNat/281474976710656%256]:=(List.take_add_one (l:=L) (i:=(8*k+1))).trans (by rw[hat];rfl);rw[h2];exact h1)
   clear HQ hown4 hgrow4 hg4 HP;go_roundw
   case rel=>exact⟨1+1,by omega,⟨_,_,rfl,HN⟩,by go_num⟩
   case measure=>simp[intOf]}
   {
   have HQ:=qA (PB.own (n:=(8*k+2)) HP.out (by rw[List.length_take,HLL.out,aA];omega));go_wp2_with (first|(at_builtin;refine aB rfl (.tmp 23) (.tmp 28) 22 rfl 5 (.int .u8 0) 1 Tryz.underlying22 Tryz.info5 rfl (.slice sa (8*k+2) sc) (8*k+2) (bF (L.take (8*k+2))) rfl (HQ.out _) wr.heap.size (.int .u8 (D/1099511627776%256)) rfl (aD _ _ _ _ rfl) rfl (by omega) (by decide) ?_;intro g' cap' w4 hown4 hgrow4 hg4)|fail)
   have HN:Hid (PB w w4 (.slice (some ⟨g', 0,none⟩) (8*k+(2+1)) cap') (L.take (8*k+(2+1)))):=qA (by
     have hat:L[(8*k+2)]? =some (D.toNat/1099511627776%256):=by rw[HLL.out,HK.out];show some (aX D/1099511627776%256)=_;rw[aL H0.out.2.2.2]
     rw[show D/1099511627776%256=((D.toNat/1099511627776%256:Nat):Int) by have:=H0.out;omega]at hown4;have h1:=PB.push (n:=(8*k+2)) HP.out (by rw[List.length_take,HLL.out,aA];omega) hown4 hgrow4 hg4;have h2:L.take (8*k+(2+1))=L.take (8*k+2)++[D.toNat/1099511627776%256]:=(List.take_add_one (l:=L) (i:=(8*k+2))).trans (by rw[hat];rfl);rw[h2];exact h1)
   clear HQ hown4 hgrow4 hg4 HP;go_roundw
   case rel=>exact⟨2+1,by omega,⟨_,_,rfl,HN⟩,by go_num⟩
   case measure=>simp[intOf]}
   {
   have HQ:=qA (PB.own (n:=(8*k+3)) HP.out (by rw[List.length_take,HLL.out,aA];omega));go_wp2_with (first|(at_builtin;refine aB rfl (.tmp 23) (.tmp 28) 22 rfl 5 (.int .u8 0) 1 Tryz.underlying22 Tryz.info5 rfl (.slice sa (8*k+3) sc) (8*k+3) (bF (L.take (8*k+3))) rfl (HQ.out _) wr.heap.size (.int .u8 (D/4294967296%256)) rfl (aD _ _ _ _ rfl) rfl (by omega) (by decide) ?_;intro g' cap' w4 hown4 hgrow4 hg4)|fail)
   have HN:Hid (PB w w4 (.slice (some ⟨g', 0,none⟩) (8*k+(3+1)) cap') (L.take (8*k+(3+1)))):=qA (by
     have hat:L[(8*k+3)]? =some (D.toNat/4294967296%256):=by rw[HLL.out,HK.out];show some (aX D/4294967296%256)=_;rw[aL H0.out.2.2.2]
     rw[show D/4294967296%256=((D.toNat/4294967296%256:Nat):Int) by have:=H0.out;omega]at hown4;have h1:=PB.push (n:=(8*k+3)) HP.out (by rw[List.length_take,HLL.out,aA];omega) hown4 hgrow4 hg4;have h2:L.take (8*k+(3+1))=L.take (8*k+3)++[D.toNat/4294967296%256]:=(List.take_add_one (l:=L) (i:=(8*k+3))).trans (by rw[hat];rfl);rw[h2];exact h1)
   clear HQ hown4 hgrow4 hg4 HP;go_roundw
   case rel=>exact⟨3+1,by omega,⟨_,_,rfl,HN⟩,by go_num⟩
   case measure=>simp[intOf]}
   {
   have HQ:=qA (PB.own (n:=(8*k+4)) HP.out (by rw[List.length_take,HLL.out,aA];omega));go_wp2_with (first|(at_builtin;refine aB rfl (.tmp 23) (.tmp 28) 22 rfl 5 (.int .u8 0) 1 Tryz.underlying22 Tryz.info5 rfl (.slice sa (8*k+4) sc) (8*k+4) (bF (L.take (8*k+4))) rfl (HQ.out _) wr.heap.size (.int .u8 (D/16777216%256)) rfl (aD _ _ _ _ rfl) rfl (by omega) (by decide) ?_;intro g' cap' w4 hown4 hgrow4 hg4)|fail)
   have HN:Hid (PB w w4 (.slice (some ⟨g', 0,none⟩) (8*k+(4+1)) cap') (L.take (8*k+(4+1)))):=qA (by
     have hat:L[(8*k+4)]? =some (D.toNat/16777216%256):=by rw[HLL.out,HK.out];show some (aX D/16777216%256)=_;rw[aL H0.out.2.2.2]
     rw[show D/16777216%256=((D.toNat/16777216%256:Nat):Int) by have:=H0.out;omega]at hown4;have h1:=PB.push (n:=(8*k+4)) HP.out (by rw[List.length_take,HLL.out,aA];omega) hown4 hgrow4 hg4;have h2:L.take (8*k+(4+1))=L.take (8*k+4)++[D.toNat/16777216%256]:=(List.take_add_one (l:=L) (i:=(8*k+4))).trans (by rw[hat];rfl);rw[h2];exact h1)
   clear HQ hown4 hgrow4 hg4 HP;go_roundw
   case rel=>exact⟨4+1,by omega,⟨_,_,rfl,HN⟩,by go_num⟩
   case measure=>simp[intOf]}
   {
   have HQ:=qA (PB.own (n:=(8*k+5)) HP.out (by rw[List.length_take,HLL.out,aA];omega));go_wp2_with (first|(at_builtin;refine aB rfl (.tmp 23) (.tmp 28) 22 rfl 5 (.int .u8 0) 1 Tryz.underlying22 Tryz.info5 rfl (.slice sa (8*k+5) sc) (8*k+5) (bF (L.take (8*k+5))) rfl (HQ.out _) wr.heap.size (.int .u8 (D/65536%256)) rfl (aD _ _ _ _ rfl) rfl (by omega) (by decide) ?_;intro g' cap' w4 hown4 hgrow4 hg4)|fail)
   have HN:Hid (PB w w4 (.slice (some ⟨g', 0,none⟩) (8*k+(5+1)) cap') (L.take (8*k+(5+1)))):=qA (by
     have hat:L[(8*k+5)]? =some (D.toNat/65536%256):=by rw[HLL.out,HK.out];show some (aX D/65536%256)=_;rw[aL H0.out.2.2.2]
     rw[show D/65536%256=((D.toNat/65536%256:Nat):Int) by have:=H0.out;omega]at hown4;have h1:=PB.push (n:=(8*k+5)) HP.out (by rw[List.length_take,HLL.out,aA];omega) hown4 hgrow4 hg4;have h2:L.take (8*k+(5+1))=L.take (8*k+5)++[D.toNat/65536%256]:=(List.take_add_one (l:=L) (i:=(8*k+5))).trans (by rw[hat];rfl);rw[h2];exact h1)
   clear HQ hown4 hgrow4 hg4 HP;go_roundw
   case rel=>exact⟨5+1,by omega,⟨_,_,rfl,HN⟩,by go_num⟩
   case measure=>simp[intOf]}
   {
   have HQ:=qA (PB.own (n:=(8*k+6)) HP.out (by rw[List.length_take,HLL.out,aA];omega));go_wp2_with (first|(at_builtin;refine aB rfl (.tmp 23) (.tmp 28) 22 rfl 5 (.int .u8 0) 1 Tryz.underlying22 Tryz.info5 rfl (.slice sa (8*k+6) sc) (8*k+6) (bF (L.take (8*k+6))) rfl (HQ.out _) wr.heap.size (.int .u8 (D/256%256)) rfl (aD _ _ _ _ rfl) rfl (by omega) (by decide) ?_;intro g' cap' w4 hown4 hgrow4 hg4)|fail)
   have HN:Hid (PB w w4 (.slice (some ⟨g', 0,none⟩) (8*k+(6+1)) cap') (L.take (8*k+(6+1)))):=qA (by
     have hat:L[(8*k+6)]? =some (D.toNat/256%256):=by rw[HLL.out,HK.out];show some (aX D/256%256)=_;rw[aL H0.out.2.2.2]
     rw[show D/256%256=((D.toNat/256%256:Nat):Int) by have:=H0.out;omega]at hown4;have h1:=PB.push (n:=(8*k+6)) HP.out (by rw[List.length_take,HLL.out,aA];omega) hown4 hgrow4 hg4;have h2:L.take (8*k+(6+1))=L.take (8*k+6)++[D.toNat/256%256]:=(List.take_add_one (l:=L) (i:=(8*k+6))).trans (by rw[hat];rfl);rw[h2];exact h1)
   clear HQ hown4 hgrow4 hg4 HP;go_roundw
   case rel=>exact⟨6+1,by omega,⟨_,_,rfl,HN⟩,by go_num⟩
   case measure=>simp[intOf]}
   {
   have HQ:=qA (PB.own (n:=(8*k+7)) HP.out (by rw[List.length_take,HLL.out,aA];omega));go_wp2_with (first|(at_builtin;refine aB rfl (.tmp 23) (.tmp 28) 22 rfl 5 (.int .u8 0) 1 Tryz.underlying22 Tryz.info5 rfl (.slice sa (8*k+7) sc) (8*k+7) (bF (L.take (8*k+7))) rfl (HQ.out _) wr.heap.size (.int .u8 (D%256)) rfl (aD _ _ _ _ rfl) rfl (by omega) (by decide) ?_;intro g' cap' w4 hown4 hgrow4 hg4)|fail)
   have HN:Hid (PB w w4 (.slice (some ⟨g', 0,none⟩) (8*k+(7+1)) cap') (L.take (8*k+(7+1)))):=qA (by
     have hat:L[(8*k+7)]? =some (D.toNat/1%256):=by rw[HLL.out,HK.out];show some (aX D/1%256)=_;rw[aL H0.out.2.2.2]
     rw[show D%256=((D.toNat/1%256:Nat):Int) by have:=H0.out;omega]at hown4;have h1:=PB.push (n:=(8*k+7)) HP.out (by rw[List.length_take,HLL.out,aA];omega) hown4 hgrow4 hg4;have h2:L.take (8*k+(7+1))=L.take (8*k+7)++[D.toNat/1%256]:=(List.take_add_one (l:=L) (i:=(8*k+7))).trans (by rw[hat];rfl);rw[h2];exact h1)
   clear HQ hown4 hgrow4 hg4 HP;go_roundw
   case rel=>exact⟨7+1,by omega,⟨_,_,rfl,HN⟩,by go_num⟩
   case measure=>simp[intOf]}}
   {
   obtain rfl:j=8:=by omega
   have HN:=qA (show PB w wr (.slice sa (8*(k+1)) sc) (L.take (8*(k+1))) from HP.out);clear HP;go_wp2_with fail
   go_roundw
   case rel=>exact⟨k+1,by omega,⟨_,_,rfl,HN⟩,by go_num⟩
   case measure=>simp[intOf];omega}}}
  {
  obtain rfl:k=4:=by omega
  have hPB:PB w wr (.slice sa 32 sc) (L.take 32):=HP.out;rw[show L.take 32=jD m E V D by rw[HLL.out];exact List.take_of_length_le (by rw[aA];exact qK _)]at hPB;have HFin:=qA hPB;clear HP hPB;go_wp2
  go_ret2;exact⟨_,rfl,HFin.out.1,HFin.out.2.1,HFin.out.2.2⟩}
def PA(w:World)(v:Value)(wr:World)(b:Value)(l:List Nat):Prop:=cX wr b l/\(∀q,b.ownBlock=some q->v.ownBlock=some q∨w.heap.size<=q)/\Fr v.ownBlock.toList w wr
theorem PA.own{w wr:World}{v:Value}{a:Option Addr}{n c:Nat}{l:List Nat}(h:PA w v wr (.slice a n c) l)(hn:l.length=n):∀o,World.ownsRow (wr.alloc o) 0 5 1 (.slice a n c) n (bF l):=fun o=>by
 have:=h.1.fr0 ((Fr.refl [] wr).alloc o);unfold cX at this;rw[hn]at this;exact this
theorem PA.push{w wr w4:World}{v:Value}{a:Option Addr}{n c g c' :Nat}{l:List Nat}{b:Nat}{o:Obj}(h:PA w v wr (.slice a n c) l)(hn:l.length=n)(hown:w4.ownsRow 0 5 1 (.slice (some ⟨g,0,none⟩) (n+1) c') (n+1) (bF l++[.int .u8 (b:Int)]))(hgrow:(wr.alloc o).grownBy w4 (Value.slice a n c).ownBlock)(hg:(Value.slice a n c).ownBlock=some g∨(wr.alloc o).heap.size<=g):
    PA w v w4 (.slice (some ⟨g,0,none⟩) (n+1) c') (l++[b]):=by
 have hF:Fr (Value.slice a n c).ownBlock.toList wr w4:=((Fr.refl _ _).alloc _).grown hgrow (fun q e=>.inl (by simp[e]));have hs:=h.2.2.size;simp only[World.size_alloc]at hg;refine⟨?_,fun q e=>?_,h.2.2.trans hF (fun q hq=>?_)⟩
 {
 unfold cX;rw[zF,hn,oJ];exact hown}
 {
 simp only[Value.ownBlock,qI]at e;subst e;rcases hg with e|e
 · exact h.2.1 _ e
 · exact .inr (by omega)}
 · exact(h.2.1 q (by simpa using hq)).imp (fun e=>by simp[e]) id
theorem aRZ{w:World}{v:Value}{l ns:List Nat}{nb sz cn:Nat}(hv:cX w v l)(hb:Blk w nb 36 (ns.map fun x:Nat=>.int .u64 (x:Int)))(hne:v.ownBlock≠some nb)(hsz:sz<=8)(hl:l.length+8*ns.length<=1073741824):
    Calls Tryz.prog 48 #[v,.int .i64 sz,.slice (some ⟨nb,0,none⟩) ns.length cn] w fun e w' =>∃v', e=.returned v' /\ PA w v w' v' (l++ns.flatMap (beN sz)):=by
 obtain⟨n,hn⟩:∃n,n=ns.length:=⟨_,rfl⟩;rw[<-hn]at hl ⊢;have HNn:=qA hn;obtain⟨a0,c0,rfl⟩:=hv.slice;have HP0:=qA (show PA w (.slice a0 l.length c0) w (.slice a0 l.length c0) l from⟨hv,fun q h=>.inl h,Fr.refl _ _⟩);obtain⟨v0,hv0⟩:∃v0,v0=Value.slice a0 l.length c0:=⟨_,rfl⟩;have HV0:=qA hv0;have HN:=qA (show Blk w nb 36 (ns.map fun x:Nat=>.int .u64 (x:Int))/\v0.ownBlock≠some nb from⟨hb,by rw[hv0];exact hne⟩);have HS:=qA hsz;have HP0:Hid (PA w v0 w (.slice a0 (l.length+n*0) c0) (l++(ns.take 0).flatMap (beN sz))):=qA (by rw[hv0];simpa using HP0.out);obtain⟨ln,hln⟩:∃ln,ln=l.length:=⟨_,rfl⟩;rw[<-hln]at hl HP0 HV0 ⊢;have HLn:=qA hln;clear hn hv hb hne hv0 hln hsz;go_enter Tryz.func48,Tryz.ntmps48
 go_wp2_with fail
 go_loopw [0,12] (fun c1 c2 wr=>∃k:Nat,k<=n/\(∃sa sc,c1=.slice sa (ln+n*0+sz*k) sc/\Hid (PA w v0 wr (.slice sa (ln+n*0+sz*k) sc) (l++(ns.take k).flatMap (beN sz))))/\c2=.int .i64 k) (fun _ c _=>n-(intOf c).toNat)
 case atStart=>exact⟨0,by omega,⟨_,_,rfl,HP0⟩,rfl⟩
 case round=>
  clear HP0;obtain⟨k,hk,⟨sa,sc,rfl,HP⟩,rfl⟩:=hrel;rename World=>wr
  by_cases hlt:k<n
  {
  have hlt' :(k:Int)<n:=by omega
  have hk0:(0:Int)<=k:=by omega
  have hw1:IntKind.i64.wrap ((k:Int)+1)=((k+1:Nat):Int):=by rw[show(k:Int)+1=((k+1:Nat):Int) by omega];exact zG _ (by omega)
  have hws:IntKind.i64.wrap ((sz:Int)-1)=(sz:Int)-1:=by have:=HS.out;simp[IntKind.wrap,IntKind.bits,IntKind.signed];omega
  have hkn:k<ns.length:=by rw[<-HNn.out];exact hlt
  have c0:=(HP.out.2.2.blk HN.out.1 (fun hm=>HN.out.2 (by simpa using hm))).cell k;rw[List.getElem?_map,qL hkn]at c0;simp only[Option.map_some]at c0;have htk:ns.take (k+1)=ns.take k++[ns[k]'hkn]:=by rw[List.take_add_one,qL hkn];rfl
  generalize ns[k]'hkn=x at *;have HTk:=qA (show l++(ns.take (k+1)).flatMap (beN sz)=l++(ns.take k).flatMap (beN sz)++beN sz x by rw[htk,List.flatMap_append];simp);have hl0:(l++(ns.take k).flatMap (beN sz)).length=ln+n*0+sz*k:=by {
  have:∀m:List Nat,(m.flatMap (beN sz)).length=sz*m.length:=fun m=>by
    induction m with
    | nil=>rfl
    | cons y m ih=>rw[List.flatMap_cons,zF,aN,ih,qZ,Nat.mul_succ,Nat.add_comm]
  rw[zF,this,List.length_take,<-HLn.out,<-HNn.out,Nat.min_eq_left (by omega)];omega};have hle:sz*k<=8*n:=Nat.mul_le_mul HS.out hk;obtain⟨n0,hn0⟩:∃n0,n0=ln+n*0+sz*k:=⟨_,rfl⟩;obtain⟨B,hB⟩:∃B,B=l++(ns.take k).flatMap (beN sz):=⟨_,rfl⟩;have HEq:=qA (zI hn0 (zI hB hl0));have hn0le:n0<=1073741824:=by omega
  have HP1:Hid (PA w v0 wr (.slice sa (n0+(sz-sz)) sc) (B++(beN sz x).take (sz-sz))):=qA (by rw[hn0,hB];simpa using HP.out);have HBl:=qA (show B.length=n0 by rw[hB,hn0];exact hl0);rw[<-hn0];clear htk HP hl0 hn0 hB hle;go_wp2_with fail
  clear c0;go_loopw [0,9] (fun c1 c2 wr=>∃i:Nat,i<=sz/\(∃sa sc,c1=.slice sa (n0+(sz-i)) sc/\Hid (PA w v0 wr (.slice sa (n0+(sz-i)) sc) (B++(beN sz x).take (sz-i))))/\c2=.int .i64 ((i:Int)-1)) (fun _ c _=>((intOf c)+1).toNat)
  case atStart=>exact⟨sz,by omega,⟨sa,sc,by rw[Nat.sub_self,Nat.add_zero],HP1⟩,rfl⟩
  case round=>
   clear HP1;obtain⟨i,hi,⟨sa,sc,rfl,HP⟩,rfl⟩:=hrel;rename World=>wr
   by_cases hi0:0<i
   {
   have hi8:i=1∨i=2∨i=3∨i=4∨i=5∨i=6∨i=7∨i=8:=by have:=HS.out;omega
   rcases hi8 with rfl|rfl|rfl|rfl|rfl|rfl|rfl|rfl
   {
   have HQ:=qA (PA.own (n:=n0+(sz-1)) HP.out (by rw[zF,List.length_take,aN,HBl.out];omega));go_wp2_with (first|(at_builtin;refine aB rfl (.tmp 22) (.tmp 28) 22 rfl 5 (.int .u8 0) 1 Tryz.underlying22 Tryz.info5 rfl (.slice sa (n0+(sz-1)) sc) (n0+(sz-1)) (bF (B++(beN sz x).take (sz-1))) rfl (HQ.out _) wr.heap.size (.int .u8 ((x:Int)%256)) rfl (aD _ _ _ _ rfl) rfl (by have:=HS.out;omega) (by decide) ?_;intro g' cap' w4 hown4 hgrow4 hg4)|fail)
   have HN4:Hid (PA w v0 w4 (.slice (some ⟨g', 0,none⟩) (n0+(sz-0)) cap') (B++(beN sz x).take (sz-0))):=qA (by
     rw[show(x:Int)%256=((x/1%256:Nat):Int) by omega]at hown4;have h1:=PA.push HP.out (by rw[zF,List.length_take,aN,HBl.out];omega) hown4 hgrow4 hg4;have hlt:sz-1<(beN sz x).length:=by rw[aN];omega
     have hat:=jH sz x hlt;rw[show sz-1-(sz-1)=0 by omega]at hat;have h2:(beN sz x).take (sz-0)=(beN sz x).take (sz-1)++[x/1%256]:=by
       rw[show sz-0=sz-1+1 by omega,List.take_add_one,qL hlt,hat];rfl
     rw[h2,<-List.append_assoc,show n0+(sz-0)=n0+(sz-1)+1 by omega];exact h1)
   rw[show n0+(sz-1)+1=n0+(sz-0) by omega];clear HQ hown4 hgrow4 hg4 HP;go_roundw
   case rel=>exact⟨0,by omega,⟨_,_,rfl,HN4⟩,by go_num⟩
   case measure=>simp[intOf]}
   {
   have HQ:=qA (PA.own (n:=n0+(sz-2)) HP.out (by rw[zF,List.length_take,aN,HBl.out];omega));go_wp2_with (first|(at_builtin;refine aB rfl (.tmp 22) (.tmp 28) 22 rfl 5 (.int .u8 0) 1 Tryz.underlying22 Tryz.info5 rfl (.slice sa (n0+(sz-2)) sc) (n0+(sz-2)) (bF (B++(beN sz x).take (sz-2))) rfl (HQ.out _) wr.heap.size (.int .u8 ((x:Int)/256%256)) rfl (aD _ _ _ _ rfl) rfl (by have:=HS.out;omega) (by decide) ?_;intro g' cap' w4 hown4 hgrow4 hg4)|fail)
   have HN4:Hid (PA w v0 w4 (.slice (some ⟨g', 0,none⟩) (n0+(sz-1)) cap') (B++(beN sz x).take (sz-1))):=qA (by
     rw[show(x:Int)/256%256=((x/256%256:Nat):Int) by omega]at hown4;have h1:=PA.push HP.out (by rw[zF,List.length_take,aN,HBl.out];omega) hown4 hgrow4 hg4;have hlt:sz-2<(beN sz x).length:=by rw[aN];omega
     have hat:=jH sz x hlt;rw[show sz-1-(sz-2)=1 by omega]at hat;have h2:(beN sz x).take (sz-1)=(beN sz x).take (sz-2)++[x/256%256]:=by
       rw[show sz-1=sz-2+1 by omega,List.take_add_one,qL hlt,hat];rfl
     rw[h2,<-List.append_assoc,show n0+(sz-1)=n0+(sz-2)+1 by omega];exact h1)
   rw[show n0+(sz-2)+1=n0+(sz-1) by omega];clear HQ hown4 hgrow4 hg4 HP;go_roundw
   case rel=>exact⟨1,by omega,⟨_,_,rfl,HN4⟩,by go_num⟩
   case measure=>simp[intOf]}
   {
   have HQ:=qA (PA.own (n:=n0+(sz-3)) HP.out (by rw[zF,List.length_take,aN,HBl.out];omega));go_wp2_with (first|(at_builtin;refine aB rfl (.tmp 22) (.tmp 28) 22 rfl 5 (.int .u8 0) 1 Tryz.underlying22 Tryz.info5 rfl (.slice sa (n0+(sz-3)) sc) (n0+(sz-3)) (bF (B++(beN sz x).take (sz-3))) rfl (HQ.out _) wr.heap.size (.int .u8 ((x:Int)/65536%256)) rfl (aD _ _ _ _ rfl) rfl (by have:=HS.out;omega) (by decide) ?_;intro g' cap' w4 hown4 hgrow4 hg4)|fail)
   have HN4:Hid (PA w v0 w4 (.slice (some ⟨g', 0,none⟩) (n0+(sz-2)) cap') (B++(beN sz x).take (sz-2))):=qA (by
     rw[show(x:Int)/65536%256=((x/65536%256:Nat):Int) by omega]at hown4;have h1:=PA.push HP.out (by rw[zF,List.length_take,aN,HBl.out];omega) hown4 hgrow4 hg4;have hlt:sz-3<(beN sz x).length:=by rw[aN];omega
     have hat:=jH sz x hlt;rw[show sz-1-(sz-3)=2 by omega]at hat;have h2:(beN sz x).take (sz-2)=(beN sz x).take (sz-3)++[x/65536%256]:=by
       rw[show sz-2=sz-3+1 by omega,List.take_add_one,qL hlt,hat];rfl
     rw[h2,<-List.append_assoc,show n0+(sz-2)=n0+(sz-3)+1 by omega];exact h1)
   rw[show n0+(sz-3)+1=n0+(sz-2) by omega];clear HQ hown4 hgrow4 hg4 HP;go_roundw
   case rel=>exact⟨2,by omega,⟨_,_,rfl,HN4⟩,by go_num⟩
   case measure=>simp[intOf]}
   {
   have HQ:=qA (PA.own (n:=n0+(sz-4)) HP.out (by rw[zF,List.length_take,aN,HBl.out];omega));go_wp2_with (first|(at_builtin;refine aB rfl (.tmp 22) (.tmp 28) 22 rfl 5 (.int .u8 0) 1 Tryz.underlying22 Tryz.info5 rfl (.slice sa (n0+(sz-4)) sc) (n0+(sz-4)) (bF (B++(beN sz x).take (sz-4))) rfl (HQ.out _) wr.heap.size (.int .u8 ((x:Int)/16777216%256)) rfl (aD _ _ _ _ rfl) rfl (by have:=HS.out;omega) (by decide) ?_;intro g' cap' w4 hown4 hgrow4 hg4)|fail)
   have HN4:Hid (PA w v0 w4 (.slice (some ⟨g', 0,none⟩) (n0+(sz-3)) cap') (B++(beN sz x).take (sz-3))):=qA (by
     rw[show(x:Int)/16777216%256=((x/16777216%256:Nat):Int) by omega]at hown4;have h1:=PA.push HP.out (by rw[zF,List.length_take,aN,HBl.out];omega) hown4 hgrow4 hg4;have hlt:sz-4<(beN sz x).length:=by rw[aN];omega
     have hat:=jH sz x hlt;rw[show sz-1-(sz-4)=3 by omega]at hat;have h2:(beN sz x).take (sz-3)=(beN sz x).take (sz-4)++[x/16777216%256]:=by
       rw[show sz-3=sz-4+1 by omega,List.take_add_one,qL hlt,hat];rfl
     rw[h2,<-List.append_assoc,show n0+(sz-3)=n0+(sz-4)+1 by omega];exact h1)
   rw[show n0+(sz-4)+1=n0+(sz-3) by omega];clear HQ hown4 hgrow4 hg4 HP;go_roundw
   case rel=>exact⟨3,by omega,⟨_,_,rfl,HN4⟩,by go_num⟩
   case measure=>simp[intOf]}
   {
   have HQ:=qA (PA.own (n:=n0+(sz-5)) HP.out (by rw[zF,List.length_take,aN,HBl.out];omega));go_wp2_with (first|(at_builtin;refine aB rfl (.tmp 22) (.tmp 28) 22 rfl 5 (.int .u8 0) 1 Tryz.underlying22 Tryz.info5 rfl (.slice sa (n0+(sz-5)) sc) (n0+(sz-5)) (bF (B++(beN sz x).take (sz-5))) rfl (HQ.out _) wr.heap.size (.int .u8 ((x:Int)/4294967296%256)) rfl (aD _ _ _ _ rfl) rfl (by have:=HS.out;omega) (by decide) ?_;intro g' cap' w4 hown4 hgrow4 hg4)|fail)
   have HN4:Hid (PA w v0 w4 (.slice (some ⟨g', 0,none⟩) (n0+(sz-4)) cap') (B++(beN sz x).take (sz-4))):=qA (by
     rw[show(x:Int)/4294967296%256=((x/4294967296%256:Nat):Int) by omega]at hown4;have h1:=PA.push HP.out (by rw[zF,List.length_take,aN,HBl.out];omega) hown4 hgrow4 hg4;have hlt:sz-5<(beN sz x).length:=by rw[aN];omega
     have hat:=jH sz x hlt;rw[show sz-1-(sz-5)=4 by omega]at hat;have h2:(beN sz x).take (sz-4)=(beN sz x).take (sz-5)++[x/4294967296%256]:=by
       rw[show sz-4=sz-5+1 by omega,List.take_add_one,qL hlt,hat];rfl
     rw[h2,<-List.append_assoc,show n0+(sz-4)=n0+(sz-5)+1 by omega];exact h1)
   rw[show n0+(sz-5)+1=n0+(sz-4) by omega];clear HQ hown4 hgrow4 hg4 HP;go_roundw
   case rel=>exact⟨4,by omega,⟨_,_,rfl,HN4⟩,by go_num⟩
   case measure=>simp[intOf]}
   {
   have HQ:=qA (PA.own (n:=n0+(sz-6)) HP.out (by rw[zF,List.length_take,aN,HBl.out];omega));go_wp2_with (first|(at_builtin;refine aB rfl (.tmp 22) (.tmp 28) 22 rfl 5 (.int .u8 0) 1 Tryz.underlying22 Tryz.info5 rfl (.slice sa (n0+(sz-6)) sc) (n0+(sz-6)) (bF (B++(beN sz x).take (sz-6))) rfl (HQ.out _) wr.heap.size (.int .u8 ((x:Int)/1099511627776%256)) rfl (aD _ _ _ _ rfl) rfl (by have:=HS.out;omega) (by decide) ?_;intro g' cap' w4 hown4 hgrow4 hg4)|fail)
   have HN4:Hid (PA w v0 w4 (.slice (some ⟨g', 0,none⟩) (n0+(sz-5)) cap') (B++(beN sz x).take (sz-5))):=qA (by
     rw[show(x:Int)/1099511627776%256=((x/1099511627776%256:Nat):Int) by omega]at hown4;have h1:=PA.push HP.out (by rw[zF,List.length_take,aN,HBl.out];omega) hown4 hgrow4 hg4;have hlt:sz-6<(beN sz x).length:=by rw[aN];omega
     have hat:=jH sz x hlt;rw[show sz-1-(sz-6)=5 by omega]at hat;have h2:(beN sz x).take (sz-5)=(beN sz x).take (sz-6)++[x/1099511627776%256]:=by
       rw[show sz-5=sz-6+1 by omega,List.take_add_one,qL hlt,hat];rfl
     rw[h2,<-List.append_assoc,show n0+(sz-5)=n0+(sz-6)+1 by omega];exact h1)
   rw[show n0+(sz-6)+1=n0+(sz-5) by omega];clear HQ hown4 hgrow4 hg4 HP;go_roundw
   case rel=>exact⟨5,by omega,⟨_,_,rfl,HN4⟩,by go_num⟩
   case measure=>simp[intOf]}
   {
   have HQ:=qA (PA.own (n:=n0+(sz-7)) HP.out (by rw[zF,List.length_take,aN,HBl.out];omega));go_wp2_with (first|(at_builtin;refine aB rfl (.tmp 22) (.tmp 28) 22 rfl 5 (.int .u8 0) 1 Tryz.underlying22 Tryz.info5 rfl (.slice sa (n0+(sz-7)) sc) (n0+(sz-7)) (bF (B++(beN sz x).take (sz-7))) rfl (HQ.out _) wr.heap.size (.int .u8 ((x:Int)/281474976710656%256)) rfl (aD _ _ _ _ rfl) rfl (by have:=HS.out;omega) (by decide) ?_;intro g' cap' w4 hown4 hgrow4 hg4)|fail)
   have HN4:Hid (PA w v0 w4 (.slice (some ⟨g', 0,none⟩) (n0+(sz-6)) cap') (B++(beN sz x).take (sz-6))):=qA (by
     rw[show(x:Int)/281474976710656%256=((x/281474976710656%256:Nat):Int) by omega]at hown4;have h1:=PA.push HP.out (by rw[zF,List.length_take,aN,HBl.out];omega) hown4 hgrow4 hg4;have hlt:sz-7<(beN sz x).length:=by rw[aN];omega
     have hat:=jH sz x hlt;rw[show sz-1-(sz-7)=6 by omega]at hat;have h2:(beN sz x).take (sz-6)=(beN sz x).take (sz-7)++[x/281474976710656%256]:=by
       rw[show sz-6=sz-7+1 by omega,List.take_add_one,qL hlt,hat];rfl
     rw[h2,<-List.append_assoc,show n0+(sz-6)=n0+(sz-7)+1 by omega];exact h1)
   rw[show n0+(sz-7)+1=n0+(sz-6) by omega];clear HQ hown4 hgrow4 hg4 HP;go_roundw
   case rel=>exact⟨6,by omega,⟨_,_,rfl,HN4⟩,by go_num⟩
   case measure=>simp[intOf]}
   {
   have HQ:=qA (PA.own (n:=n0+(sz-8)) HP.out (by rw[zF,List.length_take,aN,HBl.out];omega));go_wp2_with (first|(at_builtin;refine aB rfl (.tmp 22) (.tmp 28) 22 rfl 5 (.int .u8 0) 1 Tryz.underlying22 Tryz.info5 rfl (.slice sa (n0+(sz-8)) sc) (n0+(sz-8)) (bF (B++(beN sz x).take (sz-8))) rfl (HQ.out _) wr.heap.size (.int .u8 ((x:Int)/72057594037927936%256)) rfl (aD _ _ _ _ rfl) rfl (by have:=HS.out;omega) (by decide) ?_;intro g' cap' w4 hown4 hgrow4 hg4)|fail)
   have HN4:Hid (PA w v0 w4 (.slice (some ⟨g', 0,none⟩) (n0+(sz-7)) cap') (B++(beN sz x).take (sz-7))):=qA (by
     rw[show(x:Int)/72057594037927936%256=((x/72057594037927936%256:Nat):Int) by omega]at hown4;have h1:=PA.push HP.out (by rw[zF,List.length_take,aN,HBl.out];omega) hown4 hgrow4 hg4;have hlt:sz-8<(beN sz x).length:=by rw[aN];omega
     have hat:=jH sz x hlt;rw[show sz-1-(sz-8)=7 by omega]at hat;have h2:(beN sz x).take (sz-7)=(beN sz x).take (sz-8)++[x/72057594037927936%256]:=by
       rw[show sz-7=sz-8+1 by omega,List.take_add_one,qL hlt,hat];rfl
     rw[h2,<-List.append_assoc,show n0+(sz-7)=n0+(sz-8)+1 by omega];exact h1)
   rw[show n0+(sz-8)+1=n0+(sz-7) by omega];clear HQ hown4 hgrow4 hg4 HP;go_roundw
   case rel=>exact⟨7,by omega,⟨_,_,rfl,HN4⟩,by go_num⟩
   case measure=>simp[intOf]}}
   {
   obtain rfl:i=0:=by omega
   have HN5:Hid (PA w v0 wr (.slice sa (ln+n*0+sz*(k+1)) sc) (l++(ns.take (k+1)).flatMap (beN sz))):=qA (by
     rw[HTk.out,<-HEq.out.2.1,Nat.mul_succ,<-Nat.add_assoc,<-HEq.out.1];have h1:=HP.out;rw[show sz-0=sz from rfl,List.take_of_length_le (by rw[aN];exact qK _)]at h1;exact h1)
   have hfin:n0+sz=ln+n*0+sz*(k+1):=by rw[HEq.out.1,Nat.mul_succ];omega
   rw[show n0+(sz-0)=ln+n*0+sz*(k+1) from hfin];clear HP;go_wp2_with fail
   go_roundw
   case rel=>exact⟨k+1,by omega,⟨_,_,rfl,HN5⟩,by go_num⟩
   case measure=>simp[intOf];omega}}
  {
  obtain rfl:k=n:=by omega
  have HF:Hid (PA w v0 wr (.slice sa (ln+k*0+sz*k) sc) (l++ns.flatMap (beN sz))):=qA (by
    have h1:=HP.out;rw[HNn.out,List.take_length]at h1;rw[HNn.out];exact h1)
  clear HP;go_wp2
  go_ret;have hF:=HF.out;rw[HV0.out]at hF;exact⟨_,rfl,hF⟩}
theorem gM{l:List Nat}(hb:Byt l){k:Nat}(hk:k<l.length)(h8:l.length<=8):aC (l.take k)<72057594037927936:=by
 have h1:=fK (hb.take k);rw[List.length_take,Nat.min_eq_left (Nat.le_of_lt hk)]at h1;have h2:256 ^ k<=256 ^ 7:=Nat.pow_le_pow_right (by decide) (by omega);exact Nat.lt_of_lt_of_le h1 h2
theorem aCU{x y:Nat}(hx:x<72057594037927936)(hy:y<256):Go.bits .or .u64 ((x:Int)*256) (y:Int)=((x*256+y:Nat):Int):=by
 have k:=Go.bits_join .u64 64 (by decide) (fun n h0 h1=>by simp[IntKind.wrap,IntKind.bits,IntKind.signed];omega) 8 ((x:Int)*256) (y:Int) (by omega) (by omega) (by omega) (by omega) (by omega) (by omega);rw[k];omega
theorem aPV{w:World}{a:Option Addr}{l:List Nat}{cap:Nat}(hr:RdB w a l)(hb:Byt l)(hl:l.length<=8):
    Calls Tryz.prog 50 #[.slice a l.length cap] w fun e w' =>e=.returned (.int .u64 (aC l:Nat))/\w' =w:=by
 obtain⟨n,hn⟩:∃n,n=l.length:=⟨_,rfl⟩;rw[<-hn]at hl ⊢;have HR:=qA (zI hr (zI hb hn));clear hr hb hn;go_enter Tryz.func50,Tryz.ntmps50
 go_wp2_with fail
 go_loopw [3,8] (fun r i wr=>∃(k:Nat) (x:Nat),k<=n/\r=.int .u64 x/\i=.int .i64 k/\wr=w/\Hid (x=aC (l.take k))) (fun _ i _=>n-(intOf i).toNat)
 case atStart=>exact⟨0,0,qS _,rfl,rfl,rfl,qA rfl⟩
 case round=>
  obtain⟨k,x,hk,rfl,rfl,rfl,HX⟩:=hrel;by_cases hlt:k<n
  {
  have hlt' :(k:Int)<n:=by omega
  have hk0:(0:Int)<=k:=by omega
  have hw1:IntKind.i64.wrap ((k:Int)+1)=((k+1:Nat):Int):=by rw[show(k:Int)+1=((k+1:Nat):Int) by omega];exact zG _ (by omega)
  have hkl:k<l.length:=by rw[<-HR.out.2.2];exact hlt
  obtain⟨b,off,rfl,_,c0⟩:=HR.out.1 k hkl;have hby:=HR.out.2.1 _ (List.getElem_mem hkl);have hx:x<72057594037927936:=by rw[HX.out];exact gM HR.out.2.1 hkl (by rw[<-HR.out.2.2];exact hl)
  have htk:l.take (k+1)=l.take k++[l[k]'hkl]:=by rw[List.take_add_one,qL hkl];rfl
  generalize l[k]'hkl=y at *;have hwy:IntKind.u64.wrap (y:Int)=y:=by simp[IntKind.wrap,IntKind.bits,IntKind.signed];omega
  have hwx:IntKind.u64.wrap ((x:Int)*256)=(x:Int)*256:=by simp[IntKind.wrap,IntKind.bits,IntKind.signed];omega
  have hor:=aCU hx hby;have HN:=qA (show x*256+y=aC (l.take (k+1)) by rw[htk,kJ,<-HX.out]);clear htk HX;go_wp2_with fail
  go_roundw
  case rel=>exact⟨k+1,x*256+y,by omega,rfl,by go_num,trivial,HN⟩
  case measure=>simp[intOf];omega}
  {
  obtain rfl:k=n:=by omega
  go_wp2
  go_ret;refine⟨?_,rfl⟩;have e:=HX.out;rw[HR.out.2.2,List.take_length]at e;rw[e];rfl}
theorem aKU(w:World):Calls Tryz.prog 47 #[] w fun e w' =>e=.returned (.agg #[.int .u8 83,.int .u8 69,.int .u8 69,.int .u8 80,.int .u8 1])/\Fr [] w w' :=by
 have hb:=Blk.new w [.int .u8 83,.int .u8 69,.int .u8 69,.int .u8 80,.int .u8 1] 91;have r0:=hb.cell 0;have r1:=hb.cell 1;have r2:=hb.cell 2;have r3:=hb.cell 3;have r4:=hb.cell 4;simp only[zJ,zK]at r0 r1 r2 r3 r4;have HF:=qA ((Fr.refl [] w).alloc (.cells #[.int .u8 83,.int .u8 69,.int .u8 69,.int .u8 80,.int .u8 1] 91));clear hb;go_enter Tryz.func47,Tryz.ntmps47
 go_wp2
 exact bodyPost_ret (v:=.agg #[.int .u8 83,.int .u8 69,.int .u8 69,.int .u8 80,.int .u8 1]) (by simp[results,Tryz.results47,go_sem,r0,r1,r2,r3,r4]) rfl ⟨rfl,HF.out⟩
theorem aSA{w:World}{rb b off n cap:Nat}{l:List Nat}{t:TypeId}(hv:Blk w rb t [.slice (some ⟨b,off,none⟩) n cap])(hr:RdB w (some ⟨b,off,none⟩) l)(hb:Byt l)(hn:l.length=n)(h8:8<=n)(hc:n<cap):
    Calls Tryz.prog 51 #[.pointer (some ⟨rb,0,none⟩)] w fun e w' =>e=.returned (.int .u64 (aC (l.take 8):Nat))/\w' =w.setCell ⟨rb,0,none⟩ (.slice (some ⟨b,off+8,none⟩) (n-8) (cap-8)):=by
 have c0:=hv.cell 0;have z0:=hv.frozen 0;simp only[zJ]at c0;have hg:=aPV (cap:=cap) (hr.take 8) (hb.take 8) (by rw[List.length_take];omega);rw[show(l.take 8).length=8 by rw[List.length_take];omega]at hg;have HG:=qA hg;have h8' :(8:Int)<=n:=by omega
 have hcap8:(8:Int)<=cap:=by omega
 have hcn:(n:Int)<=cap:=by omega
 have hne:¬cap=8:=by omega
 clear hv hr hb hn hg;go_enter Tryz.func51,Tryz.ntmps51
 go_wp2_with fail
 refine HG.out.mono ?_;rintro _ w2 ⟨rfl,rfl⟩;clear HG;go_wp2
 go_ret;exact⟨rfl,rfl⟩
theorem aEV{w:World}{a:Option Addr}{l:List Nat}{cap:Nat}(hr:RdB w a l)(hb:Byt l)(hl:l.length<=4611686018427387904):
    Calls Tryz.prog 15 #[.slice a l.length cap] w fun e w' =>e=.returned (.int .u32 (crc l:Nat))/\w' =w:=by
 obtain⟨n,hn⟩:∃n,n=l.length:=⟨_,rfl⟩;rw[<-hn]at hl ⊢;have HR:=qA (zI hr (zI hb hn));clear hr hb hn;go_enter Tryz.func15,Tryz.ntmps15
 go_wp2_with fail
 go_loopw [3,9] (fun r i wr=>∃(k:Nat) (x:Nat),k<=n/\r=.int .u32 x/\i=.int .i64 k/\wr=w/\x<4294967296/\Hid (x=mS 4294967295 (l.take k))) (fun _ i _=>n-(intOf i).toNat)
 case atStart=>exact⟨0,4294967295,qS _,rfl,rfl,rfl,by decide,qA rfl⟩
 case round=>
  obtain⟨k,x,hk,rfl,rfl,rfl,hx,HX⟩:=hrel;by_cases hlt:k<n
  {
  have hlt' :(k:Int)<n:=by omega
  have hk0:(0:Int)<=k:=by omega
  have hw1:IntKind.i64.wrap ((k:Int)+1)=((k+1:Nat):Int):=by rw[show(k:Int)+1=((k+1:Nat):Int) by omega];exact zG _ (by omega)
  have hkl:k<l.length:=by rw[<-HR.out.2.2];exact hlt
  obtain⟨b,off,rfl,_,c0⟩:=HR.out.1 k hkl;have hby:=HR.out.2.1 _ (List.getElem_mem hkl);have htk:l.take (k+1)=l.take k++[l[k]'hkl]:=by rw[List.take_add_one,qL hkl];rfl
  generalize l[k]'hkl=y at *;have hwy:IntKind.u32.wrap (y:Int)=y:=wrap_u32 (by omega);have hxy:Go.bits .xor .u32 (x:Int) (y:Int)=((x ^^^ y:Nat):Int):=jW hx (by omega);have hlx:x ^^^ y<4294967296:=uP hx (by omega);have HN:=qA (show wM 8 (x ^^^ y)=mS 4294967295 (l.take (k+1)) by rw[htk,uQ,<-HX.out];rfl);clear htk HX;generalize x ^^^ y=z at *;go_wp2_with fail
  go_loopw [3,17] (fun r i wr2=>∃(j:Nat) (x:Nat),j<=8/\r=.int .u32 x/\i=.int .i64 j/\wr2=wr/\x<4294967296/\Hid (wM (8-j) x=mS 4294967295 (l.take (k+1)))) (fun _ i _=>8-(intOf i).toNat)
  case atStart=>exact⟨0,z,by omega,rfl,rfl,rfl,hlx,HN⟩
  case round=>
   clear HN hlx hwy hxy;obtain⟨j,x,hj,rfl,rfl,rfl,hx,HX⟩:=hrel;by_cases hj8:j<8
   {
   have hj8' :(j:Int)<8:=by omega
   have hw2:IntKind.i64.wrap ((j:Int)+1)=((j+1:Nat):Int):=by rw[show(j:Int)+1=((j+1:Nat):Int) by omega];exact zG _ (by omega)
   have e1:=aKR hx;have e2:=aKS hx;have hlt2:=wN hx;have HN:=qA (show wM (8-(j+1)) (rT x)=mS 4294967295 (l.take (k+1)) by
     rw[<-HX.out,show 8-j=(8-(j+1))+1 by omega];rfl)
   clear HX;go_wp2_with fail
   go_roundw
   case rel=>exact⟨j+1,rT x,by omega,rfl,by go_num,trivial,hlt2,HN⟩
   case measure=>simp[intOf];omega}
   {
   obtain rfl:j=8:=by omega
   have HN:=qA (show x=mS 4294967295 (l.take (k+1)) from HX.out);clear HX;go_wp2_with fail
   go_roundw
   case rel=>exact⟨k+1,x,by omega,rfl,by go_num,trivial,hx,HN⟩
   case measure=>simp[intOf];omega}}
  {
  obtain rfl:k=n:=by omega
  have hnx:=aOT hx;go_wp2
  go_ret;refine⟨?_,rfl⟩;have e:=HX.out;rw[HR.out.2.2,List.take_length]at e;rw[e];rfl}
theorem aAP{P:Program}{w:World}{ops:Array Oper}{rest:List Oper}{o:Oper}{a:Act}{Q:Exit->Act->World->Prop}(hgd:o.guard=none)(s x:Operand)(t:TypeId)
    (ho:o.op=.call { callee:=.builtin .append,args:=#[s,x],argTypes:=#[t,t] })
    (e:TypeId) (z:Value) (bytes:Nat) (ht:P.underlying t=some (.slice e)) (hinfo:(P.info? e).map (fun i=>(i.zero,i.size,i.bytes))=some (some z,1,bytes)) (hzs:z.cells.size=1)
    (b:Addr) (n cap:Nat) (olds:List Value) (hs:a.eval s=.slice (some b) n cap) (hlo:olds.length=n) (holds:∀j u,olds[j]? =some u->w.cell? (b.add j)=some u)
    (ad:Addr) (m c:Nat) (news:List Value) (hx:a.eval x=.slice (some ad) m c) (hl:news.length=m) (hnews:∀j u,news[j]? =some u->w.cell? (ad.add j)=some u)
    (hg:cap<n+m) (hn:n+m<=4294967296) (hby:bytes<=1024)
    (h:∀v' w', w'.ownsRow 0 e 1 v' (n+m) (olds++news)->(∀q,v'.ownBlock=some q->w.heap.size<=q)->Fr [] w w' -> wpList P ops Q rest (a.put o.dst v') w'):wpList P ops Q (o::rest) a w:=by
 obtain⟨i0,hi,hz0,hz1,hz2⟩:=info_parts hinfo;refine wpList_plain hgd fun K hK=>?_;have hbb:(n+m)*bytes<=140737488355328:=by {
 have:(n+m)*bytes<=4294967296*1024:=Nat.mul_le_mul hn hby;omega};obtain⟨v', w', hr,h2,h3⟩:=run_append_arg_grows (P:=P) w t o.type e i0 z 1 bytes ht hi hz0 hz1 hz2 hzs (by decide) b n cap olds (by rw[hlo,Nat.mul_one]) holds ad m c news (by rw[hl,Nat.mul_one]) hnews hg (by unfold maxLen;omega) hbb;unfold Oper.wp execOp;simp only[ho,resolve,invoke,builtin,Sem.run_bind,Sem.run_pure,Result.andThen_ok,List.map_toArray,List.map_cons,List.map_nil,hs,hx,hr];refine hK _ _ (h v' w' (mL h2) (fun q hq=>?_) ⟨h3.os,h3.tape,h3.output,h3.size,fun k hk _=>h3.block k hk (by simp)⟩);rcases h2.2 with⟨rfl,_⟩|⟨g,cap', cur,rfl,hgb,_⟩
 · cases hq
 {
 simp only[Value.ownBlock,qI]at hq;omega}
section
variable {W w:World} {ts:List Th} {v:Value} {l ns:List Nat} {nb sz cn:Nat}
theorem aCV(h:Wd W w (thY v l::ts))(hb:Blk w nb 36 (ns.map fun x:Nat=>.int .u64 (x:Int)))(hne:v.ownBlock≠some nb)(hsz:sz<=8)(hl:l.length+8*ns.length<=1073741824):
    Calls Tryz.prog 48 #[v,.int .i64 sz,.slice (some ⟨nb,0,none⟩) ns.length cn] w fun e w' =>∃v', e=.returned v' /\ Wd W w' (thY v' (l++ns.flatMap (beN sz))::ts):=by
 obtain⟨K,⟨hv,rfl⟩,hs⟩:=h.open;refine(aRZ hv hb hne hsz hl).mono ?_;rintro _ w' ⟨v', rfl,h1,h2,h3⟩;refine⟨v', rfl,hs ⟨_,⟨h1,rfl⟩,h3,fun q hq=>?_⟩⟩;exact(h2 q (by simpa using hq)).imp (fun e=>by simp[e]) id
theorem aSB(h:Wd W w (thY v l::ts))(hb:Byt l)(hl:l.length<=4611686018427387904):Calls Tryz.prog 15 #[v] w fun e w' =>e=.returned (.int .u32 (crc l:Nat))/\w' =w:=by
 have hr:=h.rowB;obtain⟨a,cap,rfl⟩:=hr.slice;exact aEV hr.rd hb hl
end
theorem aSC(m E V D:Int)(w:World):Calls Tryz.prog 87 #[.agg #[.int .i64 m,.int .i64 E,.int .i64 V,.int .i64 D]] w fun e w' =>e=.returned (.agg #[.int .i64 m,.int .i64 E,.int .i64 V,.int .i64 D])/\Fr [] w w' :=by
 have hb:=Blk.new w [.int .i64 m,.int .i64 E,.int .i64 V,.int .i64 D] 115;have hF:Fr [] (w.alloc (.cells #[.int .i64 m,.int .i64 E,.int .i64 V,.int .i64 D] 115)) ((w.alloc (.cells #[.int .i64 m,.int .i64 E,.int .i64 V,.int .i64 D] 115)).alloc (.cells #[.int .i64 0,.int .i64 0,.int .i64 0,.int .i64 0] 31)):=(Fr.refl [] _).alloc _;have hb2:=hF.blk hb (by simp);have r0:=hb2.cell 0;have r1:=hb2.cell 1;have r2:=hb2.cell 2;have r3:=hb2.cell 3;have hb3:=Blk.new (w.alloc (.cells #[.int .i64 m,.int .i64 E,.int .i64 V,.int .i64 D] 115)) [.int .i64 m,.int .i64 E,.int .i64 V,.int .i64 D] 31;rw[World.size_alloc]at hb3;have q0:=hb3.cell 0;have q1:=hb3.cell 1;have q2:=hb3.cell 2;have q3:=hb3.cell 3;simp only[zJ,zK]at r0 r1 r2 r3 q0 q1 q2 q3;have HF:=qA (((Fr.refl [] w).alloc (.cells #[.int .i64 m,.int .i64 E,.int .i64 V,.int .i64 D] 115)).alloc (.cells #[.int .i64 m,.int .i64 E,.int .i64 V,.int .i64 D] 31));clear hb hF hb2 hb3;go_enter Tryz.func87,Tryz.ntmps87
 go_wp2
 exact bodyPost_ret (v:=.agg #[.int .i64 m,.int .i64 E,.int .i64 V,.int .i64 D]) (by simp[results,Tryz.results87,go_sem,q0,q1,q2,q3]) rfl ⟨rfl,HF.out⟩
end Go.Proofs.YtjdgpcjbgjnahaaGreatDoor
