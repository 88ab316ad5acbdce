/- The condition that a package variable is laid: what it gives the walks; the door's own heap meets it. -/
import Derived.Test.YtjdgpcjbgjnahaaGreatDoorH12
import Derived.Laws.Cover3
import Derived.Test.YtjdgpcjbgjnahaaGreatDoorH11
import Derived.Test.YtjdgpcjbgjnahaaGreatDoorH3
import Derived.Lib.SmallJoins
import Derived.Laws.BytesArg
import Derived.Test.YtjdgpcjbgjnahaaGreatDoorRows
import Derived.Test.YtjdgpcjbgjnahaaGreatDoorH1
import Derived.LaidMore
import Derived.OpenShut
import Derived.Stop.Joined
import Derived.Deep.Strs
set_option maxRecDepth 10000
set_option maxHeartbeats 1600000
set_option linter.unusedSimpArgs false
set_option linter.unusedVariables false
/- The configuration that bytes stand for: the walk of config's Get. -/
namespace Go.Proofs.YtjdgpcjbgjnahaaGreatDoor
open Go.RowKit
theorem fG{x:Nat}(h:x<18446744073709551616):IntKind.i64.wrap (x:Int)=aI x:=by
 rw[Go.IntKind.wrap_i64];unfold aI;split<;>omega
theorem fR{l:List Nat}{i n:Nat}(h:i+n<=l.length):(sub l i n).length=n:=by unfold sub;rw[List.length_take,List.length_drop];omega
theorem fS{l:List Nat}(h:Byt l)(i n:Nat):Byt (sub l i n):=(h.drop i).take n
theorem RdB.sub{w:World}{b off:Nat}{l:List Nat}(h:RdB w (some ⟨b,off,none⟩) l)(i n:Nat):RdB w (some ⟨b,off+i,none⟩) (sub l i n):=(h.drop i).take n
def iP(l:List Nat)(k:Nat):List Value:=(List.range 4).map fun i=>.int .i64 (if i<k then aI (aC (sub l (8*i) 8)) else 0)
theorem aSD{w:World}{b off n cap:Nat}{l:List Nat}(hr:RdB w (some ⟨b,off,none⟩) l)(hb:Byt l)(hn:l.length=n)(h32:32<=n)(hc:n<=cap)(hL:iC w)
    (hw:cA (aI (aC (sub l 0 8))) (aI (aC (sub l 8 8))) (aI (aC (sub l 16 8))) (aI (aC (sub l 24 8)))=-1):
    Calls Tryz.prog 52 #[.slice (some ⟨b,off,none⟩) n cap] w fun e w' =>e=.returned (.tuple #[.agg #[.int .i64 (aI (aC (sub l 0 8))),.int .i64 (aI (aC (sub l 8 8))),.int .i64 (aI (aC (sub l 16 8))),.int .i64 (aI (aC (sub l 24 8)))],.int .i64 32,.int .i64 0])/\Fr [] w w' :=by
 have d0:decide ((n:Int)<32)=false:=qF (by omega);have d1:¬n<32:=by omega
 have HR:=qA (zI hr (zI hb hn));have HL:=qA hL;have HW:=qA hw;have HC:=qA (zI h32 hc);clear hr hb hn hL hw h32 hc;go_enter Tryz.func52,Tryz.ntmps52
 go_wp2_with fail
 have HP0:=qA (show Fr [] w ((w.alloc (.cells #[.int .i64 0,.int .i64 0,.int .i64 0,.int .i64 0] 31)).alloc (.cells #[.int .i64 0,.int .i64 0,.int .i64 0,.int .i64 0] 115))/\Blk ((w.alloc (.cells #[.int .i64 0,.int .i64 0,.int .i64 0,.int .i64 0] 31)).alloc (.cells #[.int .i64 0,.int .i64 0,.int .i64 0,.int .i64 0] 115)) (w.heap.size+1) 115 (iP l 0)/\Blk ((w.alloc (.cells #[.int .i64 0,.int .i64 0,.int .i64 0,.int .i64 0] 31)).alloc (.cells #[.int .i64 0,.int .i64 0,.int .i64 0,.int .i64 0] 115)) w.heap.size 31 [.int .i64 0,.int .i64 0,.int .i64 0,.int .i64 0] from by
   refine⟨((Fr.refl [] w).alloc _).alloc _,?_,((Fr.refl [] _).alloc _).blk (Blk.new w [.int .i64 0,.int .i64 0,.int .i64 0,.int .i64 0] 31) (by simp)⟩;have k:=Blk.new (w.alloc (.cells #[.int .i64 0,.int .i64 0,.int .i64 0,.int .i64 0] 31)) [.int .i64 0,.int .i64 0,.int .i64 0,.int .i64 0] 115;rw[World.size_alloc]at k;exact k)
 clear d0 d1;go_loopw [14] (fun i wr=>∃k:Nat,k<=4/\i=.int .i64 k/\Hid (Fr [] w wr/\Blk wr (w.heap.size+1) 115 (iP l k)/\Blk wr w.heap.size 31 [.int .i64 0,.int .i64 0,.int .i64 0,.int .i64 0])) (fun i _=>4-(intOf i).toNat)
 case atStart=>exact⟨0,by omega,rfl,HP0⟩
 case round=>
  clear HP0;obtain⟨k,hk,rfl,HP⟩:=hrel;rename World=>wr
  by_cases hlt:k<4
  {
  have hlt' :(k:Int)<4:=by omega
  have hk0:(0:Int)<=k:=by omega
  have hw1:IntKind.i64.wrap ((k:Int)+1)=((k+1:Nat):Int):=by rw[show(k:Int)+1=((k+1:Nat):Int) by omega];exact zG _ (by omega)
  have hw8:IntKind.i64.wrap (8*(k:Int))=((8*k:Nat):Int):=by rw[show 8*(k:Int)=((8*k:Nat):Int) by omega];exact zG _ (by omega)
  have hw9:IntKind.i64.wrap (((8*k:Nat):Int)+8)=((8*k+8:Nat):Int):=by rw[show((8*k:Nat):Int)+8=((8*k+8:Nat):Int) by omega];exact zG _ (by omega)
  have hp0:(0:Int)<=((8*k:Nat):Int):=by omega
  have hp1:((8*k:Nat):Int)<=((8*k+8:Nat):Int):=by omega
  have hp2:((8*k+8:Nat):Int)<=cap:=by have:=HC.out;omega
  have hne:¬cap=8*k:=by have:=HC.out;omega
  have t1:((8*k:Nat):Int).toNat=8*k:=zD _;have t2:((8*k+8:Nat):Int).toNat=8*k+8:=zD _;have e8:8*k+8-8*k=8:=by omega
  generalize hk8:8*k=k8 at *;have HK:=qA hk8;clear hk8;go_wp2_with fail
  clear hp0 hp1 hp2 hne t1 t2 hw8 hw9;have HS:=qA (show RdB w (some ⟨b,off+k8,none⟩) (sub l k8 8)/\Byt (sub l k8 8)/\(sub l k8 8).length=8 from⟨HR.out.1.sub k8 8,fS HR.out.2.1 k8 8,fR (by rw[HR.out.2.2];have:=HC.out;have:=HK.out;omega)⟩);go_loopw [7,25] (fun r c wr2=>∃(j:Nat) (x:Nat),j<=8/\r=.int .u64 x/\c=.int .i64 j/\wr2=wr/\Hid (x=aC ((sub l k8 8).take j))) (fun _ c _=>8-(intOf c).toNat)
  case atStart=>exact⟨0,0,by omega,rfl,rfl,rfl,qA rfl⟩
  case round=>
   obtain⟨j,x,hj,rfl,rfl,rfl,HX⟩:=hrel;by_cases hj8:j<8
   {
   have hj8' :(j:Int)<8:=by omega
   have hj0:(0:Int)<=j:=by omega
   have hw2:IntKind.i64.wrap ((j:Int)+1)=((j+1:Nat):Int):=by rw[show(j:Int)+1=((j+1:Nat):Int) by omega];exact zG _ (by omega)
   have hjl:j<(sub l k8 8).length:=by rw[HS.out.2.2];exact hj8
   obtain⟨b', off', eb,_,c0⟩:=(HS.out.1.fr HP.out.1) j hjl;simp only[qI,Addr.mk.injEq,and_true]at eb;obtain⟨rfl,rfl⟩:=eb;have hby:=HS.out.2.1 _ (List.getElem_mem hjl);have hx:x<72057594037927936:=by rw[HX.out];exact gM HS.out.2.1 hjl (by rw[HS.out.2.2];decide)
   have htk:(sub l k8 8).take (j+1)=(sub l k8 8).take j++[(sub l k8 8)[j]'hjl]:=by rw[List.take_add_one,qL hjl];rfl
   generalize (sub l k8 8)[j]'hjl=y at *;have hwy:IntKind.u64.wrap (y:Int)=y:=by simp[IntKind.wrap,IntKind.bits,IntKind.signed];omega
   have hwx:IntKind.u64.wrap ((x:Int)*256)=(x:Int)*256:=by simp[IntKind.wrap,IntKind.bits,IntKind.signed];omega
   have hor:=aCU hx hby;have HN:=qA (show x*256+y=aC ((sub l k8 8).take (j+1)) by rw[htk,kJ,<-HX.out]);clear htk HX;go_wp2_with fail
   go_roundw
   case rel=>exact⟨j+1,x*256+y,by omega,rfl,by go_num,trivial,HN⟩
   case measure=>simp[intOf];omega}
   {
   obtain rfl:j=8:=by omega
   have hxv:x=aC (sub l k8 8):=by {
   have e:=HX.out;rw[List.take_of_length_le (by rw[HS.out.2.2];exact qK _)]at e;exact e};have hx:x<18446744073709551616:=by rw[hxv];have h1:=fK HS.out.2.1;rw[HS.out.2.2]at h1;exact h1
   have hwz:=fG hx;obtain⟨yv,hyv⟩:∃yv,yv=aI x:=⟨_,rfl⟩;rw[<-hyv]at hwz;have hk8' :=HK.out;have hset:(iP l k).set k (.int .i64 yv)=iP l (k+1):=by {
   rw[hyv,hxv];have hk4:k=0∨k=1∨k=2∨k=3:=by omega
   rcases hk4 with rfl|rfl|rfl|rfl<;>subst hk8' <;> rfl};have c8:=HP.out.2.1.cell k;have z9:=HP.out.2.1.frozen k;have c9:wr.cell? ⟨w.heap.size+1,k,none⟩=some (.int .i64 0):=by {
   rw[c8];have hk4:k=0∨k=1∨k=2∨k=3:=by omega
   rcases hk4 with rfl|rfl|rfl|rfl<;>rfl};have hlt4:w.heap.size≠w.heap.size+1:=by omega
   have HN:=qA (show Fr [] w (wr.setCell ⟨w.heap.size+1,k,none⟩ (.int .i64 yv))/\Blk (wr.setCell ⟨w.heap.size+1,k,none⟩ (.int .i64 yv)) (w.heap.size+1) 115 (iP l (k+1))/\Blk (wr.setCell ⟨w.heap.size+1,k,none⟩ (.int .i64 yv)) w.heap.size 31 [.int .i64 0,.int .i64 0,.int .i64 0,.int .i64 0] from by
     refine⟨HP.out.1.setCell _ _ (.inr (by simp)),?_,((Fr.refl [w.heap.size+1] wr).setCell _ _ (.inl (by simp))).blk HP.out.2.2 (by simp)⟩;rw[<-hset];exact HP.out.2.1.set k (.int .i64 yv))
   clear hset hxv hyv HX hk8' HP c8;go_wp2_with fail
   go_roundw
   case rel=>exact⟨k+1,by omega,by go_num,HN⟩
   case measure=>simp[intOf];omega}}
  {
  obtain rfl:k=4:=by omega
  have hb4:Blk wr (w.heap.size+1) 115 [.int .i64 (aI (aC (sub l 0 8))),.int .i64 (aI (aC (sub l 8 8))),.int .i64 (aI (aC (sub l 16 8))),.int .i64 (aI (aC (sub l 24 8)))]:=HP.out.2.1;have hv8:∀i,i+8<=32->aC (sub l i 8)<18446744073709551616:=fun i hi=>by
    have h1:=fK (fS HR.out.2.1 i 8);rw[fR (by rw[HR.out.2.2];have:=HC.out;omega)]at h1;exact h1
  have hg:=xY (HL.out.fr HP.out.1 (by simp)) (aI (aC (sub l 0 8))) (aI (aC (sub l 8 8))) (aI (aC (sub l 16 8))) (aI (aC (sub l 24 8))) (dX _ (hv8 0 (by omega))).2;rw[HW.out]at hg;generalize hX0:aI (aC (sub l 0 8))=X0 at *;generalize hX1:aI (aC (sub l 8 8))=X1 at *;generalize hX2:aI (aC (sub l 16 8))=X2 at *;generalize hX3:aI (aC (sub l 24 8))=X3 at *;have r0:=hb4.cell 0;have r1:=hb4.cell 1;have r2:=hb4.cell 2;have r3:=hb4.cell 3;simp only[zJ,zK,Nat.add_zero]at r0 r1 r2 r3;have HXX:=qA (zI hX0 (zI hX1 (zI hX2 hX3)));clear hX0 hX1 hX2 hX3;have HG:=qA hg;have HB4:=qA hb4;clear hg hb4 hv8;go_wp2_with fail
  refine HG.out.mono ?_;rintro _ w3 ⟨rfl,hF⟩;have HJ:=qA (aSC X0 X1 X2 X3 w3);have hb4:=hF.blk HB4.out (by simp);have r0:=hb4.cell 0;have r1:=hb4.cell 1;have r2:=hb4.cell 2;have r3:=hb4.cell 3;simp only[zJ,zK]at r0 r1 r2 r3;have HP3:=qA (zI (HP.out.1.trans' hF) (hF.blk HP.out.2.2 (by simp)));clear hb4 hF HG HB4 HP;go_wp2_with fail
  refine HJ.out.mono ?_;rintro _ w4 ⟨rfl,hF⟩;have hb:=hF.blk HP3.out.2 (by simp);have c0:=hb.cell 0;have c1:=hb.cell 1;have c2:=hb.cell 2;have c3:=hb.cell 3;have z0:=hb.frozen 0;have z1:=hb.frozen 1;have z2:=hb.frozen 2;have z3:=hb.frozen 3;simp only[zJ,zK]at c0 c1 c2 c3;have HF4:=qA (HP3.out.1.trans' hF);have hq:=(((hb.set 0 (.int .i64 X0)).set 1 (.int .i64 X1)).set 2 (.int .i64 X2)).set 3 (.int .i64 X3);have q0:=hq.cell 0;have q1:=hq.cell 1;have q2:=hq.cell 2;have q3:=hq.cell 3;simp only[qY,qU,zJ,zK]at q0 q1 q2 q3;clear hb hq hF HJ r0 r1 r2 r3 HP3;go_wp2
  exact bodyPost_ret (v:=.tuple #[.agg #[.int .i64 X0,.int .i64 X1,.int .i64 X2,.int .i64 X3],.int .i64 32,.int .i64 0]) (by simp[results,Tryz.results52,go_sem,q0,q1,q2,q3]) rfl ⟨by rw[HXX.out.1,HXX.out.2.1,HXX.out.2.2.1,HXX.out.2.2.2],(((HF4.out.setCell _ _ (.inr (qK _))).setCell _ _ (.inr (qK _))).setCell _ _ (.inr (qK _))).setCell _ _ (.inr (qK _))⟩}
theorem aSE{w:World}{b off n cap:Nat}{l:List Nat}(hr:RdB w (some ⟨b,off,none⟩) l)(hb:Byt l)(hn:l.length=n)(h32:32<=n)(hc:n<=cap)(hL:iC w)
    (hw:0<=cA (aI (aC (sub l 0 8))) (aI (aC (sub l 8 8))) (aI (aC (sub l 16 8))) (aI (aC (sub l 24 8)))):
    Calls Tryz.prog 52 #[.slice (some ⟨b,off,none⟩) n cap] w fun e w' =>e=.returned (.tuple #[.agg #[.int .i64 0,.int .i64 0,.int .i64 0,.int .i64 0],.int .i64 0,.int .i64 2])/\Fr [] w w' :=by
 have d0:decide ((n:Int)<32)=false:=qF (by omega);have d1:¬n<32:=by omega
 have HR:=qA (zI hr (zI hb hn));have HL:=qA hL;have HW:=qA hw;have HC:=qA (zI h32 hc);clear hr hb hn hL hw h32 hc;go_enter Tryz.func52,Tryz.ntmps52
 go_wp2_with fail
 have HP0:=qA (show Fr [] w ((w.alloc (.cells #[.int .i64 0,.int .i64 0,.int .i64 0,.int .i64 0] 31)).alloc (.cells #[.int .i64 0,.int .i64 0,.int .i64 0,.int .i64 0] 115))/\Blk ((w.alloc (.cells #[.int .i64 0,.int .i64 0,.int .i64 0,.int .i64 0] 31)).alloc (.cells #[.int .i64 0,.int .i64 0,.int .i64 0,.int .i64 0] 115)) (w.heap.size+1) 115 (iP l 0)/\Blk ((w.alloc (.cells #[.int .i64 0,.int .i64 0,.int .i64 0,.int .i64 0] 31)).alloc (.cells #[.int .i64 0,.int .i64 0,.int .i64 0,.int .i64 0] 115)) w.heap.size 31 [.int .i64 0,.int .i64 0,.int .i64 0,.int .i64 0] from by
   refine⟨((Fr.refl [] w).alloc _).alloc _,?_,((Fr.refl [] _).alloc _).blk (Blk.new w [.int .i64 0,.int .i64 0,.int .i64 0,.int .i64 0] 31) (by simp)⟩;have k:=Blk.new (w.alloc (.cells #[.int .i64 0,.int .i64 0,.int .i64 0,.int .i64 0] 31)) [.int .i64 0,.int .i64 0,.int .i64 0,.int .i64 0] 115;rw[World.size_alloc]at k;exact k)
 clear d0 d1;go_loopw [14] (fun i wr=>∃k:Nat,k<=4/\i=.int .i64 k/\Hid (Fr [] w wr/\Blk wr (w.heap.size+1) 115 (iP l k)/\Blk wr w.heap.size 31 [.int .i64 0,.int .i64 0,.int .i64 0,.int .i64 0])) (fun i _=>4-(intOf i).toNat)
 case atStart=>exact⟨0,by omega,rfl,HP0⟩
 case round=>
  clear HP0;obtain⟨k,hk,rfl,HP⟩:=hrel;rename World=>wr
  by_cases hlt:k<4
  {
  have hlt' :(k:Int)<4:=by omega
  have hk0:(0:Int)<=k:=by omega
  have hw1:IntKind.i64.wrap ((k:Int)+1)=((k+1:Nat):Int):=by rw[show(k:Int)+1=((k+1:Nat):Int) by omega];exact zG _ (by omega)
  have hw8:IntKind.i64.wrap (8*(k:Int))=((8*k:Nat):Int):=by rw[show 8*(k:Int)=((8*k:Nat):Int) by omega];exact zG _ (by omega)
  have hw9:IntKind.i64.wrap (((8*k:Nat):Int)+8)=((8*k+8:Nat):Int):=by rw[show((8*k:Nat):Int)+8=((8*k+8:Nat):Int) by omega];exact zG _ (by omega)
  have hp0:(0:Int)<=((8*k:Nat):Int):=by omega
  have hp1:((8*k:Nat):Int)<=((8*k+8:Nat):Int):=by omega
  have hp2:((8*k+8:Nat):Int)<=cap:=by have:=HC.out;omega
  have hne:¬cap=8*k:=by have:=HC.out;omega
  have t1:((8*k:Nat):Int).toNat=8*k:=zD _;have t2:((8*k+8:Nat):Int).toNat=8*k+8:=zD _;have e8:8*k+8-8*k=8:=by omega
  generalize hk8:8*k=k8 at *;have HK:=qA hk8;clear hk8;go_wp2_with fail
  clear hp0 hp1 hp2 hne t1 t2 hw8 hw9;have HS:=qA (show RdB w (some ⟨b,off+k8,none⟩) (sub l k8 8)/\Byt (sub l k8 8)/\(sub l k8 8).length=8 from⟨HR.out.1.sub k8 8,fS HR.out.2.1 k8 8,fR (by rw[HR.out.2.2];have:=HC.out;have:=HK.out;omega)⟩);go_loopw [7,25] (fun r c wr2=>∃(j:Nat) (x:Nat),j<=8/\r=.int .u64 x/\c=.int .i64 j/\wr2=wr/\Hid (x=aC ((sub l k8 8).take j))) (fun _ c _=>8-(intOf c).toNat)
  case atStart=>exact⟨0,0,by omega,rfl,rfl,rfl,qA rfl⟩
  case round=>
   obtain⟨j,x,hj,rfl,rfl,rfl,HX⟩:=hrel;by_cases hj8:j<8
   {
   have hj8' :(j:Int)<8:=by omega
   have hj0:(0:Int)<=j:=by omega
   have hw2:IntKind.i64.wrap ((j:Int)+1)=((j+1:Nat):Int):=by rw[show(j:Int)+1=((j+1:Nat):Int) by omega];exact zG _ (by omega)
   have hjl:j<(sub l k8 8).length:=by rw[HS.out.2.2];exact hj8
   obtain⟨b', off', eb,_,c0⟩:=(HS.out.1.fr HP.out.1) j hjl;simp only[qI,Addr.mk.injEq,and_true]at eb;obtain⟨rfl,rfl⟩:=eb;have hby:=HS.out.2.1 _ (List.getElem_mem hjl);have hx:x<72057594037927936:=by rw[HX.out];exact gM HS.out.2.1 hjl (by rw[HS.out.2.2];decide)
   have htk:(sub l k8 8).take (j+1)=(sub l k8 8).take j++[(sub l k8 8)[j]'hjl]:=by rw[List.take_add_one,qL hjl];rfl
   generalize (sub l k8 8)[j]'hjl=y at *;have hwy:IntKind.u64.wrap (y:Int)=y:=by simp[IntKind.wrap,IntKind.bits,IntKind.signed];omega
   have hwx:IntKind.u64.wrap ((x:Int)*256)=(x:Int)*256:=by simp[IntKind.wrap,IntKind.bits,IntKind.signed];omega
   have hor:=aCU hx hby;have HN:=qA (show x*256+y=aC ((sub l k8 8).take (j+1)) by rw[htk,kJ,<-HX.out]);clear htk HX;go_wp2_with fail
   go_roundw
   case rel=>exact⟨j+1,x*256+y,by omega,rfl,by go_num,trivial,HN⟩
   case measure=>simp[intOf];omega}
   {
   obtain rfl:j=8:=by omega
   have hxv:x=aC (sub l k8 8):=by {
   have e:=HX.out;rw[List.take_of_length_le (by rw[HS.out.2.2];exact qK _)]at e;exact e};have hx:x<18446744073709551616:=by rw[hxv];have h1:=fK HS.out.2.1;rw[HS.out.2.2]at h1;exact h1
   have hwz:=fG hx;obtain⟨yv,hyv⟩:∃yv,yv=aI x:=⟨_,rfl⟩;rw[<-hyv]at hwz;have hk8' :=HK.out;have hset:(iP l k).set k (.int .i64 yv)=iP l (k+1):=by {
   rw[hyv,hxv];have hk4:k=0∨k=1∨k=2∨k=3:=by omega
   rcases hk4 with rfl|rfl|rfl|rfl<;>subst hk8' <;> rfl};have c8:=HP.out.2.1.cell k;have z9:=HP.out.2.1.frozen k;have c9:wr.cell? ⟨w.heap.size+1,k,none⟩=some (.int .i64 0):=by {
   rw[c8];have hk4:k=0∨k=1∨k=2∨k=3:=by omega
   rcases hk4 with rfl|rfl|rfl|rfl<;>rfl};have hlt4:w.heap.size≠w.heap.size+1:=by omega
   have HN:=qA (show Fr [] w (wr.setCell ⟨w.heap.size+1,k,none⟩ (.int .i64 yv))/\Blk (wr.setCell ⟨w.heap.size+1,k,none⟩ (.int .i64 yv)) (w.heap.size+1) 115 (iP l (k+1))/\Blk (wr.setCell ⟨w.heap.size+1,k,none⟩ (.int .i64 yv)) w.heap.size 31 [.int .i64 0,.int .i64 0,.int .i64 0,.int .i64 0] from by
     refine⟨HP.out.1.setCell _ _ (.inr (by simp)),?_,((Fr.refl [w.heap.size+1] wr).setCell _ _ (.inl (by simp))).blk HP.out.2.2 (by simp)⟩;rw[<-hset];exact HP.out.2.1.set k (.int .i64 yv))
   clear hset hxv hyv HX hk8' HP c8;go_wp2_with fail
   go_roundw
   case rel=>exact⟨k+1,by omega,by go_num,HN⟩
   case measure=>simp[intOf];omega}}
  {
  obtain rfl:k=4:=by omega
  have hb4:Blk wr (w.heap.size+1) 115 [.int .i64 (aI (aC (sub l 0 8))),.int .i64 (aI (aC (sub l 8 8))),.int .i64 (aI (aC (sub l 16 8))),.int .i64 (aI (aC (sub l 24 8)))]:=HP.out.2.1;have hv8:∀i,i+8<=32->aC (sub l i 8)<18446744073709551616:=fun i hi=>by
    have h1:=fK (fS HR.out.2.1 i 8);rw[fR (by rw[HR.out.2.2];have:=HC.out;omega)]at h1;exact h1
  have hg:=xY (HL.out.fr HP.out.1 (by simp)) (aI (aC (sub l 0 8))) (aI (aC (sub l 8 8))) (aI (aC (sub l 16 8))) (aI (aC (sub l 24 8))) (dX _ (hv8 0 (by omega))).2;have hw:=HW.out;clear HW;generalize hX0:aI (aC (sub l 0 8))=X0 at *;generalize hX1:aI (aC (sub l 8 8))=X1 at *;generalize hX2:aI (aC (sub l 16 8))=X2 at *;generalize hX3:aI (aC (sub l 24 8))=X3 at *;have r0:=hb4.cell 0;have r1:=hb4.cell 1;have r2:=hb4.cell 2;have r3:=hb4.cell 3;simp only[zJ,zK,Nat.add_zero]at r0 r1 r2 r3;generalize cA X0 X1 X2 X3=xw at *;have dw:decide (xw≥0)=true:=qG hw;clear hX0 hX1 hX2 hX3;have HG:=qA hg;have HB4:=qA hb4;clear hg hb4 hv8;go_wp2_with fail
  refine HG.out.mono ?_;rintro _ w3 ⟨rfl,hF⟩;have hb:=hF.blk HP.out.2.2 (by simp);have c0:=hb.cell 0;have c1:=hb.cell 1;have c2:=hb.cell 2;have c3:=hb.cell 3;have z0:=hb.frozen 0;have z1:=hb.frozen 1;have z2:=hb.frozen 2;have z3:=hb.frozen 3;simp only[zJ,zK]at c0 c1 c2 c3;have HF4:=qA (HP.out.1.trans' hF);have hq:=(((hb.set 0 (.int .i64 0)).set 1 (.int .i64 0)).set 2 (.int .i64 0)).set 3 (.int .i64 0);have q0:=hq.cell 0;have q1:=hq.cell 1;have q2:=hq.cell 2;have q3:=hq.cell 3;simp only[qY,qU,zJ,zK]at q0 q1 q2 q3;clear hb hq hF r0 r1 r2 r3 HP HG HB4;go_wp2
  exact bodyPost_ret (v:=.tuple #[.agg #[.int .i64 0,.int .i64 0,.int .i64 0,.int .i64 0],.int .i64 0,.int .i64 2]) (by simp[results,Tryz.results52,go_sem,q0,q1,q2,q3]) rfl ⟨rfl,(((HF4.out.setCell _ _ (.inr (qK _))).setCell _ _ (.inr (qK _))).setCell _ _ (.inr (qK _))).setCell _ _ (.inr (qK _))⟩}
def Rst(w:World)(rb b off n cap:Nat)(l:List Nat):Prop:=Blk w rb 22 [.slice (some ⟨b,off,none⟩) n cap]/\RdB w (some ⟨b,off,none⟩) l/\Byt l/\l.length=n/\n<cap/\rb≠b
section
variable {w w' :World} {rb b off n cap:Nat} {l:List Nat}
theorem Rst.fr{S:List Nat}(h:Rst w rb b off n cap l)(hf:Fr S w w')(h1:rb∉S)(h2:b∉S):Rst w' rb b off n cap l:=by
 obtain⟨k1,k2,k3,k4,k5,k6⟩:=h;exact⟨hf.blk k1 h1,k2.frS hf (fun b' off' e=>by simp only[qI,Addr.mk.injEq]at e;rw[<-e.1];exact h2),k3,k4,k5,k6⟩
theorem nL(h:Rst w rb b off n cap l)(h8:8<=n):Calls Tryz.prog 51 #[.pointer (some ⟨rb,0,none⟩)] w fun e w' =>e=.returned (.int .u64 (aC (l.take 8):Nat))/\Rst w' rb b (off+8) (n-8) (cap-8) (l.drop 8)/\Fr [rb] w w' :=by
 obtain⟨k1,k2,k3,k4,k5,k6⟩:=h;refine(aSA k1 k2 k3 k4 h8 k5).mono ?_;rintro _ _ ⟨rfl,rfl⟩;have hF:Fr [rb] w (w.setCell ⟨rb,0,none⟩ (.slice (some ⟨b,off+8,none⟩) (n-8) (cap-8))):=(Fr.refl _ _).setCell _ _ (.inl (by simp));refine⟨rfl,⟨k1.set 0 _,(k2.drop 8).frS hF (fun b' off' e=>?_),k3.drop 8,by rw[List.length_drop,k4],by omega,k6⟩,hF⟩;simp only[qI,Addr.mk.injEq]at e;simp only[qH,<-e.1];exact fun e=>k6 e.symm
end
theorem dG{l:List Nat}(h:Byt l):aC (l.take 8)<18446744073709551616:=by
 have h1:=fK (h.take 8);have h2:256 ^ (l.take 8).length<=256 ^ 8:=Nat.pow_le_pow_right (by decide) (by rw[List.length_take];omega);exact Nat.lt_of_lt_of_le h1 h2
def aCW(r:R4):List Value:=[.int .u64 (r.1:Nat),.int .u64 (r.2.1:Nat),.int .i64 r.2.2.1,.int .i64 r.2.2.2]
def eK(l:List R4):List Value:=l.flatMap aCW
def lL:Nat->List Value
  | 0=>[]
  | n+1=>[.int .u64 0,.int .u64 0,.int .i64 0,.int .i64 0]++lL n
theorem vT(l:List R4):(eK l).length=l.length*4:=by
 induction l with
 | nil=>rfl
 | cons r l ih=>show(aCW r++eK l).length=_;rw[zF,ih];show 4+_=_;simp only[qZ];omega
theorem rR(A B:List Value)(j:Nat)(x:Value):(A++B).set (A.length+j) x=A++B.set j x:=by
 rw[List.set_append_right _ _ (by omega),Nat.add_sub_cancel_left]
theorem aKV(l:List R4)(n:Nat)(r:R4):((((eK l++lL (n+1)).set (l.length*4) (.int .u64 (r.1:Nat))).set (l.length*4+1) (.int .u64 (r.2.1:Nat))).set (l.length*4+2) (.int .i64 r.2.2.1)).set (l.length*4+3) (.int .i64 r.2.2.2)=eK (l++[r])++lL n:=by
 have h0:=vT l;have e:eK (l++[r])=eK l++aCW r:=by unfold eK;rw[List.flatMap_append];simp
 rw[e,List.append_assoc,<-h0];rw[show(eK l++lL (n+1)).set (eK l).length (.int .u64 (r.1:Nat))=eK l++(lL (n+1)).set 0 (.int .u64 (r.1:Nat)) from rR _ _ 0 _,rR,rR,rR];rfl
theorem aOV(l:List R4)(n j:Nat)(hj:j<4):(eK l++lL (n+1))[l.length*4+j]? =([.int .u64 0,.int .u64 0,.int .i64 0,.int .i64 0]:List Value)[j]? :=by
 rw[<-vT l,List.getElem?_append_right (by omega),show(eK l).length+j-(eK l).length=j by omega];unfold lL;rw[List.getElem?_append_left (by simpa using hj)]
theorem aAQ:∀{l:List R4} {i:Nat} (hi:i<l.length) (j:Nat),j<4->(eK l)[i*4+j]? =(aCW l[i])[j]?
  | r::l,0,_,j,hj=>by
    show(aCW r++eK l)[0*4+j]? =_
    rw[Nat.zero_mul,Nat.zero_add,List.getElem?_append_left (by exact hj)];rfl
  | r::l,i+1,hi,j,hj=>by
    show(aCW r++eK l)[(i+1)*4+j]? =_
    rw[List.getElem?_append_right (by show 4<=_;omega)];have:=aAQ (l:=l) (i:=i) (by simpa using hi) j hj;rw[show(i+1)*4+j-(aCW r).length=i*4+j by show _-4=_;omega,this];rfl
theorem aSF{w:World}{qb:Nat}{l:List R4}(h:Blk w qb 72 (eK l)):RcW w (some ⟨qb,0,none⟩) l:=fun i hi=>by
 have hc:=fun j (hj:j<4)=>(h.cell (i*4+j)).trans (aAQ hi j hj);have h0:=hc 0 (by decide);have h1:=hc 1 (by decide);have h2:=hc 2 (by decide);have h3:=hc 3 (by decide);refine⟨qb,0,rfl,h.lt,?_,?_,?_,?_⟩<;>simp only[Nat.zero_add]
 · exact h0
 · exact h1
 · exact h2
 · exact h3
def rz:Value:=.agg #[.int .u64 0,.int .u64 0,.int .i64 0,.int .i64 0]
def lM(n:Nat):Array Value:=madeCells rz.cells (n*4)
theorem Tryz.inforr:(Tryz.prog.info? 72).map (fun i=>(i.zero,i.size,i.bytes))=some (some rz,4,32):=by kernel_rfl
theorem uM(n:Nat)(w:World)(hn:n<=16384):(Instr.makeSlice 98 (.int .u64 n) (.int .u64 n)).run Tryz.prog w=.ok (.slice (some ⟨w.heap.size,0,none⟩) n n) (w.alloc (.cells (lM n) 72)):=by
 obtain⟨i0,hi,hz0,hz1,hz2⟩:=info_parts Tryz.inforr;have h:=run_make (P:=Tryz.prog) w 98 72 i0 rz Tryz.underlying98 hi hz0 .u64 .u64 n n (by omega) (by omega) (by rw[hz2];omega) (by omega);rw[hz1]at h;simp only[zD]at h;exact h
theorem vU(n:Nat):(lM n).toList=lL n:=by
 have hz:rz.cells=#[.int .u64 0,.int .u64 0,.int .i64 0,.int .i64 0]:=by rfl
 have key:∀k,(List.range (k*4)).map (fun i=>rz.cells[i%rz.cells.size]!)=lL k:=by {
 intro k;induction k with
 | zero=>rfl
 | succ k ih=>{
 have hr:List.range ((k+1)*4)=List.range 4++(List.range (k*4)).map (4+·):=by rw[show(k+1)*4=4+k*4 by omega,List.range_add]
 rw[hr,List.map_append,List.map_map];unfold lL;congr 1
 rw[<-ih];refine List.map_congr_left fun i _=>?_;show rz.cells[(4+i)%rz.cells.size]! =rz.cells[i%rz.cells.size]!
 rw[show rz.cells.size=4 by rw[hz];rfl,Nat.add_mod_left]}};unfold lM madeCells;rw[Array.toList_map,Array.toList_range];exact key n
theorem aKW(w:World)(n:Nat):Blk (w.alloc (.cells (lM n) 72)) w.heap.size 72 (eK []++lL n):=by
 have k:=Blk.new w (lM n).toList 72;rw[vU]at k;rw[show lM n=(lL n).toArray by rw[<-vU]];exact k
theorem xZ{m E V D now:Int}{g:Nat}{l:List R4}(h:9223372036854775807<g+l.length∨eZ m E V D=false∨E<l.length∨now<0):eU m E V D now g l=none:=by
 unfold eU;rw[qC];rintro⟨h1,h2,h3,h4,h5⟩;rcases h with h|h|h|h
 · omega
 · rw[h]at h2;cases h2
 · omega
 · unfold mI at h5;rw[qD h]at h5;cases h5
def LdE(W w' :World)(ts:List Th)(R:Int×Option Ob)(e:Ending):Prop:=match R.2 with
  | none=>e=.returned (.tuple #[.pointer none,.int .i64 R.1])/\Wd W w' ts
  | some o=>∃p,e=.returned (.tuple #[eA p,.int .i64 R.1])/\Wd W w' (thO p o::ts)
def hdB(a b c d e:Nat):Bool:=decide ([a,b,c,d,e]=jU)
theorem Tryz.infoy5:∃i,Tryz.prog.info? 5=some i:=qV.1 (by kernel_rfl)
@[go_sem] theorem aSW(a b c d e:Nat)(w:World):(Op.equalIn 10000 91 (.agg #[.int .u8 a,.int .u8 b,.int .u8 c,.int .u8 d,.int .u8 e]) (.agg #[.int .u8 83,.int .u8 69,.int .u8 69,.int .u8 80,.int .u8 1])).run Tryz.prog w=.ok (hdB a b c d e) w:=by
 obtain⟨i,hi⟩:=Tryz.infoy5;have u3:=Tryz.underlying5;have a3:=Tryz.isAgg5;have z3:=Tryz.sizeOf5;have hc:Tryz.prog.cellsOf 5=1:=by kernel_rfl
 rw[show(10000:Nat)=9999+1 from rfl,run_equalIn_array w 9999 _ _ Tryz.underlying91 hi,hc];have r2:List.range 5=[0,1,2,3,4]:=rfl;rw[r2];simp only[Op.eqItems];go_simp;have e1:∀(x y:Nat),((x:Int) == (y:Int))=(x == y):=fun x y=>by rw[Bool.eq_iff_iff];simp only[beq_iff_eq];omega
 have k1:=e1 a 83;have k2:=e1 b 69;have k3:=e1 c 69;have k4:=e1 d 80;have k5:=e1 e 1;unfold hdB jU;by_cases h1:a=83<;>by_cases h2:b=69<;>by_cases h3:c=69<;>by_cases h4:d=80<;>by_cases h5:e=1<;>simp_all<;>omega
@[go_sem] theorem aSG(op:BinOp)(x y:Operand)(xs ys:Array Value)(w:World):(eqGuard op 91 x y (.agg xs) (.agg ys)).run Tryz.prog w=.ok () w:=run_eqGuard_agg w op 91 x y xs ys (by kernel_rfl)
theorem aOW{k q:Nat}(h:k<=1073741824)(hq:q=k/32):wrap64 ((k:Int)/32)=(q:Int):=by
 rw[show(k:Int)/32=(q:Int) by omega];exact IntWalk.wrap64_in _ ⟨by omega,by omega⟩
theorem aEW{q:Nat}(h:q<18446744073709551616):IntKind.u64.wrap (q:Int)=q:=by rw[IntKind.wrap_u64];omega
theorem aEX{W w:World}{ts:List Th}{a:Option Addr}{l:List Nat}{n cap:Nat}(h:Wd W w ts)(hL:iC W)(hr:RdB w a l)(hb:Byt l)(hn:l.length=n)(hl:n<=1073741824)(hc:n<=cap):
    Calls Tryz.prog 21 #[.slice a n cap] w fun e w' =>LdE W w' ts (bX l) e:=by
  by_cases h65:n<65
  · rw [lJ (by omega)]
    have HW:=qA h;have d1:decide ((n:Int)<65)=true:=qG (by omega);have d2:decide (n<65)=true:=qG h65;clear h hL hr hb hn hl hc h65;go_enter Tryz.func21,Tryz.ntmps21
    go_wp2_with fail
    refine eH (fun w' =>Fr [] w w') (by kernel_rfl) (by kernel_rfl) ((Fr.refl [] w).drew) ?_;iterate 4 (refine aJ (by kernel_rfl) (fun KK hK=>?_);go_simp;refine hK.out _ ?_;clear hK KK)
    iterate 5 (refine rM (by kernel_rfl) ?_)
    iterate 1 (refine aJ (by kernel_rfl) (fun KK hK=>?_);go_simp;refine hK.out _ ?_;clear hK KK)
    refine jN ?_;intro w5 hf5;have HF5:=qA hf5;clear hf5;go_wp2_with fail
    go_ret2;exact⟨rfl,HW.out.fr0 HF5.out⟩
  · obtain ⟨m, hm⟩ : ∃ m, n = m + 4 := ⟨n - 4, by omega⟩
    have hm61:61<=m:=by omega
    obtain⟨b,off,rfl,hbl,hq⟩:=hr 0 (by omega);clear hq;have d1:decide ((n:Int)<65)=false:=qF (by omega);have d2:decide (n<65)=false:=qF h65;obtain⟨x0,hx0⟩:∃x,x=l[0]'(by omega):=⟨_,rfl⟩;obtain⟨x1,hx1⟩:∃x,x=l[1]'(by omega):=⟨_,rfl⟩;obtain⟨x2,hx2⟩:∃x,x=l[2]'(by omega):=⟨_,rfl⟩;obtain⟨x3,hx3⟩:∃x,x=l[3]'(by omega):=⟨_,rfl⟩;obtain⟨x4,hx4⟩:∃x,x=l[4]'(by omega):=⟨_,rfl⟩;have h5:l.take 5=[x0,x1,x2,x3,x4]:=by
      rw[hx0,hx1,hx2,hx3,hx4];match l,hn,hm,hm61 with
      | y0::y1::y2::y3::y4::l,_,_,_=>rfl
      | [],h,_,_=>simp at h;omega
      | [_],h,_,_=>simp at h;omega
      | [_,_],h,_,_=>simp at h;omega
      | [_,_,_],h,_,_=>simp at h;omega
      | [_,_,_,_],h,_,_=>simp at h;omega
    have cc:∀i (hi:i<l.length),w.cell? ⟨b,off+i,none⟩=some (.int .u8 (l[i]'hi:Nat)):=fun i hi=>by
      obtain⟨b', off', e,_,hc⟩:=hr i hi;simp only[qI,Addr.mk.injEq,and_true]at e;obtain⟨rfl,rfl⟩:=e;exact hc
    have c0:=cc 0 (by omega);have c1:=cc 1 (by omega);have c2:=cc 2 (by omega);have c3:=cc 3 (by omega);have c4:=cc 4 (by omega);rw[<-hx0,Nat.add_zero]at c0;rw[<-hx1]at c1;rw[<-hx2]at c2;rw[<-hx3]at c3;rw[<-hx4]at c4;clear cc hx0 hx1 hx2 hx3 hx4;have hat:∀w,(Instr.arrayAt 91 (.slice (some ⟨b,off,none⟩) n cap)).run Tryz.prog w=.ok (.pointer (some ⟨b,off,none⟩)) w:=fun w=>run_arrayAt w 91 _ 5 _ n cap Tryz.underlying91 (by omega);obtain⟨hd,hhd⟩:∃hd,hd=hdB x0 x1 x2 x3 x4:=⟨_,rfl⟩;have HHd:=qA (zI hhd h5);have HW:=qA h;have HR:=qA (zI hr (zI hb hn));have HL:=qA hL;have HC:=qA (zI hm (zI hl (zI hc hbl)));clear h hr hb hn hL hc hbl h65 hm hl h5 hhd;go_enter Tryz.func21,Tryz.ntmps21
    go_wp2_with fail
    refine eH (fun w' =>Fr [] w w') (by kernel_rfl) (by kernel_rfl) ((Fr.refl [] w).drew) ?_;iterate 6 (refine aJ (by kernel_rfl) (fun KK hK=>?_);go_simp;(try simp only[hat]);go_simp;refine hK.out _ ?_;clear hK KK)
    refine bO (by kernel_rfl) (.agg #[.int .u8 x0,.int .u8 x1,.int .u8 x2,.int .u8 x3,.int .u8 x4]) (fun w' hw' =>?_) ?_
    · have c0 := hw'.cell c0 (by simp)
      have c1:=hw'.cell c1 (by simp);have c2:=hw'.cell c2 (by simp);have c3:=hw'.cell c3 (by simp);have c4:=hw'.cell c4 (by simp);go_simp;first|exact hw' | exact⟨rfl,hw'⟩|skip
    refine bO (by kernel_rfl) (.agg #[.int .u8 83,.int .u8 69,.int .u8 69,.int .u8 80,.int .u8 1]) (fun w' hw' =>?_) ?_
    · go_simp
      refine(aKU w').mono ?_;rintro _ w6 ⟨rfl,h1⟩;exact⟨rfl,hw'.trans' h1⟩
    iterate 2 (refine aJ (by kernel_rfl) (fun KK hK=>?_);go_simp;refine hK.out _ ?_;clear hK KK)
    refine jN ?_;intro w5 hf5;have HF5:=qA hf5;rw[<-HHd.out.1];clear hf5 c0 c1 c2 c3 c4 hat d1 d2;cases hd with
    | false=>
      go_wp2_with fail
      go_ret2;rw[lK (l:=l) (by rw[HHd.out.2];exact of_decide_eq_false HHd.out.1.symm)];exact⟨rfl,HW.out.fr0 HF5.out⟩
    | true=>
      have HSt:=qA (aAO (l:=l) (HR.out.2.2.trans HC.out.1) hm61 (by rw[HHd.out.2];exact of_decide_eq_true HHd.out.1.symm) rfl rfl);clear HHd;obtain⟨B,hB⟩:∃B,B=l.take m:=⟨_,rfl⟩;obtain⟨T,hT⟩:∃T,T=l.drop m:=⟨_,rfl⟩;rw[<-hB,<-hT]at HSt;have hBl:B.length=m:=by rw[hB,List.length_take,HR.out.2.2,HC.out.1];omega
      have hTl:T.length=4:=by rw[hT,List.length_drop,HR.out.2.2,HC.out.1];omega
      have hBr:RdB w (some ⟨b,off,none⟩) B:=by rw[hB];exact HR.out.1.take m
      have hTr:RdB w (some ⟨b,off+m,none⟩) T:=by rw[hT];exact HR.out.1.drop m
      have hBb:Byt B:=by rw[hB];exact HR.out.2.1.take m
      have hTb:Byt T:=by rw[hT];exact HR.out.2.1.drop m
      have HW5:=qA (HW.out.fr0 HF5.out);have hsum:=aEV (cap:=cap) (hBr.fr HF5.out) hBb (by rw[hBl];have:=HC.out;omega);have hget:=aPV (cap:=cap-m) (hTr.fr HF5.out) hTb (by omega);rw[hBl]at hsum;rw[hTl]at hget;have hv:=fK hTb;rw[hTl]at hv;have hcr:=rU hBb;have HSum:=qA hsum;have HGet:=qA hget;have HB:=qA (zI hBr (zI hBb hBl));generalize aC T=s1 at *;generalize crc B=s2 at *;have hw1:IntKind.i64.wrap ((n:Int)-4)=(m:Int):=by
        rw[show(n:Int)-4=(m:Int) by have:=HC.out;omega];exact zG _ (by have:=HC.out;omega)
      have hw2:IntKind.u64.wrap (s2:Int)=s2:=by rw[IntKind.wrap_u64];omega
      have e1:(0:Int)<=m:=by omega
      have e2:(m:Int)<=cap:=by have:=HC.out;omega
      have e3:(m:Int)<=n:=by have:=HC.out;omega
      have e4:(n:Int)<=cap:=by have:=HC.out;omega
      have e5:¬cap=m:=by have:=HC.out;omega
      have e6:n-m=4:=by have:=HC.out;omega
      have e7:¬cap=0:=by have:=HC.out;omega
      clear hsum hget hBr hTr hBb hTb hv hcr hB hT hBl hTl HW HR;go_wp2_with fail
      refine HGet.out.mono ?_;rintro _ w6 ⟨rfl,rfl⟩;clear HGet;go_wp2_with fail
      refine HSum.out.mono ?_;rintro _ w7 ⟨rfl,rfl⟩;clear HSum;by_cases hs:s1=s2
      · subst hs
        have f1:(37:Int)<=m:=by omega
        have f2:(37:Int)<=cap:=by omega
        have f3:¬cap=37:=by have:=HC.out;omega
        have HSt:Hid (bX l=_):=qA (HSt.out.trans (qC (fun h=>h rfl)));have hRb:=Blk.new w7 [.slice (some ⟨b,off+37,none⟩) (m-37) (cap-37)] 22;have HA:=qA ((Fr.refl [] w7).alloc (.cells #[.slice (some ⟨b,off+37,none⟩) (m-37) (cap-37)] 22));have hRst:Rst (w7.alloc (.cells #[.slice (some ⟨b,off+37,none⟩) (m-37) (cap-37)] 22)) w7.heap.size b (off+37) (m-37) (cap-37) (B.drop 37):=by
          have hc:=HC.out;have hs:=HW5.out;refine⟨hRb,(HB.out.1.drop 37).fr ?_,HB.out.2.1.drop 37,by rw[List.length_drop,HB.out.2.2],by omega,?_⟩
          · exact HF5.out.alloc _
          · have:=HF5.out.size;omega
        have HRs:=qA hRst;have HAl:=qA (((Fr.refl [] w7).alloc (.cells #[.slice (some ⟨b,off+37,none⟩) (m-37) (cap-37)] 22)));clear hRb hRst HA;have hb37:=HB.out.2.1.drop 37;have b1:=dG hb37;have b2:=dG (hb37.drop 8);have b3:=dG ((hb37.drop 8).drop 8);have z1:=(nL HRs.out (by omega));obtain⟨R,hR⟩:∃R,R=(((B.drop 37).drop 8).drop 8).drop 8:=⟨_,rfl⟩;rw[<-hR]at HSt;have HRb:=qA (show Byt R/\R.length=m-61 by
          rw[hR];exact⟨((hb37.drop 8).drop 8).drop 8,by simp only[List.length_drop,HB.out.2.2];omega⟩)
        have hR2:=qA hR;clear hR hb37;obtain⟨nv,hnv⟩:∃nv,nv=aC ((B.drop 37).take 8):=⟨_,rfl⟩;rw[<-hnv]at z1 b1 HSt;have hwn:=fG b1;have hnz:=dX nv b1;generalize aI nv=nz at *;have HN1:=qA z1;clear z1 hnv b1;go_wp2_with fail
        refine HN1.out.mono ?_;rintro _ w8 ⟨rfl,hr8,hf8⟩;clear HN1;have z2:=(nL hr8 (by omega));obtain⟨av,hav⟩:∃av,av=aC (((B.drop 37).drop 8).take 8):=⟨_,rfl⟩;rw[<-hav]at z2 b2 HSt;have HN2:=qA z2;have HF8:=qA (HAl.out.trans hf8 (fun q hq=>.inr (by simp only[qH]at hq;omega)));clear z2 hav hr8 hf8 HAl HRs;go_wp2_with fail
        refine HN2.out.mono ?_;rintro _ w9 ⟨rfl,hr9,hf9⟩;clear HN2;have z3:=(nL hr9 (by omega));obtain⟨gv,hgv⟩:∃gv,gv=aC ((((B.drop 37).drop 8).drop 8).take 8):=⟨_,rfl⟩;rw[<-hgv]at z3 b3 HSt;have HN3:=qA z3;have HF9:=qA (HF8.out.trans hf9 (fun q hq=>.inr (by simp only[qH]at hq;omega)));clear z3 hgv hr9 hf9 HF8;go_wp2_with fail
        refine HN3.out.mono ?_;rintro _ w10 ⟨rfl,hr10,hf10⟩;have HF10:=qA (HF9.out.trans hf10 (fun q hq=>.inr (by simp only[qH]at hq;omega)));obtain⟨k,hk⟩:∃k,k=m-61:=⟨_,rfl⟩;obtain⟨c3,hc3⟩:∃c3,c3=cap-61:=⟨_,rfl⟩;obtain⟨o3,ho3⟩:∃o3,o3=off+61:=⟨_,rfl⟩;rw[<-hR2.out,show m-37-8-8-8=k by omega,show cap-37-8-8-8=c3 by omega,show off+37+8+8+8=o3 by omega]at hr10;rw[<-hk]at HSt HRb;have hrc:=hr10.1.cell 0;simp only[zJ]at hrc;have HR10:=qA hr10;have HK:=qA (zI hk (zI hc3 ho3));clear HN3 HF9 hr10 hf10 hR2 hk hc3 ho3 hwn;by_cases hag:av<gv
        · have d1 : decide ((av : Int) < gv) = true := qG (by omega)
          have d2:decide (av<gv)=true:=qG hag;rw[qD (.inl hag)]at HSt;go_wp2_with fail
          go_ret2;rw[HSt.out];exact⟨rfl,HW5.out.fr0 HF10.out⟩
        · have d1 : decide ((av : Int) < gv) = false := qF (by omega)
          have d2:decide (av<gv)=false:=qF hag;obtain⟨cnt,hcnt⟩:∃cnt,cnt=av-gv:=⟨_,rfl⟩;have hws:IntKind.u64.wrap ((av:Int)-gv)=(cnt:Int):=by rw[IntKind.wrap_u64];omega
          rw[<-hcnt]at HSt;have hcb:cnt<18446744073709551616:=by omega
          have HCn:=qA hcnt;clear hcnt;obtain⟨q,hq⟩:∃q,q=k/32:=⟨_,rfl⟩;have hkb:k<=1073741824:=by have:=HK.out.1;have:=HC.out;omega
          have hw7:=aEW (q:=q) (by omega);have HKd:=qA (aOW hkb hq);rw[<-hq]at HSt;by_cases hm:k%32=0
          · have hm' : (k : Int) % 32 = 0 := by omega
            have hkq:k=32*q:=by omega
            have HKq:=qA (zI hkq hkb);clear hq hkb hkq;by_cases hqc:q=cnt
            · subst hqc
              have hx:((q:Int) != (q:Int))=false:=by simp
              rw[qC (by omega)]at HSt;have hFw:=HF5.out.trans' HF10.out;have hr5:=(HB.out.1.drop 5).fr hFw;have hb5:=HB.out.2.1.drop 5;have hl5:(B.drop 5).length=m-5:=by rw[List.length_drop,HB.out.2.2]
              have hLC:iC w10:=HL.out.fr (HW5.out.fr0 HF10.out).frm (by simp);have hv8:∀i,i+8<=32->aC (sub (B.drop 5) i 8)<18446744073709551616:=fun i hi=>by
                have h1:=fK (fS hb5 i 8);rw[fR (by rw[hl5];omega)]at h1;exact h1
              have h0:=dX _ (hv8 0 (by omega));have h1:=dX _ (hv8 8 (by omega));have h2:=dX _ (hv8 16 (by omega));have h3:=dX _ (hv8 24 (by omega));have hgo:=aSD (cap:=cap-5) hr5 hb5 hl5 (by omega) (by omega) hLC;have hgn:=aSE (cap:=cap-5) hr5 hb5 hl5 (by omega) (by omega) hLC;generalize aI (aC (sub (B.drop 5) 0 8))=m0 at *;generalize aI (aC (sub (B.drop 5) 8 8))=E0 at *;generalize aI (aC (sub (B.drop 5) 16 8))=V0 at *;generalize aI (aC (sub (B.drop 5) 24 8))=D0 at *;clear hFw hr5 hb5 hl5 hLC hv8;cases hcf:eZ m0 E0 V0 D0 with
              | false=>
                have HG:=qA (hgn (aGX hcf));rw[xZ (.inr (.inl hcf))]at HSt;clear hgo hgn hcf;have hkd:=HKd.out;go_wp2_with fail
                clear hkd;refine HG.out.mono ?_;rintro _ w11 ⟨rfl,hF⟩;have HF11:=qA (HF10.out.trans' hF);clear hF;go_wp2_with fail
                go_ret2;rw[HSt.out];exact⟨rfl,HW5.out.fr0 (HF11.out.alloc _)⟩
              | true=>
                have HG:=qA (hgo (vS hcf));have HCf:=qA hcf;have hcc:=cO.1 hcf;clear hgo hgn hcf;obtain⟨E,rfl⟩:=Int.eq_ofNat_of_zero_le (show 0<=E0 by omega);have hwE:=aEW (q:=E) (by omega);by_cases hqE:E<q
                · rw [xZ (.inr (.inr (.inl (by rw [dO]; omega))))] at HSt
                  have g1:decide ((q:Int)>E)=true:=qG (by omega);have g2:decide (E<q)=true:=qG hqE;have hkd:=HKd.out;go_wp2_with fail
                  clear hkd;refine HG.out.mono ?_;rintro _ w11 ⟨rfl,hF⟩;have HF11:=qA (HF10.out.trans' hF);clear hF;have hbk:=Blk.new w11 [.int .i64 m0,.int .i64 E,.int .i64 V0,.int .i64 D0] 31;have r0:=hbk.cell 0;have r1:=hbk.cell 1;have r2:=hbk.cell 2;have r3:=hbk.cell 3;simp only[zJ,zK]at r0 r1 r2 r3;clear hbk;go_wp2_with fail
                  go_ret2;rw[HSt.out];exact⟨rfl,HW5.out.fr0 (HF11.out.alloc _)⟩
                · have g1 : decide ((q : Int) > E) = false := qF (by omega)
                  have g2:decide (E<q)=false:=qF hqE;have hq0:q<=16384:=by omega
                  have hmk:=fun w' =>uM q w' hq0;have hkd:=HKd.out;go_wp2_with fail
                  clear hkd;refine HG.out.mono ?_;rintro _ w11 ⟨rfl,hF⟩;have HF11:=qA (HF10.out.trans' hF);have hbk:=Blk.new w11 [.int .i64 m0,.int .i64 E,.int .i64 V0,.int .i64 D0] 31;have r0:=hbk.cell 0;have r1:=hbk.cell 1;have r2:=hbk.cell 2;have r3:=hbk.cell 3;simp only[zJ,zK]at r0 r1 r2 r3;have hrl:=HRb.out.2;have hkq:=HKq.out.1
                  have HP0:Hid (Fr [] w7 ((w11.alloc (.cells #[.int .i64 m0,.int .i64 E,.int .i64 V0,.int .i64 D0] 31)).alloc (.cells (lM q) 72)) /\
                      Blk ((w11.alloc (.cells #[.int .i64 m0,.int .i64 E,.int .i64 V0,.int .i64 D0] 31)).alloc (.cells (lM q) 72)) (w11.heap.size+1) 72 (eK (bK 0 R)++lL (q-0)) /\
                      Rst ((w11.alloc (.cells #[.int .i64 m0,.int .i64 E,.int .i64 V0,.int .i64 D0] 31)).alloc (.cells (lM q) 72)) w7.heap.size b (o3+32*0) (32*q-32*0) (c3-32*0) (R.drop (32*0)) /\
                      Blk ((w11.alloc (.cells #[.int .i64 m0,.int .i64 E,.int .i64 V0,.int .i64 D0] 31)).alloc (.cells (lM q) 72)) w11.heap.size 31 [.int .i64 m0,.int .i64 E,.int .i64 V0,.int .i64 D0]):=qA (by
                    have hF2:Fr [] w11 ((w11.alloc (.cells #[.int .i64 m0,.int .i64 E,.int .i64 V0,.int .i64 D0] 31)).alloc (.cells (lM q) 72)):=((Fr.refl [] w11).alloc _).alloc _;refine⟨HF11.out.trans' hF2,?_,?_,((Fr.refl [] _).alloc _).blk hbk (by simp)⟩
                    · have k1 := aKW (w11.alloc (.cells #[.int .i64 m0, .int .i64 E, .int .i64 V0, .int .i64 D0] 31)) q
                      rw[World.size_alloc]at k1;exact k1
                    · have k2 := HR10.out.fr (hF.trans' hF2) (by simp) (by simp)
                      rw[hkq]at k2;exact k2)
                  have hrb:w7.heap.size<w11.heap.size:=by
                    have e1:=HR10.out.1.lt;have e2:=hF.size;omega
                  have hbw:b<w11.heap.size:=by
                    have e1:=HF5.out.size;have e2:=HF11.out.size;have e3:=HC.out;omega
                  clear hbk hF HG;go_wp2_with fail
                  clear r0 r1 r2 r3;go_loopw [14,93] (fun c1 c2 wr=>∃i:Nat,i<=q/\c2=.int .i64 i/\Hid (Fr [] w7 wr/\Blk wr (w11.heap.size+1) 72 (eK (bK i R)++lL (q-i))/\Rst wr w7.heap.size b (o3+32*i) (32*q-32*i) (c3-32*i) (R.drop (32*i))/\Blk wr w11.heap.size 31 [.int .i64 m0,.int .i64 E,.int .i64 V0,.int .i64 D0])) (fun _ c _=>q-(intOf c).toNat)
                  case atStart=>exact⟨0,by omega,rfl,HP0⟩
                  case round=>
                    clear HP0;obtain⟨i,hi,rfl,HP⟩:=hrel;rename World=>wr
                    by_cases hlt:i<q
                    · have hi1 : (i : Int) < q := by omega
                      have hi0:(0:Int)<=i:=by omega
                      have hwi:IntKind.i64.wrap ((i:Int)+1)=((i+1:Nat):Int):=by rw[show(i:Int)+1=((i+1:Nat):Int) by omega];exact zG _ (by omega)
                      have hbd:=(HRb.out.1).drop (32*i);have b1:=dG hbd;have b2:=dG (hbd.drop 8);have b3:=dG ((hbd.drop 8).drop 8);have b4:=dG (((hbd.drop 8).drop 8).drop 8);have hsnoc:=lI i R;have hrl2:=dO i R;have hPr:=HP.out.2.2.1;have hz:q-i=(q-(i+1))+1:=by omega
                      have hS:=aKV (bK i R) (q-(i+1)) (gQ (R.drop (32*i)));have hA:=fun j hj=>aOV (bK i R) (q-(i+1)) j hj;rw[<-hsnoc]at hS;simp only[gQ]at hS;have hPb:=HP.out.2.1;rw[hz]at hPb;have hD:R.drop (32*(i+1))=(((((R.drop (32*i)).drop 8).drop 8).drop 8).drop 8):=by
                        simp only[List.drop_drop];congr 1
                      generalize eK (bK i R)++lL (q-(i+1)+1)=S at *;rw[hrl2]at hS hA;have HSt2:=qA hS;have HD:=qA hD;have HPf:=qA (zI HP.out.1 HP.out.2.2.2);clear hsnoc hrl2 hbd hS hD HP;have hlen1:8<=32*q-32*i:=by omega
                      have z1:=nL hPr hlen1;obtain⟨v1,hv1⟩:∃v,v=aC ((R.drop (32*i)).take 8):=⟨_,rfl⟩;rw[<-hv1]at z1 b1;have HN1:=qA z1;clear z1 hPr;have HV1:=qA hv1;clear hv1;go_wp2_with fail
                      refine HN1.out.mono ?_;rintro _ w12 ⟨rfl,hr12,hf12⟩;clear HN1;have z1:=nL hr12 (by omega);obtain⟨v2,hv2⟩:∃v,v=aC (((R.drop (32*i)).drop 8).take 8):=⟨_,rfl⟩;rw[<-hv2]at z1 b2;have HN1:=qA z1;have HF12:=qA hf12;have HV2:=qA hv2;clear z1 hr12 hf12 hv2;go_wp2_with fail
                      refine HN1.out.mono ?_;rintro _ w13 ⟨rfl,hr13,hf13⟩;clear HN1;have hrq:w7.heap.size≠w11.heap.size+1:=by omega
                      have hbq:b≠w11.heap.size+1:=by omega
                      have hb13:=hf13.blk (HF12.out.blk hPb (by simp only[qH];omega)) (by simp only[qH];omega);have hb14:=(hb13.set (i*4) (.int .u64 (v1:Nat))).set (i*4+1) (.int .u64 (v2:Nat));have hF14:Fr [w11.heap.size+1] w13 ((w13.setCell ⟨w11.heap.size+1,i*4,none⟩ (.int .u64 (v1:Nat))).setCell ⟨w11.heap.size+1,i*4+1,none⟩ (.int .u64 (v2:Nat))):=((Fr.refl _ _).setCell _ _ (.inl (by simp))).setCell _ _ (.inl (by simp));have hr14:=hr13.fr hF14 (by simpa using hrq) (by simpa using hbq);have k0:=(hb13.cell (i*4+0)).trans (hA 0 (by decide));have k1:=(hb13.cell (i*4+1)).trans (hA 1 (by decide));have z0:=hb13.frozen (i*4);have z1:=hb13.frozen (i*4+1);simp only[zJ,zK,Nat.add_zero]at k0 k1;have HB14:=qA hb14;have HF13:=qA (HF12.out.trans hf13 (fun q hq=>.inl (by simpa using hq)));have HF14:=qA hF14;have n1:=nL hr14 (by omega);obtain⟨v3,hv3⟩:∃v,v=aC ((((R.drop (32*i)).drop 8).drop 8).take 8):=⟨_,rfl⟩;rw[<-hv3]at n1 b3;have hwz:=fG b3;obtain⟨y3,hy3⟩:∃y,y=aI v3:=⟨_,rfl⟩;rw[<-hy3]at hwz;have HN1:=qA n1;have HV3:=qA (zI hv3 hy3);clear n1 hv3 hy3 hr13 hr14 hf13 hF14 hb13 hb14 hPb HF12;go_wp2_with fail
                      refine HN1.out.mono ?_;rintro _ w15 ⟨rfl,hr15,hf15⟩;clear HN1 k0 k1 z0 z1;have n1:=nL hr15 (by omega);obtain⟨v4,hv4⟩:∃v,v=aC (((((R.drop (32*i)).drop 8).drop 8).drop 8).take 8):=⟨_,rfl⟩;rw[<-hv4]at n1 b4;have hwz4:=fG b4;obtain⟨y4,hy4⟩:∃y,y=aI v4:=⟨_,rfl⟩;rw[<-hy4]at hwz4;have HN1:=qA n1;have HV4:=qA (zI hv4 hy4);have HF15:=qA hf15;clear n1 hv4 hy4 hr15 hf15;go_wp2_with fail
                      refine HN1.out.mono ?_;rintro _ w16 ⟨rfl,hr16,hf16⟩;clear HN1;have hb16:=hf16.blk (HF15.out.blk HB14.out (by simp only[qH];omega)) (by simp only[qH];omega);have hb17:=(hb16.set (i*4+2) (.int .i64 y3)).set (i*4+3) (.int .i64 y4);have hF17:Fr [w11.heap.size+1] w16 ((w16.setCell ⟨w11.heap.size+1,i*4+2,none⟩ (.int .i64 y3)).setCell ⟨w11.heap.size+1,i*4+3,none⟩ (.int .i64 y4)):=((Fr.refl _ _).setCell _ _ (.inl (by simp))).setCell _ _ (.inl (by simp));have hr17:=hr16.fr hF17 (by simpa using hrq) (by simpa using hbq);have hset:∀j,1<j->j<4->((S.set (i*4) (.int .u64 (v1:Nat))).set (i*4+1) (.int .u64 (v2:Nat)))[i*4+j]? =([.int .u64 0,.int .u64 0,.int .i64 0,.int .i64 0]:List Value)[j]? :=fun j h1 h4=>by
                        rw[List.getElem?_set_ne (by omega),List.getElem?_set_ne (by omega)];exact hA j h4
                      have k2:=(hb16.cell (i*4+2)).trans (hset 2 (by decide) (by decide));have k3:=(hb16.cell (i*4+3)).trans (hset 3 (by decide) (by decide));have z2:=hb16.frozen (i*4+2);have z3:=hb16.frozen (i*4+3);simp only[zJ,zK]at k2 k3;have HNew:=qA (show Fr [] w7 ((w16.setCell ⟨w11.heap.size+1,i*4+2,none⟩ (.int .i64 y3)).setCell ⟨w11.heap.size+1,i*4+3,none⟩ (.int .i64 y4))/\Blk ((w16.setCell ⟨w11.heap.size+1,i*4+2,none⟩ (.int .i64 y3)).setCell ⟨w11.heap.size+1,i*4+3,none⟩ (.int .i64 y4)) (w11.heap.size+1) 72 (eK (bK (i+1) R)++lL (q-(i+1)))/\Rst ((w16.setCell ⟨w11.heap.size+1,i*4+2,none⟩ (.int .i64 y3)).setCell ⟨w11.heap.size+1,i*4+3,none⟩ (.int .i64 y4)) w7.heap.size b (o3+32*(i+1)) (32*q-32*(i+1)) (c3-32*(i+1)) (R.drop (32*(i+1)))/\Blk ((w16.setCell ⟨w11.heap.size+1,i*4+2,none⟩ (.int .i64 y3)).setCell ⟨w11.heap.size+1,i*4+3,none⟩ (.int .i64 y4)) w11.heap.size 31 [.int .i64 m0,.int .i64 E,.int .i64 V0,.int .i64 D0] from by
                        have hF:=(((((HPf.out.1.trans HF13.out (fun x hx=>.inr (by simp only[qH]at hx;omega))).trans HF14.out (fun x hx=>.inr (by simp only[qH]at hx;omega))).trans HF15.out (fun x hx=>.inr (by simp only[qH]at hx;omega))).trans hf16 (fun x hx=>.inr (by simp only[qH]at hx;omega))).trans hF17 (fun x hx=>.inr (by simp only[qH]at hx;omega)));refine⟨hF,?_,?_,hF17.blk (hf16.blk (HF15.out.blk (HF14.out.blk (HF13.out.blk HPf.out.2 ?_) ?_) ?_) ?_) ?_⟩
                        · rw [<- HSt2.out, <- HV1.out, <- HV2.out, <- HV3.out.1, <- HV3.out.2, <- HV4.out.1, <- HV4.out.2]
                          exact hb17
                        · rw [HD.out, show o3 + 32 * (i + 1) = o3 + 32 * i + 8 + 8 + 8 + 8 by omega, show 32 * q - 32 * (i + 1) = 32 * q - 32 * i - 8 - 8 - 8 - 8 by omega, show c3 - 32 * (i + 1) = c3 - 32 * i - 8 - 8 - 8 - 8 by omega]
                          exact hr17
                        all_goals (simp only[qH];omega))
                      clear hb16 hb17 hF17 hr17 hset hr16 hf16 HB14 HF13 HF14 HF15 HPf HSt2 HD;go_wp2_with fail
                      go_roundw
                      case rel=>exact⟨i+1,by omega,by go_num,HNew⟩
                      case measure=>simp[intOf];omega
                    · obtain rfl : i = q := by omega
                      have hb:=HP.out.2.1;rw[Nat.sub_self,show lL 0=[] from rfl,List.append_nil]at hb;have hbc:=HP.out.2.2.2;have r0:=hbc.cell 0;have r1:=hbc.cell 1;have r2:=hbc.cell 2;have r3:=hbc.cell 3;simp only[zJ,zK]at r0 r1 r2 r3;have hres:=aRS (HW5.out.fr0 HP.out.1) m0 E V0 D0 nz gv (some ⟨w11.heap.size+1,0,none⟩) i (bK i R) b3 hnz.1 hnz.2 h0.2 (by rw[dO];omega) (aSF hb) (fun r hr=>by
                        have k:=nK i HRb.out.1 r hr;exact⟨k.1,k.2.1,k.2.2.2⟩)
                      rw[dO]at hres;have HRes:=qA hres;clear hres hb hbc HP;go_wp2_with fail
                      refine HRes.out.mono ?_;intro e w17 hre;cases hR:eU m0 E V0 D0 nz gv (bK i R) with
                      | none=>
                        rw[hR]at hre HSt;obtain⟨rfl,hW⟩:=hre;clear hR;go_wp2_with fail
                        go_ret2;rw[HSt.out];exact⟨rfl,hW⟩
                      | some o=>
                        rw[hR]at hre HSt;obtain⟨p,rfl,hW⟩:=hre;clear hR;go_wp2_with fail
                        go_ret2;rw[HSt.out];exact⟨p,rfl,hW⟩
            · have hx : ((q : Int) != (cnt : Int)) = true := by simp; omega
              have hx2:(q != cnt)=true:=by simp;omega
              rw[qD (.inr (.inr hqc))]at HSt;have hkd:=HKd.out;go_wp2_with fail
              go_ret2;rw[HSt.out];exact⟨rfl,HW5.out.fr0 HF10.out⟩
          · have hm' : ¬ (k : Int) % 32 = 0 := by omega
            clear hq;rw[qD (.inr (.inl hm))]at HSt;have hkd:=HKd.out;go_wp2_with fail
            go_ret2;rw[HSt.out];exact⟨rfl,HW5.out.fr0 HF10.out⟩
      · have f1 : ((s1 : Int) != (s2 : Int)) = true := by simp; omega
        have f2:(s1 != s2)=true:=by simp[hs]
        have HSt:Hid (bX l=_):=qA (HSt.out.trans (qD hs));go_wp2_with fail
        go_ret2;rw[HSt.out];exact⟨rfl,HW5.out⟩
theorem pN(x:Int):IntKind.u64.wrap x=((aX x:Nat):Int):=by rw[IntKind.wrap_u64];unfold aX;omega
theorem aGY{o:Ob}{l:List Lv}(h:aPU o l):l.map lvR=o.L.map lvR:=by
 rw[<-h.1,List.map_map];rfl
theorem aCX(l:List R4)(r:R4):bT (l++[r])=bT l++rL r:=by unfold bT;rw[List.flatMap_append];simp
theorem aEY{W w:World}{ts:List Th}{p:Nat}{o:Ob}(h:Wd W w (thO p o::ts))(hL:iC W)(hp:o.Pc):
    Calls Tryz.prog 19 #[eA p] w fun e w' =>∃v,e=.returned (.tuple #[v,.int .i64 0])/\Wd W w' (thY v o.img::thO p o::ts):=by
 have hok:=h.ob;have hle:=hok.leE;have hE:=hok.mE;have HO:=qA hok;have HW:=qA h;have HL:=qA hL;have HP:=qA hp;have hn0:=pN o.now;clear h hL hp hok;go_enter Tryz.func19,Tryz.ntmps19
 go_wp2_with fail
 refine(vQ HW.out).mono ?_;rintro _ w1 ⟨rfl,hF⟩;have HW1:=qA (HW.out.fr0 hF);clear hF HW;go_wp2_with fail
 refine(put_ok (HL.out.fr HW1.out.frm (by simp)) o.m o.E o.V o.D HO.out.m2 HP.out.cf).mono ?_;rintro _ w2 ⟨sv,rfl,hv,hn,hF⟩;have HW2:=qA (HW1.out.new (t:=thY sv (jD o.m o.E o.V o.D)) hF ⟨hv,rfl⟩ (fun q hq=>hn q (by simpa using hq)));clear hF hn HW1;obtain⟨sb,sc,rfl,_⟩:=hv.at (i:=0) (by rw[aA];decide);rw[aA];clear hv;go_wp2_with fail
 refine(aKU _).mono ?_;rintro _ w4 ⟨rfl,hF⟩;have hF4:=hF.alloc (.cells #[.int .u8 83,.int .u8 69,.int .u8 69,.int .u8 80,.int .u8 1] 91);have HW4:=qA (HW2.out.fr0 hF4);have hb:=Blk.new w4 [.int .u8 83,.int .u8 69,.int .u8 69,.int .u8 80,.int .u8 1] 91;have HC1:=qA (show ∀j u,(bF jU)[j]? =some u->(w4.alloc (.cells #[.int .u8 83,.int .u8 69,.int .u8 69,.int .u8 80,.int .u8 1] 91)).cell? ((⟨w4.heap.size,0,none⟩:Addr).add j)=some u from fun j u hj=>by
   rw[Addr.add_lit,Nat.zero_add,hb.cell j];exact hj)
 have HC2:=qA (HW4.out.rowB.rd.cells);clear hF hF4 hb HW2;go_wp2_with (first|(at_builtin;refine aAP rfl (.tmp 25) (.tmp 26) 22 rfl 5 (.int .u8 0) 1 Tryz.underlying22 Tryz.info5 rfl ⟨w4.heap.size,0,none⟩ 5 5 (bF jU) rfl rfl HC1.out ⟨sb,0,none⟩ 32 sc (bF (jD o.m o.E o.V o.D)) rfl (by rw[oI,aA]) HC2.out (by decide) (by decide) (by decide) ?_;intro v5 w5 hown hnew hF5)|fail)
 have HW5:=qA (HW4.out.drop.new (t:=thY v5 (jU++jD o.m o.E o.V o.D)) hF5 ⟨by unfold cX;rw[zF,aA,oJ];exact hown,rfl⟩ (fun q hq=>hnew q (by simpa using hq)));clear HC1 HC2 HW4 hown hnew hF5;generalize hB0:jU++jD o.m o.E o.V o.D=B0 at *;have HB0:=qA hB0;have hl0:B0.length=37:=by rw[<-hB0,zF,aA];rfl
 clear hB0;have HA:=qA (aAJ HW5.out.swap);go_wp2_with fail
 refine HA.out.mono ?_;rintro _ w6 ⟨rfl,hF⟩;have HW6:=qA (HW5.out.fr0 hF);clear hF HA HW5;have HN:=qA (aKI HW6.out.swap);go_wp2_with fail
 refine HN.out.mono ?_;rintro _ w7 ⟨rfl,rfl⟩;clear HN;have hlt:=HW6.out.rowB;have HPt:=qA (aCV (nb:=w7.heap.size) (ns:=[aX o.now,o.last,o.gone]) (sz:=8) (cn:=3) (HW6.out.fr0 ((Fr.refl [] w7).alloc (.cells #[.int .u64 (aX o.now:Nat),.int .u64 (o.last:Nat),.int .u64 (o.gone:Nat)] 36))) (Blk.new w7 [.int .u64 (aX o.now:Nat),.int .u64 (o.last:Nat),.int .u64 (o.gone:Nat)] 36) (fun e=>by have:=hlt.lt e;omega) (by decide) (by rw[hl0];simp));clear hlt;go_wp2_with fail
 refine HPt.out.mono ?_;rintro _ w8 ⟨v8,rfl,hW⟩;have HW8:=qA hW;clear hW HPt HW6;generalize hB1:B0++[aX o.now,o.last,o.gone].flatMap (beN 8)=B1 at *;have hl1:B1.length=61:=by rw[<-hB1,zF,hl0];simp[aN]
 have HB1:=qA hB1;clear hB1 hl0;have HV:=qA (aER HW8.out.swap);go_wp2_with fail
 refine HV.out.mono ?_;rintro _ w9 ⟨lv,l,rfl,hlv,hW⟩;clear HV HW8;obtain⟨la,lc,rfl⟩:=hW.rowV.slice;have hll:l.length=o.L.length:=by rw[<-hlv.1,List.length_map]
 have hl2:l.length<=16384:=by omega
 have HW9:=qA (show Wd W w9 (thY v8 (B1++bT ((l.take 0).map lvR))::thV (.slice la l.length lc) l::thO p o::ts) from by
   have:=hW.third;simpa[bT] using this)
 have HLv:=qA (zI hlv hll);clear hW hlv hll;go_wp2_with fail
 go_loopw [7,44] (fun c1 c2 wr=>∃i:Nat,i<=l.length/\Hid (Wd W wr (thY c1 (B1++bT ((l.take i).map lvR))::thV (.slice la l.length lc) l::thO p o::ts))/\c2=.int .i64 i) (fun _ c _=>l.length-(intOf c).toNat)
 case atStart=>exact⟨0,by omega,HW9,rfl⟩
 case round=>
  clear HW9;obtain⟨i,hi,HWr,rfl⟩:=hrel;rename_i bv wr;by_cases hlt:i<l.length
  {
  have hi1:(i:Int)<l.length:=by omega
  have hi0:(0:Int)<=i:=by omega
  have hw1:IntKind.i64.wrap ((i:Int)+1)=((i+1:Nat):Int):=by rw[show(i:Int)+1=((i+1:Nat):Int) by omega];exact zG _ (by omega)
  obtain⟨b1,c1', e1,_,_,_,r1⟩:=HWr.out.swap.rowV.at hlt;simp only[qP,true_and]at e1;obtain⟨rfl,rfl⟩:=e1;have hrec:(B1++bT ((l.take (i+1)).map lvR))=B1++bT ((l.take i).map lvR)++[(l[i]'hlt).u,(l[i]'hlt).v,aX (l[i]'hlt).wt,aX (l[i]'hlt).t].flatMap (beN 8):=by {
  have htk:l.take (i+1)=l.take i++[l[i]'hlt]:=by rw[List.take_add_one,qL hlt];rfl
  rw[htk,List.map_append,List.map_cons,List.map_nil,aCX,List.append_assoc];simp[rL,lvR]};have hlen:(B1++bT ((l.take i).map lvR)).length=61+32*i:=by rw[zF,hl1,vR,List.length_map,List.length_take,Nat.min_eq_left (Nat.le_of_lt hlt)]
  generalize l[i]'hlt=x at *;unfold aHV at r1;obtain⟨x0,x1,x2,x3,x4,x5,x6⟩:=r1;have hwt:=pN x.wt;have ht:=pN x.t;obtain⟨W1,hW1⟩:∃W1,wr.alloc (.cells (lvC x).toArray 74)=W1:=⟨_,rfl⟩;have hs1:W1.heap.size=wr.heap.size+1:=by rw[<-hW1];simp
  have hF1:Fr [] wr W1:=by rw[<-hW1];exact(Fr.refl [] wr).alloc _
  have hbl:=Blk.new W1 [.int .u64 (x.u:Nat),.int .u64 (x.v:Nat),.int .u64 (aX x.wt:Nat),.int .u64 (aX x.t:Nat)] 36;rw[hs1]at hbl;have HPt:=qA (aCV (nb:=wr.heap.size+1) (ns:=[x.u,x.v,aX x.wt,aX x.t]) (sz:=8) (cn:=4) (HWr.out.fr0 (hF1.alloc (.cells #[.int .u64 (x.u:Nat),.int .u64 (x.v:Nat),.int .u64 (aX x.wt:Nat),.int .u64 (aX x.t:Nat)] 36))) hbl (fun e=>by have:=HWr.out.rowB.lt e;omega) (by decide) (by rw[hlen];simp;omega));rw[<-hrec]at HPt;rw[<-hW1]at HPt;have HR:=qA hlen;clear hbl hF1 hs1 hW1 hlen hrec HWr;go_wp2_with fail
  refine HPt.out.mono ?_;rintro _ w8 ⟨v9,rfl,hW⟩;have HWn:=qA hW;clear hW HPt x0 x1 x2 x3 x4 x5 x6;go_wp2_with fail
  go_roundw
  case rel=>exact⟨i+1,by omega,HWn,by go_num⟩
  case measure=>simp[intOf];omega}
  {
  obtain rfl:i=l.length:=by omega
  have hbody:B1++bT ((l.take l.length).map lvR)=dY o.m o.E o.V o.D o.now o.last o.gone (o.L.map lvR):=by {
  rw[List.take_length,aGY HLv.out.1,<-HB1.out,<-HB0.out];unfold dY nJ;simp};have himg:o.img=dY o.m o.E o.V o.D o.now o.last o.gone (o.L.map lvR)++beN 4 (crc (dY o.m o.E o.V o.D o.now o.last o.gone (o.L.map lvR))):=rfl;have hbyt:Byt (dY o.m o.E o.V o.D o.now o.last o.gone (o.L.map lvR)):=pM _ _ _ _ _ _ _ _;have hbl:(dY o.m o.E o.V o.D o.now o.last o.gone (o.L.map lvR)).length=61+32*o.L.length:=by rw[jE,List.length_map]
  have HX:=HWr.out;rw[hbody]at HX;generalize dY o.m o.E o.V o.D o.now o.last o.gone (o.L.map lvR)=B at *;have hcl:=rU hbyt;have HS:=qA (aSB HX hbyt (by omega));have HIm:=qA himg;generalize crc B=c at *;have hcw:IntKind.u64.wrap (c:Int)=c:=by rw[IntKind.wrap_u64];omega
  have HPt:=qA (aCV (nb:=wr.heap.size) (ns:=[c]) (sz:=4) (cn:=1) (HX.fr0 ((Fr.refl [] wr).alloc (.cells #[.int .u64 (c:Nat)] 36))) (Blk.new wr [.int .u64 (c:Nat)] 36) (fun e=>by have:=HX.rowB.lt e;omega) (by decide) (by rw[hbl];simp;omega));clear HX hbody himg hbyt hbl HWr;go_wp2_with fail
  refine HS.out.mono ?_;rintro _ w8 ⟨rfl,rfl⟩;go_wp2_with fail
  refine HPt.out.mono ?_;rintro _ w9 ⟨v9,rfl,hW⟩;have HWn:=qA hW;clear hW HPt;go_wp2
  go_ret2;refine⟨v9,rfl,?_⟩;rw[HIm.out];have h1:=HWn.out;rw[show B++[c].flatMap (beN 4)=B++beN 4 c by simp]at h1;exact h1.drop2}
def mJ:List Nat:=uL (dY 10 2 2 0 0 0 0 [])
theorem cC:mJ.length=65:=by decide +kernel
theorem tM:Byt mJ:=aKM (pM _ _ _ _ _ _ _ _)
theorem aGZ:mJ.take 5=[83,69,69,80,1]:=by decide +kernel
theorem aOX:(bX mJ).1=0:=by
 have h:=aKP (m:=10) (E:=2) (V:=2) (D:=0) (now:=0) (a:=0) (g:=0) (l:=[]) (by decide) (by decide) (by decide) (by decide) (by decide) (by decide) (by decide) (fun x hx=>by cases hx) rfl;unfold mJ;rw[h];decide +kernel
theorem aHA:(bX (mJ.set 64 (mJ[64]'(by rw[cC];decide) ^^^ 1))).1=17:=by decide +kernel
theorem aHB:(bX ((mJ.set 64 (mJ[64]'(by rw[cC];decide) ^^^ 1)).set 4 2)).1=15:=by decide +kernel
theorem aKX:(bX []).1=15:=by decide +kernel
theorem aKY:crc [49,50,51,52,53,54,55,56,57]=3421780262:=by decide +kernel
theorem aOY:crc []=0:=by decide +kernel
section
variable {W w:World} {ts:List Th} {a:Option Addr} {l:List Nat} {n cap:Nat} {v:Value}
theorem oK(h:Wd W w ts)(hL:iC W)(hr:RdB w a l)(hb:Byt l)(hn:l.length=n)(hl:n<=1073741824)(hc:n<=cap):
    Calls Tryz.prog 23 #[.slice a n cap] w fun e w' =>e=.returned (.int .i64 (bX l).1)/\Wd W w' ts:=by
 have HD:=qA (aEX h hL hr hb hn hl hc);clear h hL hr hb hn hl hc;go_enter Tryz.func23,Tryz.ntmps23
 go_wp2_with fail
 refine HD.out.mono ?_;intro e w1 hD;clear HD;unfold LdE at hD;obtain⟨R,hR⟩:∃R,R=bX l:=⟨_,rfl⟩;rw[<-hR]at hD;have HR:=qA hR;clear hR;obtain⟨c,o⟩:=R;cases o with
 | none=>{
 obtain⟨rfl,hW⟩:=hD;have HW:=qA hW;clear hW;go_wp2_with fail
 go_ret;rw[<-HR.out];exact⟨rfl,HW.out⟩}
 | some o=>{
 obtain⟨p,rfl,hW⟩:=hD;have HW:=qA hW;clear hW;go_wp2_with fail
 go_ret;rw[<-HR.out];exact⟨rfl,HW.out.drop⟩}
theorem cX.set{g:Nat}(h:cX w (.slice (some ⟨g,0,none⟩) l.length cap) l){i:Nat}(hi:i<l.length)(x:Nat):cX (w.setCell ⟨g,i,none⟩ (.int .u8 (x:Int))) (.slice (some ⟨g,0,none⟩) l.length cap) (l.set i x):=by
 unfold cX;rw[List.length_set,show bF (l.set i x)=(bF l).set i (.int .u8 (x:Int)) by unfold bF;rw[List.map_set]];exact kI h hi _
theorem Wd.setB{g:Nat}(h:Wd W w (thY (.slice (some ⟨g,0,none⟩) l.length cap) l::ts)){i:Nat}(hi:i<l.length)(x:Nat):Wd W (w.setCell ⟨g,i,none⟩ (.int .u8 (x:Int))) (thY (.slice (some ⟨g,0,none⟩) l.length cap) (l.set i x)::ts):=by
 obtain⟨K,⟨hv,rfl⟩,hs⟩:=h.open;exact hs ⟨_,⟨hv.set hi x,rfl⟩,(Fr.refl _ _).setCell _ _ (.inl (by simp[Value.ownBlock])),fun q hq=>.inl hq⟩
theorem aCY(h:Wd W w (thY v l::ts))(hL:iC W)(hb:Byt l)(hl:l.length<=1073741824):
    Calls Tryz.prog 23 #[v] w fun e w' =>e=.returned (.int .i64 (bX l).1)/\Wd W w' (thY v l::ts):=by
 have hr:=h.rowB;obtain⟨a,cap,rfl⟩:=hr.slice;have hc:l.length<=cap:=by {
 by_cases h0:0<l.length
 {
 obtain⟨b,c,e,hn,_⟩:=hr.at h0;simp only[qP,true_and]at e;omega}
 · omega};exact oK h hL hr.rd hb rfl hl hc
end
theorem xor8{a b:Nat}(ha:a<256)(hb:b<256):a ^^^ b<256:=Nat.xor_lt_two_pow (n:=8) ha hb
theorem aSH{a b:Nat}(ha:a<256)(hb:b<256):Go.bits .xor .u8 (a:Int) (b:Int)=((a ^^^ b:Nat):Int):=by
 have ha' :a%2 ^ IntKind.u8.bits=a:=Nat.mod_eq_of_lt ha;have hb' :b%2 ^ IntKind.u8.bits=b:=Nat.mod_eq_of_lt hb;have k:(BitVec.ofNat IntKind.u8.bits a ^^^ BitVec.ofNat IntKind.u8.bits b).toNat=a ^^^ b:=by rw[BitVec.toNat_xor,BitVec.toNat_ofNat,BitVec.toNat_ofNat,ha', hb']
 simp only[Go.bits,BitVec.ofInt_natCast];rw[k,IntKind.wrap_u8];have:=xor8 ha hb;omega
theorem Byt.set{l:List Nat}(h:Byt l){x:Nat}(hx:x<256){i:Nat}:Byt (l.set i x):=fun b hb=>by
 rcases List.mem_or_eq_of_mem_set hb with h1|rfl
 · exact h b h1
 · exact hx
theorem aKZ:(Ob.new 10 2 2 0 0).img=mJ:=by unfold Ob.img Ob.new mJ;rfl
theorem aLA:strOfNums [83,69,69,80,1]={ data:=#[83,69,69,80,1] }:=by decide +kernel
def aCZ:Array Value:=#[.int .u8 49,.int .u8 50,.int .u8 51,.int .u8 52,.int .u8 53,.int .u8 54,.int .u8 55,.int .u8 56,.int .u8 57]
theorem pO{W w:World}{ts:List Th}(h:Wd W w ts)(hL:iC W):Calls Tryz.prog 17 #[] w fun e w' =>e=.returned (.bool true)/\Wd W w' ts:=by
 have HL:=qA hL;have HN:=qA (aRQ h 10 0 2 2 (by decide) (by decide) (by decide) (by decide) (by decide) (by decide) (by decide) (by decide));clear h hL;go_enter Tryz.func17,Tryz.ntmps17
 go_wp2_with fail
 refine HN.out.mono ?_;rintro _ w1 ⟨p,rfl,hW⟩;have hcv:=Go.Joins.run_convert_bytes_const_at (P:=Tryz.prog) w1 22 5 aCZ 9 9 w1.heap.size rfl Tryz.underlying22 Tryz.underlying5;have hcell:=fun j=>Go.Joins.cell_alloc_mark_at w1 aCZ 5 (9,10) w1.heap.size j rfl;have hF2:Fr [] w1 (w1.alloc (.cells aCZ 5 (9,10))):=(Fr.refl [] w1).alloc _;have hrd:RdB (w1.alloc (.cells aCZ 5 (9,10))) (some ⟨w1.heap.size,0,none⟩) [49,50,51,52,53,54,55,56,57]:=fun i hi=>by
   refine⟨w1.heap.size,0,rfl,by simp,?_⟩;rw[Nat.zero_add,hcell i];have:i=0∨i=1∨i=2∨i=3∨i=4∨i=5∨i=6∨i=7∨i=8:=by simp at hi;omega
   rcases this with rfl|rfl|rfl|rfl|rfl|rfl|rfl|rfl|rfl<;>rfl
 have hs9:=aEV (cap:=9) hrd (by unfold Byt;decide) (by decide);rw[aKY]at hs9;have hs0:=aEV (w:=w1.alloc (.cells aCZ 5 (9,10))) (a:=none) (l:=[]) (cap:=0) (fun i hi=>absurd hi (Nat.not_lt_zero _)) (fun b hb=>by cases hb) (by decide);rw[aOY]at hs0;have HS9:=qA hs9;have HS0:=qA hs0;have HW2:=qA (hW.fr0 hF2);have hn9:aCZ.size=9:=rfl;rw[hn9]at hcv;clear HN hW hs9 hs0 hrd hcell hF2;unfold aCZ at *;go_wp2_with fail
 refine HS9.out.mono ?_;rintro _ w2 ⟨rfl,rfl⟩;go_wp2_with fail
 refine HS0.out.mono ?_;rintro _ w2 ⟨rfl,rfl⟩;clear HS0 HS9 hcv;generalize w1.alloc (.cells #[.int .u8 49,.int .u8 50,.int .u8 51,.int .u8 52,.int .u8 53,.int .u8 54,.int .u8 55,.int .u8 56,.int .u8 57] 5 (9,10))=w2 at *;have HSv:=qA (aEY HW2.out HL.out (aRT (by decide)));rw[aKZ]at HSv;go_wp2_with fail
 refine HSv.out.mono ?_;rintro _ w3 ⟨v,rfl,hW⟩;clear HSv HW2;have hr:=hW.rowB;have hW' :=hW.drop2;have hch:=aCY hW' HL.out tM (by rw[cC];decide);rw[aOX]at hch;obtain⟨b,cap,rfl,hcap,_,hz,_⟩:=hr.at (i:=0) (by rw[cC];decide);rw[cC]at hcap;have h5:=hr.rd.take 5;rw[aGZ]at h5;have cc:∀i (hi:i<5),w3.cell? ⟨b,0+i,none⟩=some (.int .u8 (([83,69,69,80,1]:List Int).getD i 0)):=fun i hi=>by
   obtain⟨b', off', e,_,hc⟩:=h5 i (by simpa using hi);simp only[qI,Addr.mk.injEq,and_true]at e;obtain⟨rfl,rfl⟩:=e;rw[hc];have:i=0∨i=1∨i=2∨i=3∨i=4:=by omega
   rcases this with rfl|rfl|rfl|rfl|rfl<;>rfl
 have hst:=run_convert_bytes_arg (P:=Tryz.prog) w3 22 5 Tryz.underlying22 Tryz.underlying5 b 0 5 cap [83,69,69,80,1] rfl cc 9 Tryz.underlying9;rw[aLA]at hst;have HCh:=qA hch;have HB:=qA (zI hr hcap);have HW3:=qA hW';rw[cC];rw[cC]at HCh;have e1:(5:Int)<=cap:=by omega
 have e2:¬cap=0:=by omega
 clear hch hr hW hW' h5 cc hz;go_wp2_with fail
 refine HCh.out.mono ?_;rintro _ w4 ⟨rfl,hW⟩;clear HCh hst e1 e2 HB HW3;obtain⟨b', cap', ev,_,_,hz,hc⟩:=hW.rowB.at (i:=64) (by rw[cC];decide);simp only[qP,qI,Addr.mk.injEq,and_true]at ev;obtain⟨rfl,hlen,rfl⟩:=ev;clear hlen;have hlx:=tM _ (List.getElem_mem (l:=mJ) (n:=64) (by rw[cC];decide));have hL1:=aHA;have hL2:=aHB;generalize mJ[64]'(by rw[cC];decide)=x at *;have hxy:Go.bits .xor .u8 (x:Int) 1=((x ^^^ 1:Nat):Int):=aSH hlx (show 1<256 by decide);have hy:=xor8 hlx (show 1<256 by decide);generalize x ^^^ 1=y at *;have hW1:=Wd.setB (by rw[cC];exact hW) (i:=64) (by rw[cC];decide) y;have hb1:Byt (mJ.set 64 y):=tM.set hy;have hch:=aCY hW1 HL.out hb1 (by rw[List.length_set,cC];decide);rw[hL1]at hch;rw[cC]at hch;have HCh:=qA hch;have hz64:=hz 64;clear hch hW1 hW hL1;have HL2:=qA hL2;clear hL2;have HB1:=qA hb1;clear hb1 hz hlx hy;go_wp2_with fail
 refine HCh.out.mono ?_;rintro _ w5 ⟨rfl,hW⟩;clear HCh hc hz64 hxy;obtain⟨b', cap', ev,_,_,hz,hc⟩:=hW.rowB.at (i:=4) (by rw[List.length_set,cC];decide);simp only[qP,qI,Addr.mk.injEq,and_true]at ev;obtain⟨rfl,hlen,rfl⟩:=ev;clear hlen;have hle:(mJ.set 64 y).length=65:=by rw[List.length_set,cC]
 have hW1:=Wd.setB (by rw[hle];exact hW) (i:=4) (by rw[hle];decide) 2;have hch:=aCY hW1 HL.out (HB1.out.set (by decide)) (by rw[List.length_set,hle];decide);rw[HL2.out,hle]at hch;have HCh:=qA hch;have hz4:=hz 4;clear hch hW1 hW hle hz;generalize (mJ.set 64 y)[4]'_=x4 at *;go_wp2_with fail
 refine HCh.out.mono ?_;rintro _ w6 ⟨rfl,hW⟩;clear HCh hc hz4;have hch:=oK (a:=none) (l:=[]) (n:=0) (cap:=0) hW.drop HL.out (fun i hi=>absurd hi (Nat.not_lt_zero _)) (fun b hb=>by cases hb) rfl (by decide) (by decide);rw[aKX]at hch;have HCh:=qA hch;clear hch hW;go_wp2_with fail
 refine HCh.out.mono ?_;rintro _ w7 ⟨rfl,hW⟩;clear HCh;go_wp2
 go_ret;exact⟨rfl,hW⟩
theorem aLB{P:Program}{W w:World}{ts:List Th}{v:Value}{l ns:List Nat}(h:Wd W w (thY v l::ts))(t ty:TypeId)(i:TypeInfo)(z:Value)(ht:P.underlying t=some (.slice 5))(hi:P.info? 5=some i)(hz:i.zero=some z)(hsize:i.size=1)(hby:i.bytes=1)(hzs:z.cells.size=1)
    (ax:Option Addr) (m c:Nat) (hr:RdB w ax ns) (hm:ns.length=m) (hc:ax=none->c=0) (hl:l.length+m<=1073741824):
    ∃v' w', (Builtin.append_ #[t,t] ty #[v,.slice ax m c]).run P w=.ok v' w' /\ Wd W w' (thY v' (l++ns)::ts):=by
 obtain⟨K,⟨hv,rfl⟩,hs⟩:=h.open;cases ax with
 | none=>{
 have hn:ns=[]:=by {
 cases ns with
 | nil=>rfl
 | cons x ns=>obtain⟨b,off,e,_⟩:=hr 0 (by simp);cases e};subst hn;rw[hc rfl,<-hm];refine⟨_,_,run_append_owned_none w 0 t ty 5 i 1 ht hi _ l.length (bF l) hv,?_⟩;rw[List.append_nil];exact hs ⟨_,⟨hv,rfl⟩,Fr.refl _ _,fun q hq=>.inl hq⟩}
 | some ad=>{
 obtain⟨v', w', hr2,h2,h3,_,h5⟩:=run_append_own_at (P:=P) w 0 t ty 5 i z 1 1 ht hi hz hsize hby hzs (by decide) v l.length (bF l) hv ad m c (bF ns) (by rw[oI,hm]) hr.cells (aKT ns) (by unfold maxLen;omega) (by omega) (qS _);refine⟨v', w', hr2,hs ⟨_,⟨?_,rfl⟩,⟨h3.os,h3.tape,h3.output,h3.size,fun k hk hn=>h3.block k hk (fun e=>hn (by simp[<-e]))⟩,fun q hq=>?_⟩⟩
 {
 unfold cX;rw[zF,hm,oJ];exact h2}
 {
 rcases h5 with h5|h5
 · rw[h5]at hq;exact .inl hq
 · rw[h5]at hq;simp at hq;exact .inr (by omega)}}
theorem lN{P:Program}{W w:World}{ts:List Th}{v:Value}{l ns:List Nat}(h:Wd W w (thY v l::ts)){ops:Array Oper}{rest:List Oper}{o:Oper}{a:Act}{Q:Exit->Act->World->Prop}(hgd:o.guard=none)(s x:Operand)(t:TypeId)
    (ho:o.op=.call { callee:=.builtin .append,args:=#[s,x],argTypes:=#[t,t] }) (z:Value) (ht:P.underlying t=some (.slice 5)) (hinfo:(P.info? 5).map (fun i=>(i.zero,i.size,i.bytes))=some (some z,1,1)) (hzs:z.cells.size=1)
    (ax:Option Addr) (m c:Nat) (hsv:a.eval s=v) (hx:a.eval x=.slice ax m c) (hr:RdB w ax ns) (hm:ns.length=m) (hc:ax=none->c=0) (hl:l.length+m<=1073741824)
    (k:∀v' w', Wd W w' (thY v' (l++ns)::ts)->wpList P ops Q rest (a.put o.dst v') w'):wpList P ops Q (o::rest) a w:=by
 obtain⟨i0,hi,hz0,hz1,hz2⟩:=info_parts hinfo;refine wpList_plain hgd fun K hK=>?_;obtain⟨v', w', hr2,h2⟩:=aLB (P:=P) h t o.type i0 z ht hi hz0 hz1 hz2 hzs ax m c hr hm hc hl;unfold Oper.wp execOp;simp only[ho,resolve,invoke,builtin,Sem.run_bind,Sem.run_pure,Result.andThen_ok,List.map_toArray,List.map_cons,List.map_nil,hsv,hx,hr2];exact hK _ _ (k v' w' h2)
theorem cX.take{w:World}{g n cap:Nat}{l:List Nat}(h:cX w (.slice (some ⟨g,0,none⟩) n cap) l)(k:Nat)(hk:k<=l.length):cX w (.slice (some ⟨g,0,none⟩) k cap) (l.take k):=by
 obtain⟨h1,h2⟩:=h;have hlen:(l.take k).length=k:=by rw[List.length_take];omega
 refine⟨by rw[oI],?_⟩;rcases h2 with⟨e,_⟩|⟨g', cap', cur,e,_,hh,hn,hm,hsz,hxs⟩
 · cases e
 {
 simp only[qP,qI,Addr.mk.injEq,and_true]at e;obtain⟨rfl,rfl,rfl⟩:=e;refine .inr ⟨g,cap,cur,by rw[hlen],qS _,hh,by omega,hm,hsz,?_⟩;rw[hlen,Nat.mul_one,show bF (l.take k)=(bF l).take k by unfold bF;rw[List.map_take],<-hxs,Nat.mul_one,List.take_take,Nat.min_eq_left hk]}
theorem Wd.takeB{W w:World}{ts:List Th}{g n cap:Nat}{l:List Nat}(h:Wd W w (thY (.slice (some ⟨g,0,none⟩) n cap) l::ts))(k:Nat)(hk:k<=l.length):Wd W w (thY (.slice (some ⟨g,0,none⟩) k cap) (l.take k)::ts):=by
 obtain⟨K,⟨hv,rfl⟩,hs⟩:=h.open;exact hs ⟨_,⟨hv.take k hk,rfl⟩,Fr.refl _ _,fun q hq=>.inl hq⟩
theorem jF{b:List Nat}(hb:Byt b)(i:Nat):aC (sub b i 8)<18446744073709551616:=by
 have h1:=fK ((hb.drop i).take 8);have h2:256 ^ ((b.drop i).take 8).length<=256 ^ 8:=Nat.pow_le_pow_right (by decide) (by rw[List.length_take];omega);exact Nat.lt_of_lt_of_le h1 h2
theorem vV:∀{l:List R4} {o p:Ob} {last:Int},o.resL last l=some p->p.m=o.m/\p.E=o.E/\p.V=o.V/\p.D=o.D/\p.now=o.now/\p.gone=o.gone/\p.last=o.last+l.length/\p.L.map lvR=o.L.map lvR++l
  | [],o,p,last,h=>by
    obtain rfl:=Option.some.inj (show some o=some p from h);simp
  | r::l,o,p,last,h=>by
    unfold Ob.resL at h;split at h
    · obtain ⟨h1, h2, h3, h4, h5, h6, h7, h8⟩ := vV h
      refine⟨h1,h2,h3,h4,h5,h6,?_,?_⟩
      · rw[h7,qZ];show o.last+1+l.length=_;omega
      · rw [h8]
        show(o.L++[_]).map lvR++l=_
        rw[List.map_append,List.append_assoc];rfl
    · cases h
theorem aHC{m E V D now:Int}{g:Nat}{l:List R4}{o:Ob}(h:eU m E V D now g l=some o):eZ m E V D=true/\o.m=m/\(o.E:Int)=E/\(o.V:Int)=V/\o.D=D/\o.now=now/\o.gone=g/\o.last=g+l.length/\o.L.map lvR=l:=by
 unfold eU at h;split at h
 {
 next hc=>
 obtain⟨_,hc,_⟩:=hc;obtain⟨h1,h2,h3,h4,h5,h6,h7,h8⟩:=vV h;have k:=cO.1 hc;refine⟨hc,h1,?_,?_,h4,h5,h6,h7,h8⟩
 · rw[h2];show((E.toNat:Nat):Int)=E;omega
 · rw[h3];show((V.toNat:Nat):Int)=V;omega}
 · cases h
theorem oL{b:List Nat}(hb:Byt b)(h:8<=b.length):beN 8 (aC (b.take 8))=b.take 8:=by
 have:=aBF (hb.take 8);rw[List.length_take,Nat.min_eq_left h]at this;exact this
theorem pP{b:List Nat}(hb:Byt b)(h:8<=b.length):beN 8 (aX (aI (aC (b.take 8))))=b.take 8:=by rw[aGT (dG hb)];exact oL hb h
theorem oM:∀{n:Nat} {b:List Nat},Byt b->32*n<=b.length->bT (bK n b)=b.take (32*n)
  | 0,b,_,_=>by simp[bK,bT]
  | n+1,b,hb,h=>by
    have h1:8<=b.length:=by omega
    have h2:8<=(b.drop 8).length:=by rw[List.length_drop];omega
    have h3:8<=((b.drop 8).drop 8).length:=by rw[List.length_drop,List.length_drop];omega
    have h4:8<=(((b.drop 8).drop 8).drop 8).length:=by rw[List.length_drop,List.length_drop,List.length_drop];omega
    rw[cW];show rL (gQ b)++bT (bK n (b.drop 32))=_
    rw[oM (hb.drop 32) (by rw[List.length_drop];omega)];unfold rL gQ;simp only;rw[oL hb h1,oL (hb.drop 8) h2,pP ((hb.drop 8).drop 8) h3,pP (((hb.drop 8).drop 8).drop 8) h4];rw[show 32*(n+1)=8+(8+(8+(8+32*n))) by omega,List.take_add,List.take_add,List.take_add,List.take_add];simp only[List.drop_drop,List.append_assoc];try rfl
theorem aDA{l:List Nat}(hb:Byt l){o:Ob}(h:bX l=(0,some o)):o.img=l/\o.Pc:=by
 by_cases h65:l.length<65
 · rw[lJ h65]at h;simp at h
 by_cases h5:l.take 5=jU
 {
 obtain⟨m,hm⟩:∃m,l.length=m+4:=⟨l.length-4,by omega⟩;unfold bX at h;rw[qC (by rw[h5];simp;omega)]at h;rw[show l.length-4=m by omega]at h;split at h
 · simp at h
 {
 next hcrc=>
 simp only at h;split at h
 · simp at h
 {
 next hcnt=>
 have hcrc:aC (l.drop m)=crc (l.take m):=qQ hcrc;cases hR:eU (aI (aC (sub l 5 8))) (aI (aC (sub l 13 8))) (aI (aC (sub l 21 8))) (aI (aC (sub l 29 8))) (aI (aC (sub l 37 8))) (aC (sub l 53 8)) (bK (aC (sub l 45 8)-aC (sub l 53 8)) (l.drop 61)) with
 | none=>rw[hR]at h;simp at h
 | some p=>{
 rw[hR]at h;obtain rfl:p=o:=by simpa using h
 obtain⟨hc,e1,e2,e3,e4,e5,e6,e7,e8⟩:=aHC hR;have hlen:∀n b,(bK n b).length=n:=dO;rw[hlen]at e7;obtain⟨A,hA⟩:∃A,A=aC (sub l 45 8):=⟨_,rfl⟩;obtain⟨G,hG⟩:∃G,G=aC (sub l 53 8):=⟨_,rfl⟩;rw[<-hA,<-hG]at e7 e8 hcnt;rw[<-hG]at e6;have hk:32*(A-G)=m-61:=by omega
 have hAG:p.last=A:=by omega
 have b8:∀i,i+8<=l.length->beN 8 (aC (sub l i 8))=sub l i 8:=fun i hi=>oL (hb.drop i) (by rw[List.length_drop];omega);have b8i:∀i,i+8<=l.length->beN 8 (aX (aI (aC (sub l i 8))))=sub l i 8:=fun i hi=>pP (hb.drop i) (by rw[List.length_drop];omega);have hbody:dY p.m p.E p.V p.D p.now p.last p.gone (p.L.map lvR)=l.take m:=by {
 rw[e1,e2,e3,e4,e5,hAG,e6,e8,hA,hG];unfold dY nJ jD;rw[b8i 5 (by omega),b8i 13 (by omega),b8i 21 (by omega),b8i 29 (by omega),b8i 37 (by omega),b8 45 (by omega),b8 53 (by omega),<-hA,<-hG,oM (hb.drop 61) (by rw[List.length_drop];omega),<-h5,hk];obtain⟨r,hr⟩:∃r,m=61+r:=⟨m-61,by omega⟩;rw[show m-61=r by omega,show m=5+(8+(8+(8+(8+(8+(8+(8+r))))))) by omega,List.take_add,List.take_add,List.take_add,List.take_add,List.take_add,List.take_add,List.take_add,List.take_add];unfold sub;simp only[List.drop_drop,List.append_assoc];try rfl};refine⟨?_,?_,?_⟩
 {
 unfold Ob.img uL;rw[hbody,<-hcrc];have hd:(l.drop m).length=4:=by rw[List.length_drop];omega
 have:=aBF (hb.drop m);rw[hd]at this;rw[this,List.take_append_drop]}
 · rw[e1,e2,e3,e4];exact hc
 {
 intro x hx;have hm:=nK _ (hb.drop 61) (lvR x) (by rw[<-e8];exact List.mem_map_of_mem hx);exact hm.2.2.1}}}}}
 · rw[lK h5]at h;simp at h
end Go.Proofs.YtjdgpcjbgjnahaaGreatDoor
namespace Go.Proofs.YtjdgpcjbgjnahaaGreatDoor
open Go.ChangeShapes Go.WideShapes Go.ChangeAt Go.RowKit
def aLC : List (String × DataW Unit) := [("seepage/config.rows", Rows.laid_seepage_config_rows)]
theorem aOZ : Tryz.prog.globalNamed "seepage/config.rows" = some 0 := by kernel_rfl
theorem aPA:(Tryz.prog.globals[0]?).map (·.type)=some 172:=by kernel_rfl
set_option maxRecDepth 100000 in
theorem door43(os:Os)(args:Array Value):laidMetH Tryz.prog aLC ((World.doorLaid Tryz.prog 18 os).forCall (fun _ _=>0) ⟨#[],args,[]⟩).memory:=
  laidMetH_of_parts3 (fuel:=8) (laidMet_of_run' 8 (by kernel_rfl) (by kernel_rfl)) (by kernel_rfl) (by kernel_rfl)
theorem aLD:Tryz.prog.cellsOf 171=3:=by kernel_rfl
theorem aSI:Tryz.prog.cellsOf 9=1:=by kernel_rfl
theorem aSJ:Tryz.prog.cellsOf 2=1:=by kernel_rfl
theorem lZ{W:World}{base:Nat}{sp:Nat->Bool}{held:Bool}{m:Nat}{cs:List Value}{x:DataW Unit×List MemPlace}{enc:TypeId×Value->Unit}{s:List UInt8}{lo hi:Int}
    (h:DataW.trod enc Tryz.prog W base sp held m 171 cs=some x) (hx:x.1=.agg [.lit (.string s),.lit (.int .i64 lo),.lit (.int .i64 hi)]):∃a,cs=[.string a,.int .i64 lo,.int .i64 hi]:=by
 obtain⟨y0,y1,y2,n,rfl,hl,h0,h1,h2⟩:=Deep.trod_struct3 Tryz.underlying171 h;simp only[DataW.agg.injEq,List.cons.injEq,and_true]at hx;obtain⟨e0,e1,e2⟩:=hx;rw[aLD]at hl;match cs,hl with
 | [c0,c1,c2],_=>{
 rw[aSI]at h0;rw[aSJ]at h1 h2;obtain⟨a,k0,_,_⟩:=DataW.trod_string Tryz.underlying9 h0;obtain⟨p,k1,q1,_⟩:=DataW.trod_int Tryz.underlying2 h1;obtain⟨q,k2,q2,_⟩:=DataW.trod_int Tryz.underlying2 h2;rw[q1]at e1;rw[q2]at e2;simp at k0 k1 k2 e1 e2;exact⟨a,by rw[k0,k1,k2,e1,e2]⟩}
theorem aTV{W:World}(h:laidMetH Tryz.prog aLC W):iC W:=by
 rw[MakeChecks.laidMetH_plain _ _ _ (by kernel_rfl)]at h;obtain⟨ps,⟨g0,t0,cs0,f0,p0,q0,hg0,ht0,hv0,hd0,_,_⟩,_,_⟩:=h;obtain rfl:=Option.some.inj (aOZ.symm.trans hg0);obtain rfl:=Option.some.inj (aPA.symm.trans ht0);obtain⟨xs,m1,rfl,hx1,hlen,hn,hel⟩:=DataW.trod_array Tryz.underlying172 hd0;rw[aLD]at hel;have c12:Tryz.prog.cellsOf 172=12:=by kernel_rfl
 rw[c12]at hlen;have k0:=hel 0 (by decide);have k1:=hel 1 (by decide);have k2:=hel 2 (by decide);have k3:=hel 3 (by decide);have hc:=fun j=>World.var?_cell hg0 hv0 j;obtain⟨cl⟩:=cs0;match xs,hn,hx1,k0,k1,k2,k3 with
 | [x0,x1,x2,x3],_,hx1,k0,k1,k2,k3=>{
 simp only[zE]at hx1;have hx:=hx1.1;unfold Rows.laid_seepage_config_rows at hx;simp only[DataW.agg.injEq,List.map_cons,List.map_nil,List.cons.injEq,and_true]at hx;obtain⟨e0,e1,e2,e3⟩:=hx;obtain⟨a,r0⟩:=lZ k0 e0.symm;obtain⟨b,r1⟩:=lZ k1 e1.symm;obtain⟨c,r2⟩:=lZ k2 e2.symm;obtain⟨d,r3⟩:=lZ k3 e3.symm;match cl,hlen with
 | [z0,z1,z2,z3,z4,z5,z6,z7,z8,z9,z10,z11],_=>{
 simp at r0 r1 r2 r3;have q:=fun j=>hc j;refine⟨a,b,c,d,?_⟩;obtain⟨rfl,rfl,rfl⟩:=r0;obtain⟨rfl,rfl,rfl⟩:=r1;obtain⟨rfl,rfl,rfl⟩:=r2;obtain⟨rfl,rfl,rfl⟩:=r3;exact⟨by simpa using q 0,by simpa using q 1,by simpa using q 2,by simpa using q 3,by simpa using q 4,by simpa using q 5,by simpa using q 6,by simpa using q 7,by simpa using q 8,by simpa using q 9,by simpa using q 10,by simpa using q 11⟩}}
end Go.Proofs.YtjdgpcjbgjnahaaGreatDoor
