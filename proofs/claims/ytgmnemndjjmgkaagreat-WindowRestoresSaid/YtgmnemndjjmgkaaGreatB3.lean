/- A store in memory. -/
import Derived.Sort.WalkD1
import Derived.Test.YtgmnemndjjmgkaaGreatB2
import Derived.Sort.LotD4
import Derived.Shelf.Lay
import Derived.Shelf.Small.Bits
import Derived.Ground.Names2Prog
import Derived.Sort.Walk7
import Derived.Sort.WalkC
import Derived.Sort.WalkC4
import Derived.Sort.WalkA6
import Derived.Sort.Walk13
import Derived.Sort.AssemblyPlain
import Derived.Deep.Cut
import Derived.Deep.RegionHeld3
import Derived.Shelf.SlGeneric
import Derived.Ground.SlgnProg
import Derived.Shelf.SlicesE.Clone
import Derived.Test.YtgmnemndjjmgkaaGreatB1
set_option maxRecDepth 100000
set_option maxHeartbeats 12800000
set_option linter.unusedSimpArgs false
set_option linter.unusedVariables false
/- slices.Sort at uint64: order2Ordered, medianOrdered, medianAdjacentOrdered, choosePivotOrdered. -/
namespace Go.Proofs.YtgmnemndjjmgkaaGreat
open Go.RowKit Go.Sort
theorem aW{x y:Int}{r:Bool}(h:ltInt x y=r)(w:World):Calls Tryz.prog 219 #[.int .u64 x,.int .u64 y] w fun e w' =>e=.returned (.bool r)/\w' =w:=h▸eJ x y w
structure SM (w wr:World) (blk off:Nat) (d:Array Int) (sb s:Nat):Prop where
  sr:SR w wr blk off d
  cnt:Blk wr sb 3 [.int .i64 s]
  ne:sb≠blk
  new:w.heap.size<=sb
section
variable {w wr:World} {blk off:Nat} {d:Array Int} {sb s:Nat}
theorem SM.drewN(h:SM w wr blk off d sb s)(q:Nat):SM w (wr.drewN q) blk off d sb s:=⟨h.sr.drewN q,h.cnt.drewN q,h.ne,h.new⟩
theorem SM.bump(h:SM w wr blk off d sb s)(t:Nat):SM w (wr.setCell ⟨sb,0,none⟩ (.int .i64 t)) blk off d sb t:=⟨h.sr.other _ h.new h.ne,h.cnt.set 0 _,h.ne,h.new⟩
theorem uT{cap a b n:Nat}(h:SM w wr blk off d sb s)(hn:d.size=n)(ha:a<n)(hb:b<n)(hs:s<1000):
    Calls Tryz.prog 232 #[.slice (some ⟨blk,off,none⟩) n cap,.int .i64 a,.int .i64 b,.pointer (some ⟨sb,0,none⟩)] wr fun e w' =>
      e=.returned (.tuple #[.int .i64 (order2 ltInt d a b s).1,.int .i64 (order2 ltInt d a b s).2.1])/\SM w w' blk off d sb (order2 ltInt d a b s).2.2:=by
 obtain⟨G,hG⟩:∃G:Nat->Int,∀t,d[t]! =G t:=⟨fun t=>d[t]!,fun _=>rfl⟩;have ca:wr.cell? ⟨blk,off+a,none⟩=some (.int .u64 (G a)):=by rw[h.sr.cell (by omega),hG]
 have cb:wr.cell? ⟨blk,off+b,none⟩=some (.int .u64 (G b)):=by rw[h.sr.cell (by omega),hG]
 have c0:=h.cnt.cell 0;have f0:=h.cnt.frozen 0;simp only[zS]at c0;have an:(a:Int)<n:=by omega
 have bn:(b:Int)<n:=by omega
 have HS:=qB h;clear h;cases hl:ltInt (G b) (G a) with
 | true=>{
 have e1:order2 ltInt d a b s=(b,a,s+1):=by unfold order2;rw[hG,hG,hl];rfl
 rw[e1];clear e1;have HG:=qB hG;clear hG;go_enter Tryz.func232,Tryz.ntmps232
 go_wp2
 go_quiet (first|(go_at_call 219;refine qR (aW hl _)))
 go_wp2
 go_ret2;exact⟨rfl,(HS.out.drewN nq).bump (s+1)⟩}
 | false=>{
 have e1:order2 ltInt d a b s=(a,b,s):=by unfold order2;rw[hG,hG,hl];rfl
 rw[e1];clear e1;have HG:=qB hG;clear hG;go_enter Tryz.func232,Tryz.ntmps232
 go_wp2
 go_quiet (first|(go_at_call 219;refine qR (aW hl _)))
 go_wp2
 go_ret2;exact⟨rfl,HS.out.drewN nq⟩}
theorem uU{cap a b c n:Nat}(h:SM w wr blk off d sb s)(hn:d.size=n)(ha:a<n)(hb:b<n)(hc:c<n)(hs:s<900):
    Calls Tryz.prog 228 #[.slice (some ⟨blk,off,none⟩) n cap,.int .i64 a,.int .i64 b,.int .i64 c,.pointer (some ⟨sb,0,none⟩)] wr fun e w' =>
      e=.returned (.int .i64 (median ltInt d a b c s).1)/\SM w w' blk off d sb (median ltInt d a b c s).2:=by
 have e0:median ltInt d a b c s=((order2 ltInt d (order2 ltInt d a b s).1 (order2 ltInt d (order2 ltInt d a b s).2.1 c (order2 ltInt d a b s).2.2).1 (order2 ltInt d (order2 ltInt d a b s).2.1 c (order2 ltInt d a b s).2.2).2.2).2.1,(order2 ltInt d (order2 ltInt d a b s).1 (order2 ltInt d (order2 ltInt d a b s).2.1 c (order2 ltInt d a b s).2.2).1 (order2 ltInt d (order2 ltInt d a b s).2.1 c (order2 ltInt d a b s).2.2).2.2).2.2):=rfl;rw[e0];clear e0;have H1:=qB (uT (cap:=cap) h hn ha hb (by omega));obtain⟨a1,a2⟩:=order2_lt d s ha hb;have s1:=order2_swaps d a b s;generalize order2 ltInt d a b s=r1 at *;have H2:=qB (fun(w2:World) (h:SM w w2 blk off d sb r1.2.2)=>uT (cap:=cap) h hn a2 hc (by omega));obtain⟨b1,b2⟩:=order2_lt d r1.2.2 a2 hc;have s2:=order2_swaps d r1.2.1 c r1.2.2;generalize order2 ltInt d r1.2.1 c r1.2.2=r2 at *;have H3:=qB (fun(w2:World) (h:SM w w2 blk off d sb r2.2.2)=>uT (cap:=cap) h hn a1 b1 (by omega));generalize order2 ltInt d r1.1 r2.1 r2.2.2=r3 at *;obtain⟨x1,y1,z1⟩:=r1;obtain⟨x2,y2,z2⟩:=r2;obtain⟨x3,y3,z3⟩:=r3;clear h;go_enter Tryz.func228,Tryz.ntmps228
 go_wp2_with fail
 refine H1.out.mono ?_;rintro _ w1 ⟨rfl,h1⟩;have K1:=qB h1;clear h1;go_wp2_with fail
 refine(H2.out _ K1.out).mono ?_;rintro _ w2 ⟨rfl,h2⟩;have K2:=qB h2;clear h2;go_wp2_with fail
 refine(H3.out _ K2.out).mono ?_;rintro _ w3 ⟨rfl,h3⟩;have K3:=qB h3;clear h3;go_wp2
 go_ret;exact⟨rfl,K3.out⟩
theorem xI(d:Array Int){a b c n:Nat}(s:Nat)(ha:a<n)(hb:b<n)(hc:c<n):(median ltInt d a b c s).1<n/\(median ltInt d a b c s).2<=s+3:=by
 have e0:median ltInt d a b c s=((order2 ltInt d (order2 ltInt d a b s).1 (order2 ltInt d (order2 ltInt d a b s).2.1 c (order2 ltInt d a b s).2.2).1 (order2 ltInt d (order2 ltInt d a b s).2.1 c (order2 ltInt d a b s).2.2).2.2).2.1,(order2 ltInt d (order2 ltInt d a b s).1 (order2 ltInt d (order2 ltInt d a b s).2.1 c (order2 ltInt d a b s).2.2).1 (order2 ltInt d (order2 ltInt d a b s).2.1 c (order2 ltInt d a b s).2.2).2.2).2.2):=rfl;rw[e0];obtain⟨a1,a2⟩:=order2_lt d s ha hb;have s1:=order2_swaps d a b s;generalize order2 ltInt d a b s=r1 at *;obtain⟨b1,b2⟩:=order2_lt d r1.2.2 a2 hc;have s2:=order2_swaps d r1.2.1 c r1.2.2;generalize order2 ltInt d r1.2.1 c r1.2.2=r2 at *;obtain⟨c1,c2⟩:=order2_lt d r2.2.2 a1 b1;have s3:=order2_swaps d r1.1 r2.1 r2.2.2;dsimp only
 omega
theorem aNK{cap a n:Nat}(h:SM w wr blk off d sb s)(hn:d.size=n)(ha0:1<=a)(ha:a+1<n)(hs:s<900)(hsz:n<4611686018427387904):
    Calls Tryz.prog 227 #[.slice (some ⟨blk,off,none⟩) n cap,.int .i64 a,.pointer (some ⟨sb,0,none⟩)] wr fun e w' =>
      e=.returned (.int .i64 (medianAdjacent ltInt d a s).1)/\SM w w' blk off d sb (medianAdjacent ltInt d a s).2:=by
 have H1:=qB (uU (cap:=cap) h hn (show a-1<n by omega) (show a<n by omega) ha hs);clear h;have e1:(a:Int)-1=((a-1:Nat):Int):=by omega
 have e2:(a:Int)+1=((a+1:Nat):Int):=by omega
 have e3:medianAdjacent ltInt d a s=median ltInt d (a-1) a (a+1) s:=rfl;rw[e3];clear e3;generalize median ltInt d (a-1) a (a+1) s=r at *;generalize a-1=a0 at *;generalize a+1=a1 at *;go_enter Tryz.func227,Tryz.ntmps227
 go_wp2_with fail
 refine H1.out.mono ?_;rintro _ w1 ⟨rfl,h1⟩;have K1:=qB h1;clear h1;go_wp2
 go_ret;exact⟨rfl,K1.out⟩
theorem oR(d:Array Int){a n:Nat}(s:Nat)(ha:a+1<n):(medianAdjacent ltInt d a s).1<n/\(medianAdjacent ltInt d a s).2<=s+3:=
  xI d s (show a-1<n by omega) (show a<n by omega) ha
end
theorem aAW(d:Array Int){a b q:Nat}(hq:q=(b-a)/4)(h:¬8<=b-a):choosePivot ltInt d a b=(a+q*2,.increasing):=by
 subst hq;unfold choosePivot;simp only[ge_iff_le];rw[qH h];rfl
theorem aGC(d:Array Int){a b q:Nat}(hq:q=(b-a)/4)(h:8<=b-a)(h2:¬50<=b-a):choosePivot ltInt d a b=
    ((median ltInt d (a+q*1) (a+q*2) (a+q*3) 0).1,if (median ltInt d (a+q*1) (a+q*2) (a+q*3) 0).2=0 then .increasing else if (median ltInt d (a+q*1) (a+q*2) (a+q*3) 0).2=12 then .decreasing else .unknown):=by
 subst hq;unfold choosePivot;simp only[ge_iff_le];rw[qI h,qH h2]
def big(d:Array Int)(i j k:Nat):Nat×Nat:=
  median ltInt d (medianAdjacent ltInt d i 0).1 (medianAdjacent ltInt d j (medianAdjacent ltInt d i 0).2).1 (medianAdjacent ltInt d k (medianAdjacent ltInt d j (medianAdjacent ltInt d i 0).2).2).1 (medianAdjacent ltInt d k (medianAdjacent ltInt d j (medianAdjacent ltInt d i 0).2).2).2
theorem aGD(d:Array Int){a b q:Nat}(hq:q=(b-a)/4)(h:8<=b-a)(h2:50<=b-a):choosePivot ltInt d a b=
    ((big d (a+q*1) (a+q*2) (a+q*3)).1,if (big d (a+q*1) (a+q*2) (a+q*3)).2=0 then .increasing else if (big d (a+q*1) (a+q*2) (a+q*3)).2=12 then .decreasing else .unknown):=by
 subst hq;unfold choosePivot big;simp only[ge_iff_le];rw[qI h,qI h2]
theorem aTE{w wr:World}{blk off:Nat}{d:Array Int}{cap a b n:Nat}(h:SR w wr blk off d)(hn:d.size=n)(hab:a<b)(hb:b<=n)(hsz:n<4611686018427387904):
    Calls Tryz.prog 216 #[.slice (some ⟨blk,off,none⟩) n cap,.int .i64 a,.int .i64 b] wr fun e w' =>
      e=.returned (.tuple #[.int .i64 (choosePivot ltInt d a b).1,.int .i64 (hintCode (choosePivot ltInt d a b).2)])/\SR w w' blk off d:=by
 obtain⟨m,hm⟩:∃m:Nat,m=b-a:=⟨_,rfl⟩;obtain⟨q,hq⟩:∃q:Nat,q=(b-a)/4:=⟨_,rfl⟩;have hmi:(b:Int)-(a:Int)=(m:Int):=by omega
 have hqi:((m:Int)).tdiv 4=(q:Int):=by rw[Int.tdiv_eq_ediv_of_nonneg (by omega)];omega
 have hsm0:SM w (wr.alloc (.cells #[.int .i64 0] 3)) blk off d wr.heap.size 0:=
   ⟨h.alloc _,Blk.new wr [.int .i64 0] 3,by have:=h.lt;omega,h.fr.size⟩
 have K0:=qB hsm0;clear hsm0;have HQ:=qB hq;have hqb:8<=m->a+q*3+1<b:=by omega
 have hq2:8<=m->2<=q:=by omega
 have HM:=qB hm;obtain⟨i,hi⟩:∃i:Nat,i=a+q*1:=⟨_,rfl⟩;obtain⟨j,hj⟩:∃j:Nat,j=a+q*2:=⟨_,rfl⟩;obtain⟨k,hk⟩:∃k:Nat,k=a+q*3:=⟨_,rfl⟩;have hii:(a:Int)+q=(i:Int):=by omega
 have hji:(a:Int)+q*2=(j:Int):=by omega
 have hki:(a:Int)+q*3=(k:Int):=by omega
 have hq3:a+q*3<=n:=by omega
 by_cases h8:8<=m
 {
 by_cases h50:50<=m
 {
 have hres:=aGD d HQ.out (by omega) (by omega);rw[<-hi,<-hj,<-hk]at hres;have b1:1<=i/\i+1<n/\1<=j/\j+1<n/\1<=k/\k+1<n:=by have:=hq2 h8;have:=hqb h8;omega
 have A1:=qB (aNK (cap:=cap) K0.out hn b1.1 b1.2.1 (by omega) hsz);have B1:=oR d 0 b1.2.1;unfold big at hres;generalize medianAdjacent ltInt d i 0=r1 at *;have A2:=qB (fun(w2:World) (h:SM w w2 blk off d wr.heap.size r1.2)=>aNK (cap:=cap) h hn b1.2.2.1 b1.2.2.2.1 (by omega) hsz);have B2:=oR d r1.2 b1.2.2.2.1;generalize medianAdjacent ltInt d j r1.2=r2 at *;have A3:=qB (fun(w2:World) (h:SM w w2 blk off d wr.heap.size r2.2)=>aNK (cap:=cap) h hn b1.2.2.2.2.1 b1.2.2.2.2.2 (by omega) hsz);have B3:=oR d r2.2 b1.2.2.2.2.2;generalize medianAdjacent ltInt d k r2.2=r3 at *;have A4:=qB (fun(w2:World) (h:SM w w2 blk off d wr.heap.size r3.2)=>uU (cap:=cap) h hn B1.1 B2.1 B3.1 (by omega));generalize median ltInt d r1.1 r2.1 r3.1 r3.2=r4 at *;obtain⟨p1,s1⟩:=r1;obtain⟨p2,s2⟩:=r2;obtain⟨p3,s3⟩:=r3;obtain⟨jj,ss⟩:=r4;have hres1:ss=0->choosePivot ltInt d a b=(jj,.increasing):=fun e=>by rw[hres];simp[e]
 have hres2:ss≠0->ss=12->choosePivot ltInt d a b=(jj,.decreasing):=fun e e2=>by rw[hres];simp[e2]
 have hres3:ss≠0->ss≠12->choosePivot ltInt d a b=(jj,.unknown):=fun e e2=>by rw[hres];simp[e,e2]
 have hsw:ss=0∨(ss≠0/\ss=12)∨(ss≠0/\ss≠12):=by omega
 clear hres hq hi hj hk hm B1 B2 B3 b1 hq2 hqb h;go_enter Tryz.func216,Tryz.ntmps216
 go_wp2_with fail
 refine A1.out.mono ?_;rintro _ w1 ⟨rfl,k1⟩;have K1:=qB k1;clear k1 A1;go_wp2_with fail
 refine(A2.out _ K1.out).mono ?_;rintro _ w2 ⟨rfl,k2⟩;have K2:=qB k2;clear k2 A2;go_wp2_with fail
 refine(A3.out _ K2.out).mono ?_;rintro _ w3 ⟨rfl,k3⟩;have K3:=qB k3;clear k3 A3;go_wp2_with fail
 refine(A4.out _ K3.out).mono ?_;rintro _ w4 ⟨rfl,k4⟩;have K4:=qB k4;clear k4 A4;have c0:=K4.out.cnt.cell 0;simp only[zS]at c0;rcases hsw with h0|⟨h0,h12⟩|⟨h0,h12⟩
 {
 have t0:((ss:Int) == 0)=true:=beq_iff_eq.2 (by omega);have HH:=qB (hres1 h0);clear h0 hres1 hres2 hres3;go_wp2
 go_ret2;exact⟨by rw[HH.out];rfl,K4.out.sr⟩}
 {
 have t0:((ss:Int) == 0)=false:=zA.2 (by omega);have t1:((ss:Int) == 12)=true:=beq_iff_eq.2 (by omega);have HH:=qB (hres2 h0 h12);clear h0 h12 hres1 hres2 hres3;go_wp2
 go_ret2;exact⟨by rw[HH.out];rfl,K4.out.sr⟩}
 {
 have t0:((ss:Int) == 0)=false:=zA.2 (by omega);have t1:((ss:Int) == 12)=false:=zA.2 (by omega);have HH:=qB (hres3 h0 h12);clear h0 h12 hres1 hres2 hres3;go_wp2
 go_ret2;exact⟨by rw[HH.out];rfl,K4.out.sr⟩}}
 {
 have hres:=aGC d HQ.out (by omega) (by omega);rw[<-hi,<-hj,<-hk]at hres;have b1:i<n/\j<n/\k<n:=by have:=hqb h8;omega
 have A4:=qB (uU (cap:=cap) K0.out hn b1.1 b1.2.1 b1.2.2 (by omega));generalize median ltInt d i j k 0=r4 at *;obtain⟨jj,ss⟩:=r4;have hres1:ss=0->choosePivot ltInt d a b=(jj,.increasing):=fun e=>by rw[hres];simp[e]
 have hres2:ss≠0->ss=12->choosePivot ltInt d a b=(jj,.decreasing):=fun e e2=>by rw[hres];simp[e2]
 have hres3:ss≠0->ss≠12->choosePivot ltInt d a b=(jj,.unknown):=fun e e2=>by rw[hres];simp[e,e2]
 have hsw:ss=0∨(ss≠0/\ss=12)∨(ss≠0/\ss≠12):=by omega
 clear hres hq hi hj hk hm b1 hq2 hqb h;go_enter Tryz.func216,Tryz.ntmps216
 go_wp2_with fail
 refine A4.out.mono ?_;rintro _ w4 ⟨rfl,k4⟩;have K4:=qB k4;clear k4 A4;have c0:=K4.out.cnt.cell 0;simp only[zS]at c0;rcases hsw with h0|⟨h0,h12⟩|⟨h0,h12⟩
 {
 have t0:((ss:Int) == 0)=true:=beq_iff_eq.2 (by omega);have HH:=qB (hres1 h0);clear h0 hres1 hres2 hres3;go_wp2
 go_ret2;exact⟨by rw[HH.out];rfl,K4.out.sr⟩}
 {
 have t0:((ss:Int) == 0)=false:=zA.2 (by omega);have t1:((ss:Int) == 12)=true:=beq_iff_eq.2 (by omega);have HH:=qB (hres2 h0 h12);clear h0 h12 hres1 hres2 hres3;go_wp2
 go_ret2;exact⟨by rw[HH.out];rfl,K4.out.sr⟩}
 {
 have t0:((ss:Int) == 0)=false:=zA.2 (by omega);have t1:((ss:Int) == 12)=false:=zA.2 (by omega);have HH:=qB (hres3 h0 h12);clear h0 h12 hres1 hres2 hres3;go_wp2
 go_ret2;exact⟨by rw[HH.out];rfl,K4.out.sr⟩}}}
 {
 have hres:=aAW d HQ.out (by omega);rw[<-hj]at hres;rw[hres];have c0:=K0.out.cnt.cell 0;simp only[zS]at c0;clear hres hq hi hj hk hm hq2 hqb h;go_enter Tryz.func216,Tryz.ntmps216
 go_wp2
 go_ret2;exact⟨rfl,K0.out.sr⟩}
def Tryz.laysLen_ren:Go.Shelf.Ren:=⟨fun|125=>146|128=>190|129=>191|n=>n,fun|46=>207|3=>3|51=>256|53=>26|4=>4|5=>5|9=>9|n=>n,fun|n=>n⟩
theorem Tryz.laysLen:Go.Proofs.Lays.n125 Tryz.prog Tryz.laysLen_ren:={
  mixed:=by kernel_rfl
  f125:=Tryz.func146.trans (congrArg some (by kernel_rfl))
  f128:=Tryz.func190.trans (congrArg some (by kernel_rfl))
  f129:=Tryz.func191.trans (congrArg some (by kernel_rfl))
  t3:=Tryz.underlying3
  a3:=Tryz.isAgg3
  z3:=Tryz.sizeOf3
  v3:=Tryz.zeroValue3
  t4:=Tryz.underlying4
  a4:=Tryz.isAgg4
  z4:=Tryz.sizeOf4
  v4:=Tryz.zeroValue4
  t5:=Tryz.underlying5
  a5:=Tryz.isAgg5
  z5:=Tryz.sizeOf5
  v5:=Tryz.zeroValue5
  t9:=Tryz.underlying9
  a9:=Tryz.isAgg9
  z9:=Tryz.sizeOf9
  v9:=Tryz.zeroValue9
  t46:=Tryz.underlying207
  a46:=Tryz.isAgg207
  z46:=Tryz.sizeOf207
  v46:=Tryz.zeroValue207
  t51:=Tryz.underlying256
  a51:=Tryz.isAgg256
  z51:=Tryz.sizeOf256
  v51:=Tryz.zeroValue256
  t53:=Tryz.underlying26
  a53:=Tryz.isAgg26
  z53:=Tryz.sizeOf26
  v53:=Tryz.zeroValue26 }
theorem aXK(n:Nat)(hn:n<4611686018427387904)(w:World):Calls Tryz.prog 146 #[.int .u64 (n:Int)] w fun e w' =>e=.returned (.int .i64 (bitsLen n:Nat))/\w' =w:=by
 have h:=Any.bits_Len Tryz.laysLen (n:Int) w (by omega) (by omega);rwa[zM,bitLen_eq _ (by omega)]at h
theorem bBQ(n:Nat)(hn:n<4611686018427387904)(w:World):
    Calls Tryz.prog 209 #[.int .i64 n] w fun e w' =>e=.returned (.int .u64 ((1 <<< bitsLen n:Nat):Int))/\w' =w:=by
 have hk:bitsLen n<=62:=(bitsLen_le_iff n 62).2 (by omega);have hp:=wrap_two_pow (bitsLen n) hk;have HL:=qB (aXK n hn w);generalize (1 <<< bitsLen n:Nat)=M at *;generalize bitsLen n=k at *;go_enter Tryz.func209,Tryz.ntmps209
 go_wp2_with (first|(go_at_call 146;refine HL.out.mono ?_;rintro e w' ⟨rfl,rfl⟩))
 go_ret;exact⟨rfl,rfl⟩
structure SX (w wr:World) (blk off:Nat) (d:Array Int) (rb R:Nat):Prop where
  sr:SR w wr blk off d
  cnt:Blk wr rb 263 [.int .u64 R]
  ne:rb≠blk
  new:w.heap.size<=rb
section
variable {w wr:World} {blk off:Nat} {d:Array Int} {rb R:Nat}
theorem SX.drewN(h:SX w wr blk off d rb R)(q:Nat):SX w (wr.drewN q) blk off d rb R:=⟨h.sr.drewN q,h.cnt.drewN q,h.ne,h.new⟩
theorem SX.bump(h:SX w wr blk off d rb R)(t:Nat):SX w (wr.setCell ⟨rb,0,none⟩ (.int .u64 t)) blk off d rb t:=⟨h.sr.other _ h.new h.ne,h.cnt.set 0 _,h.ne,h.new⟩
theorem SX.swapD(h:SX w wr blk off d rb R){i j:Nat}(hi:i<d.size)(hj:j<d.size):
    SX w ((wr.setCell ⟨blk,off+i,none⟩ (.int .u64 d[j]!)).setCell ⟨blk,off+j,none⟩ (.int .u64 d[i]!)).drew blk off (swp d i j) rb R:=
  ⟨h.sr.swapD hi hj,((h.cnt.other _ _ h.ne).other _ _ h.ne).drewN 1,h.ne,h.new⟩
theorem aYJ(h:SX w wr blk off d rb R)(hR:R<18446744073709551616):
    Calls Tryz.prog 210 #[.pointer (some ⟨rb,0,none⟩)] wr fun e w' =>e=.returned (.int .u64 (xorNextN R:Nat))/\SX w w' blk off d rb (xorNextN R):=by
 obtain⟨x,hx⟩:∃x:Nat,x=R ^^^ (R*8192%18446744073709551616):=⟨_,rfl⟩;obtain⟨y,hy⟩:∃y:Nat,y=x ^^^ (x/128):=⟨_,rfl⟩;obtain⟨z,hz⟩:∃z:Nat,z=y ^^^ (y*131072%18446744073709551616):=⟨_,rfl⟩;have lx:x<18446744073709551616:=by rw[hx];exact Nat.xor_lt_two_pow (n:=64) (by omega) (by omega)
 have ly:y<18446744073709551616:=by rw[hy];exact Nat.xor_lt_two_pow (n:=64) (by omega) (by omega)
 have q1:bits .xor .u64 (R:Int) (IntKind.u64.wrap ((R:Int)*8192))=(x:Int):=by rw[IntKind.wrap_u64,show((R:Int)*8192%18446744073709551616)=((R*8192%18446744073709551616:Nat):Int) by omega,bits_xor_u64_nat _ _ hR (by omega),hx]
 have q2:bits .xor .u64 (x:Int) ((x:Int)/128)=(y:Int):=by rw[show((x:Int)/128)=((x/128:Nat):Int) by omega,bits_xor_u64_nat _ _ lx (by omega),hy]
 have q3:bits .xor .u64 (y:Int) (IntKind.u64.wrap ((y:Int)*131072))=(z:Int):=by rw[IntKind.wrap_u64,show((y:Int)*131072%18446744073709551616)=((y*131072%18446744073709551616:Nat):Int) by omega,bits_xor_u64_nat _ _ ly (by omega),hz]
 have hv:xorNextN R=z:=by unfold xorNextN;simp only[];rw[<-hx,<-hy,<-hz]
 rw[hv];clear hx hy hz hv;have c0:=h.cnt.cell 0;have f0:=h.cnt.frozen 0;simp only[zS]at c0;have hss:∀v v', (wr.setCell ⟨rb,0,none⟩ v).setCell ⟨rb,0,none⟩ v' =wr.setCell ⟨rb,0,none⟩ v' :=setCell_setCell wr rb 0;have HS:=qB h;clear h;go_enter Tryz.func210,Tryz.ntmps210
 go_wp2
 go_region
 all_goals go_wp2
 all_goals go_region
 all_goals go_wp2
 all_goals go_region
 all_goals go_wp2
 go_ret;exact⟨rfl,(HS.out.bump z).drewN 3⟩
end
theorem aTF{w wr:World}{blk off cap a b n:Nat}{d:Array Int}(h:SR w wr blk off d)(hn:d.size=n)(hab:a<=b)(hb:b<=n)(hsz:n<4611686018427387904):
    Calls Tryz.prog 215 #[.slice (some ⟨blk,off,none⟩) n cap,.int .i64 a,.int .i64 b] wr fun e w' =>e=.returned (.tuple #[])/\SR w w' blk off (breakPatterns d a b):=by
 obtain⟨m,hm⟩:∃m:Nat,m=b-a:=⟨_,rfl⟩;have hmi:(b:Int)-(a:Int)=(m:Int):=by omega
 by_cases h8:8<=m
 {
 obtain⟨q,hq⟩:∃q:Nat,q=m/4:=⟨_,rfl⟩;have hqi:((m:Int)).tdiv 4=(q:Int):=by rw[Int.tdiv_eq_ediv_of_nonneg (by omega)];omega
 obtain⟨M,hM⟩:∃M:Nat,M=1 <<< bitsLen m:=⟨_,rfl⟩;have hM1:1<=M:=by rw[hM,Nat.one_shiftLeft];exact Nat.two_pow_pos _
 have hM2:M<=2*m:=by rw[hM,Nat.one_shiftLeft];exact two_pow_bitsLen_le (by omega)
 have hNP:∀w,Calls Tryz.prog 209 #[.int .i64 (m:Int)] w fun e w' =>e=.returned (.int .u64 (M:Int))/\w' =w:=by rw[hM];exact fun w=>bBQ m (by omega) w
 obtain⟨i0,hi0⟩:∃i0:Nat,i0=a+q*2-1:=⟨_,rfl⟩;have HE:=qB (show breakPatterns d a b=bpRest a m M i0 3 0 (UInt64.ofNat m,d) by
   rw[show b=a+m by omega,breakPatterns_eq d a m h8,hM,hi0,hq])
 have hsx:SX w (wr.alloc (.cells #[.int .u64 (m:Int)] 263)) blk off d wr.heap.size (UInt64.ofNat m).toNat:=by {
 have e:(UInt64.ofNat m).toNat=m:=by simp;omega
 rw[e];exact⟨h.alloc _,Blk.new wr [.int .u64 (m:Int)] 263,by have:=h.lt;omega,h.fr.size⟩};have HX:=qB hsx;clear hsx;have HNP:=qB hNP;clear hNP;have hi0i:(a:Int)+q*2-1=(i0:Int):=by omega
 have hend:(a:Int)+q*2+1=(i0:Int)+2:=by omega
 have hamn:a+m<=n:=by omega
 have hi0n:i0+3<=a+m:=by omega
 have hq2:a+q*2+1<=n:=by omega
 have ham0:a<=i0:=by omega
 clear hM hm hq hi0 h;go_enter Tryz.func215,Tryz.ntmps215
 go_wp2_with fail
 refine(HNP.out _).mono ?_;rintro _ _ ⟨rfl,rfl⟩;go_wp2
 go_loopw [9] (fun vi wr2=>∃(t:Nat) (r:UInt64) (dk:Array Int),vi=.int .i64 ((i0+t:Nat):Int)/\t<=3/\dk.size=n/\Hid (SX w wr2 blk off dk wr.heap.size r.toNat) /\
   Hid (bpRest a m M i0 (3-t) t (r,dk)=bpRest a m M i0 3 0 (UInt64.ofNat m,d))) (fun vi _=>i0+3-(intOf vi).toNat)
 case atStart=>exact⟨0,UInt64.ofNat m,d,rfl,by omega,hn,HX,qB rfl⟩
 case round=>
  clear HX;obtain⟨t,r,dk,rfl,ht,hsk,HX,HR⟩:=hrel;obtain⟨it,hit⟩:∃it:Nat,it=i0+t:=⟨_,rfl⟩;rw[<-hit];by_cases ht3:t<3
  {
  have hd:decide ((it:Int)<=(i0:Int)+2)=true:=qO (by omega);obtain⟨R', hR'⟩:∃R' :Nat,R' =xorNextN r.toNat:=⟨_,rfl⟩;have lR' :R' < 18446744073709551616:=by rw[hR'];exact xorNextN_lt _ r.toNat_lt
  have HNx:=aYJ HX.out r.toNat_lt;rw[<-hR']at HNx;have HNx:=qB HNx;obtain⟨O,hO⟩:∃O:Nat,O=R' &&& (M-1):=⟨_,rfl⟩;have lO:O<=M-1:=by rw[hO];exact Nat.and_le_right
  have eAnd:bits .and .u64 (R' :Int) ((M:Int)-1)=(O:Int):=by rw[show((M:Int)-1)=((M-1:Nat):Int) by omega,bits_and_u64_nat _ _ lR' (by omega),hO]
  have eR:R' =(xorNext r).toNat:=by rw[hR', xorNext_toNat]
  have hOx:O=(xorNext r).toNat &&& (M-1):=by rw[hO,eR]
  have hfin:∃o:Nat,o<m/\(if O≥m then O-m else O)=o:=by {
  refine⟨_,?_,rfl⟩;split<;>omega};obtain⟨o,hom,hoe⟩:=hfin;obtain⟨p,hp⟩:∃p:Nat,p=a+o:=⟨_,rfl⟩;have wp:IntKind.i64.wrap ((a:Int)+o)=(p:Int):=kD (by omega) (by omega);have HRn:=qB (show bpRest a m M i0 (3-(t+1)) (t+1) (xorNext r,swp dk it p)=bpRest a m M i0 3 0 (UInt64.ofNat m,d) by
    rw[<-HR.out,bp_step a m M i0 t r dk o ht3 (by rw[<-hOx];exact hoe),hit,hp])
  have HeR:=qB eR;have hpn:p<n:=by omega
  have hitn:it<n:=by omega
  have Hit:=qB hit;have hoc:(m<=O/\(O:Int)-m=(o:Int))∨(¬m<=O/\O=o):=by {
  by_cases hc:m<=O
  · rw[qI hc]at hoe;exact .inl ⟨hc,by omega⟩
  · rw[qH hc]at hoe;exact .inr ⟨hc,hoe⟩};clear hR' hO hOx eR hoe hp hit;have pn:(p:Int)<n:=by omega
  have itn:(it:Int)<n:=by omega
  go_wp2_with fail
  refine HNx.out.mono ?_;rintro _ w2 ⟨rfl,hX2⟩;obtain⟨G,hG⟩:∃G:Nat->Int,∀x,dk[x]! =G x:=⟨fun x=>dk[x]!,fun _=>rfl⟩;have cp:w2.cell? ⟨blk,off+p,none⟩=some (.int .u64 (G p)):=by rw[hX2.sr.cell (by omega),hG]
  have ci:w2.cell? ⟨blk,off+it,none⟩=some (.int .u64 (G it)):=by rw[hX2.sr.cell (by omega),hG]
  have fp:w2.frozen? ⟨blk,off+p,none⟩=false:=hX2.sr.frozen _;have fi:w2.frozen? ⟨blk,off+it,none⟩=false:=hX2.sr.frozen _;have hsw:=hX2.swapD (i:=it) (j:=p) (by omega) (by omega);rw[hG,hG]at hsw;have HSw:=qB hsw;clear hsw hX2 hG;rcases hoc with⟨hc1,hc2⟩|⟨hc1,rfl⟩
  {
  by_cases hEq:it=p
  {
  subst hEq;go_wp2
  go_region
  all_goals go_wp2
  go_roundw
  case rel=>exact⟨t+1,xorNext r,_,by rw[Hit.out];go_num,by omega,by rw[size_swp];exact hsk,qB (by rw[<-HeR.out];exact HSw.out),HRn⟩
  case measure=>simp[intOf];have:=Hit.out;omega}
  {
  have hEq2:p≠it:=fun e=>hEq e.symm;go_wp2
  go_region
  all_goals go_wp2
  go_roundw
  case rel=>exact⟨t+1,xorNext r,_,by rw[Hit.out];go_num,by omega,by rw[size_swp];exact hsk,qB (by rw[<-HeR.out];exact HSw.out),HRn⟩
  case measure=>simp[intOf];have:=Hit.out;omega}}
  {
  by_cases hEq:it=p
  {
  subst hEq;go_wp2
  go_region
  all_goals go_wp2
  go_roundw
  case rel=>exact⟨t+1,xorNext r,_,by rw[Hit.out];go_num,by omega,by rw[size_swp];exact hsk,qB (by rw[<-HeR.out];exact HSw.out),HRn⟩
  case measure=>simp[intOf];have:=Hit.out;omega}
  {
  have hEq2:p≠it:=fun e=>hEq e.symm;go_wp2
  go_region
  all_goals go_wp2
  go_roundw
  case rel=>exact⟨t+1,xorNext r,_,by rw[Hit.out];go_num,by omega,by rw[size_swp];exact hsk,qB (by rw[<-HeR.out];exact HSw.out),HRn⟩
  case measure=>simp[intOf];have:=Hit.out;omega}}}
  {
  have hd:decide ((it:Int)<=(i0:Int)+2)=false:=qK (by omega);obtain rfl:t=3:=by omega
  clear hit;go_wp2
  go_end0
  exact⟨rfl,by rw[HE.out,<-HR.out];exact HX.out.sr⟩}}
 {
 have e:breakPatterns d a b=d:=by unfold breakPatterns;rw[qH (by omega)]
 rw[e];have HS:=qB h;clear h e;go_enter Tryz.func215,Tryz.ntmps215
 go_wp2
 go_end0
 exact⟨rfl,HS.out⟩}
theorem bBR{w wr:World}{blk off cap a b pivot n:Nat}{d:Array Int}(h:SR w wr blk off d)(hn:d.size=n)(hap:a<=pivot)(hpb:pivot<b)(hb:b<=n)(hsz:n<4611686018427387904):
    Calls Tryz.prog 220 #[.slice (some ⟨blk,off,none⟩) n cap,.int .i64 a,.int .i64 b,.int .i64 pivot] wr fun e w' =>e=.returned (.int .i64 (partitionEqual ltInt d a b pivot).1)/\SR w w' blk off (partitionEqual ltInt d a b pivot).2:=by
 obtain⟨G,hG⟩:∃G:Nat->Int,∀t,d[t]! =G t:=⟨fun t=>d[t]!,fun _=>rfl⟩;have ca:wr.cell? ⟨blk,off+a,none⟩=some (.int .u64 (G a)):=by rw[h.cell (by omega),hG]
 have fa:wr.frozen? ⟨blk,off+a,none⟩=false:=h.frozen _;have cp:wr.cell? ⟨blk,off+pivot,none⟩=some (.int .u64 (G pivot)):=by rw[h.cell (by omega),hG]
 have fp:wr.frozen? ⟨blk,off+pivot,none⟩=false:=h.frozen _;have an:(a:Int)<n:=by omega
 have pn:(pivot:Int)<n:=by omega
 have hsw:=h.swapD (i:=a) (j:=pivot) (by omega) (by omega);rw[hG,hG]at hsw;have HS:=qB hsw;clear hsw h hG;have HL:Hid (partEqLoop ltInt a (a+1) (b-1) (swp d a pivot)=partitionEqual ltInt d a b pivot):=qB rfl;generalize partitionEqual ltInt d a b pivot=res at *;go_enter Tryz.func220,Tryz.ntmps220
 go_wp2
 by_cases hEq:a=pivot
 case' pos=>
  subst hEq;go_region
  all_goals go_wp2
  have hsz0:(swp d a a).size=n:=by rw[size_swp];exact hn
  generalize swp d a a=d0 at *;generalize ((wr.setCell ⟨blk,off+a,none⟩ (.int .u64 (G a))).setCell ⟨blk,off+a,none⟩ (.int .u64 (G a))).drew=w1 at *
 case' neg=>
  have ne1:pivot≠a:=fun e=>hEq e.symm;go_region
  all_goals go_wp2
  have hsz0:(swp d a pivot).size=n:=by rw[size_swp];exact hn
  generalize swp d a pivot=d0 at *;generalize ((wr.setCell ⟨blk,off+a,none⟩ (.int .u64 (G pivot))).setCell ⟨blk,off+pivot,none⟩ (.int .u64 (G a))).drew=w1 at *
 all_goals
  clear ca fa cp fp;go_loopw [9,10] (fun vi vj wr=>∃(i j:Nat) (dk:Array Int),vi=.int .i64 i/\vj=.int .i64 j/\a+1<=i/\i<=j+1/\j<b/\dk.size=n/\Hid (SR w wr blk off dk)/\Hid (partEqLoop ltInt a i j dk=res)) (fun vi vj _=>(intOf vj+1-intOf vi).toNat)
  case atStart=>exact⟨a+1,b-1,d0,by go_num,by congr 1;omega,by omega,by omega,by omega,hsz0,HS,HL⟩
  case round=>
   clear HS HL;obtain⟨i,j,dk,rfl,rfl,hai,hij1,hjb,hsk,HS,HL⟩:=hrel;obtain⟨G,hG⟩:∃G:Nat->Int,∀t,dk[t]! =G t:=⟨fun t=>dk[t]!,fun _=>rfl⟩;have HG:=qB hG;clear hG;go_wp2
   go_loopw [9] (fun vi wr2=>∃(i2:Nat),vi=.int .i64 i2/\i<=i2/\i2<=j+1/\Hid (SR w wr2 blk off dk)/\Hid (scanUp (fun x=> !ltInt dk[a]! x) dk j i2=scanUp (fun x=> !ltInt dk[a]! x) dk j i)) (fun vi _=>j+1-(intOf vi).toNat)
   case atStart=>exact⟨i,rfl,qS _,by omega,HS,qB rfl⟩
   case round=>
    clear HS;obtain⟨i2,rfl,hi2a,hi2b,HS,HU⟩:=hrel;by_cases hij:i2<=j
    case' pos=>
     have hd:decide (i2<=j)=true:=qO hij;have an:(a:Int)<n:=by omega
     have in2:(i2:Int)<n:=by omega
     have ci:wr.cell? ⟨blk,off+i2,none⟩=some (.int .u64 (G i2)):=by rw[HS.out.cell (by omega),HG.out]
     have ca:wr.cell? ⟨blk,off+a,none⟩=some (.int .u64 (G a)):=by rw[HS.out.cell (by omega),HG.out]
     cases hl:ltInt (G a) (G i2)
     case false=>
      have HU2:=qB (show scanUp (fun x=> !ltInt dk[a]! x) dk j (i2+1)=scanUp (fun x=> !ltInt dk[a]! x) dk j i by rw[<-HU.out,scanUp_go (fun x=> !ltInt dk[a]! x) dk j i2 hij (by simp only[HG.out,hl];rfl)]);go_wp2
      go_quiet (first|(go_at_call 219;refine qR (aW hl _)))
      go_wp2
      go_roundw
      case rel=>exact⟨i2+1,by go_num,by omega,by omega,qB (HS.out.drewN nq),HU2⟩
      case measure=>simp[intOf];omega
     have hI:i2=scanUp (fun x=> !ltInt dk[a]! x) dk j i:=by rw[<-HU.out,scanUp_end (fun x=> !ltInt dk[a]! x) dk j i2 (.inr (by simp only[HG.out,hl];rfl))]
     have HI:=qB hI;clear hI;go_wp2
     go_quiet (first|(go_at_call 219;refine qR (aW hl _)))
     go_wp2
     have HS:=qB (HS.out.drewN nq);generalize wr.drewN nq=wq at *;clear hl ci ca hd
    case' neg=>
     have hd:decide (i2<=j)=false:=qK hij;have hI:i2=scanUp (fun x=> !ltInt dk[a]! x) dk j i:=by rw[<-HU.out,scanUp_end (fun x=> !ltInt dk[a]! x) dk j i2 (.inl hij)]
     have HI:=qB hI;clear hI;go_wp2
     go_quiet (first|(go_at_call 219;refine qR (aW rfl _)))
     go_wp2
     have HS:=qB (HS.out.drewN nq);generalize wr.drewN nq=wq at *;clear hd hij
    all_goals
     go_loopw [10] (fun vj wr3=>∃(j2:Nat),vj=.int .i64 j2/\i2<=j2+1/\j2<=j/\Hid (SR w wr3 blk off dk)/\Hid (scanDown (fun x=>ltInt dk[a]! x) dk i2 j2=scanDown (fun x=>ltInt dk[a]! x) dk i2 j)) (fun vj _=>(intOf vj).toNat)
     case atStart=>exact⟨j,rfl,by omega,qS _,HS,qB rfl⟩
     case round=>
      clear HS;obtain⟨j2,rfl,hj2a,hj2b,HS,HD⟩:=hrel;by_cases hij:i2<=j2
      {
      have hd:decide (i2<=j2)=true:=qO hij;have an:(a:Int)<n:=by omega
      have jn:(j2:Int)<n:=by omega
      have ci:wr.cell? ⟨blk,off+j2,none⟩=some (.int .u64 (G j2)):=by rw[HS.out.cell (by omega),HG.out]
      have ca:wr.cell? ⟨blk,off+a,none⟩=some (.int .u64 (G a)):=by rw[HS.out.cell (by omega),HG.out]
      cases hl:ltInt (G a) (G j2) with
      | true=>{
      have HD2:=qB (show scanDown (fun x=>ltInt dk[a]! x) dk i2 (j2-1)=scanDown (fun x=>ltInt dk[a]! x) dk i2 j by rw[<-HD.out,scanDown_go (fun x=>ltInt dk[a]! x) dk i2 j2 hij (by omega) (by simp only[HG.out,hl])]);go_wp2
      go_quiet (first|(go_at_call 219;refine qR (aW hl _)))
      go_wp2
      go_roundw
      case rel=>exact⟨j2-1,by congr 1;omega,by omega,by omega,qB (HS.out.drewN nq),HD2⟩
      case measure=>simp[intOf];omega}
      | false=>{
      have hJ:j2=scanDown (fun x=>ltInt dk[a]! x) dk i2 j:=by rw[<-HD.out,scanDown_end (fun x=>ltInt dk[a]! x) dk i2 j2 (.inr (by simp only[HG.out,hl]))]
      have HJ:=qB hJ;clear hJ;have fi:wr.frozen? ⟨blk,off+j2,none⟩=false:=HS.out.frozen _;have fi2:wr.frozen? ⟨blk,off+i2,none⟩=false:=HS.out.frozen _;have ci2:wr.cell? ⟨blk,off+i2,none⟩=some (.int .u64 (G i2)):=by rw[HS.out.cell (by omega),HG.out]
      have in2:(i2:Int)<n:=by omega
      have hne:i2<j2:=scans_lt ltInt a i j dk (by omega) HI.out HJ.out hij;have ne1:i2≠j2:=by omega
      have ne2:j2≠i2:=by omega
      have hgt:decide (i2>j2)=false:=qK (by omega);go_wp2
      go_quiet (first|(go_at_call 219;refine qR (aW hl _)))
      go_wp2
      go_region
      all_goals go_wp2
      go_roundw
      case rel=>
       refine⟨i2+1,j2-1,swp dk i2 j2,by go_num,by congr 1;omega,by omega,by omega,by omega,by rw[size_swp];exact hsk,qB ?_,qB ?_⟩
       {
       have:=HS.out.swap (nq+1) (i:=i2) (j:=j2) (by omega) (by omega);rw[HG.out,HG.out]at this;exact this}
       · rw[<-HL.out,partEq_go ltInt a i j dk HI.out HJ.out (by omega)]
      case measure=>simp[intOf];omega}}
      {
      have hd:decide (i2<=j2)=false:=qK hij;have hJ:j2=scanDown (fun x=>ltInt dk[a]! x) dk i2 j:=by rw[<-HD.out,scanDown_end (fun x=>ltInt dk[a]! x) dk i2 j2 (.inl hij)]
      have HJ:=qB hJ;clear hJ;have hgt:decide (i2>j2)=true:=qO (by omega);go_wp2
      go_quiet (first|(go_at_call 219;refine qR (aW rfl _)))
      go_wp2
      go_ret;exact⟨by rw[<-HL.out,partEq_break ltInt a i j dk HI.out HJ.out (by omega)];rfl,by rw[<-HL.out,partEq_break ltInt a i j dk HI.out HJ.out (by omega)];exact HS.out.drewN nq⟩}
theorem aYK{w wr:World}{blk off cap a b pivot n:Nat}{d:Array Int}(h:SR w wr blk off d)(hn:d.size=n)(hap:a<=pivot)(hpb:pivot<b)(hb:b<=n)(hsz:n<4611686018427387904):
    Calls Tryz.prog 221 #[.slice (some ⟨blk,off,none⟩) n cap,.int .i64 a,.int .i64 b,.int .i64 pivot] wr fun e w' =>
      e=.returned (.tuple #[.int .i64 (partition ltInt d a b pivot).1,.bool (partition ltInt d a b pivot).2.1])/\SR w w' blk off (partition ltInt d a b pivot).2.2:=by
 obtain⟨G,hG⟩:∃G:Nat->Int,∀t,d[t]! =G t:=⟨fun t=>d[t]!,fun _=>rfl⟩;have ca:wr.cell? ⟨blk,off+a,none⟩=some (.int .u64 (G a)):=by rw[h.cell (by omega),hG]
 have fa:wr.frozen? ⟨blk,off+a,none⟩=false:=h.frozen _;have cp:wr.cell? ⟨blk,off+pivot,none⟩=some (.int .u64 (G pivot)):=by rw[h.cell (by omega),hG]
 have fp:wr.frozen? ⟨blk,off+pivot,none⟩=false:=h.frozen _;have an:(a:Int)<n:=by omega
 have pn:(pivot:Int)<n:=by omega
 have hsw:=h.swapD (i:=a) (j:=pivot) (by omega) (by omega);rw[hG,hG]at hsw;have HS:=qB hsw;clear hsw h hG;obtain⟨i,hi⟩:∃i:Nat,i=a+1:=⟨_,rfl⟩;obtain⟨j,hj⟩:∃j:Nat,j=b-1:=⟨_,rfl⟩;have hii:(a:Int)+1=(i:Int):=by omega
 have hji:(b:Int)-1=(j:Int):=by omega
 have hai:a+1<=i:=by omega
 have hij1:i<=j+1:=by omega
 have hjb:j<b:=by omega
 have Hij:=qB (zR hi hj);clear hi hj;obtain⟨res,hres⟩:∃res,partition ltInt d a b pivot=res:=⟨_,rfl⟩;rw[hres];have HR0:=qB hres;clear hres;go_enter Tryz.func221,Tryz.ntmps221
 go_wp2
 by_cases hEq:a=pivot
 case' pos=>
  have HEq:=qB hEq;rw[<-hEq]at HS cp fp ⊢;clear hEq;go_region
  all_goals go_wp2
  obtain⟨dk,hdk⟩:∃dk,dk=swp d a pivot:=⟨_,rfl⟩;have hsk:dk.size=n:=by rw[hdk,size_swp];exact hn
  have Hdk:=qB hdk;rw[<-HEq.out]at hdk;rw[<-hdk]at HS;clear hdk;generalize ((wr.setCell ⟨blk,off+a,none⟩ (.int .u64 (G a))).setCell ⟨blk,off+a,none⟩ (.int .u64 (G a))).drew=w1 at *
 case' neg=>
  have ne1:pivot≠a:=fun e=>hEq e.symm;go_region
  all_goals go_wp2
  obtain⟨dk,hdk⟩:∃dk,dk=swp d a pivot:=⟨_,rfl⟩;have hsk:dk.size=n:=by rw[hdk,size_swp];exact hn
  have Hdk:=qB hdk;rw[<-hdk]at HS;clear hdk;generalize ((wr.setCell ⟨blk,off+a,none⟩ (.int .u64 (G pivot))).setCell ⟨blk,off+pivot,none⟩ (.int .u64 (G a))).drew=w1 at *
 all_goals
  clear ca fa cp fp;obtain⟨G,hG⟩:∃G:Nat->Int,∀t,dk[t]! =G t:=⟨fun t=>dk[t]!,fun _=>rfl⟩;have HG:=qB hG;clear hG;go_loopw [10] (fun vi wr2=>∃(i2:Nat),vi=.int .i64 i2/\i<=i2/\i2<=j+1/\Hid (SR w wr2 blk off dk)/\Hid (scanUp (fun x=>ltInt x dk[a]!) dk j i2=scanUp (fun x=>ltInt x dk[a]!) dk j i)) (fun vi _=>j+1-(intOf vi).toNat)
  case atStart=>exact⟨i,rfl,qS _,by omega,HS,qB rfl⟩
  case round=>
   clear HS;obtain⟨i2,rfl,hi2a,hi2b,HS,HU⟩:=hrel;by_cases hij:i2<=j
   case' pos=>
    have hd:decide (i2<=j)=true:=qO hij;have an:(a:Int)<n:=by omega
    have in2:(i2:Int)<n:=by omega
    have ci:wr.cell? ⟨blk,off+i2,none⟩=some (.int .u64 (G i2)):=by rw[HS.out.cell (by omega),HG.out]
    have ca:wr.cell? ⟨blk,off+a,none⟩=some (.int .u64 (G a)):=by rw[HS.out.cell (by omega),HG.out]
    cases hl:ltInt (G i2) (G a)
    case true=>
     have HU2:=qB (show scanUp (fun x=>ltInt x dk[a]!) dk j (i2+1)=scanUp (fun x=>ltInt x dk[a]!) dk j i by rw[<-HU.out,scanUp_go (fun x=>ltInt x dk[a]!) dk j i2 hij (by simp only[HG.out,hl])]);go_wp2
     go_quiet (first|(go_at_call 219;refine qR (aW hl _)))
     go_wp2
     go_roundw
     case rel=>exact⟨i2+1,by go_num,by omega,by omega,qB (HS.out.drewN nq),HU2⟩
     case measure=>simp[intOf];omega
    have hI:i2=scanUp (fun x=>ltInt x dk[a]!) dk j i:=by rw[<-HU.out,scanUp_end (fun x=>ltInt x dk[a]!) dk j i2 (.inr (by simp only[HG.out,hl]))]
    have HI:=qB hI;clear hI;go_wp2
    go_quiet (first|(go_at_call 219;refine qR (aW hl _)))
    go_wp2
    have HS:=qB (HS.out.drewN nq);generalize wr.drewN nq=wq at *;clear hl ci ca hd
   case' neg=>
    have hd:decide (i2<=j)=false:=qK hij;have hI:i2=scanUp (fun x=>ltInt x dk[a]!) dk j i:=by rw[<-HU.out,scanUp_end (fun x=>ltInt x dk[a]!) dk j i2 (.inl hij)]
    have HI:=qB hI;clear hI;go_wp2
    go_quiet (first|(go_at_call 219;refine qR (aW rfl _)))
    go_wp2
    have HS:=qB (HS.out.drewN nq);generalize wr.drewN nq=wq at *;clear hd hij
   all_goals
    go_loopw [11] (fun vj wr3=>∃(j2:Nat),vj=.int .i64 j2/\i2<=j2+1/\j2<=j/\Hid (SR w wr3 blk off dk)/\Hid (scanDown (fun x=> !ltInt x dk[a]!) dk i2 j2=scanDown (fun x=> !ltInt x dk[a]!) dk i2 j)) (fun vj _=>(intOf vj).toNat)
    case atStart=>exact⟨j,rfl,by omega,qS _,HS,qB rfl⟩
    case round=>
     clear HS;obtain⟨j2,rfl,hj2a,hj2b,HS,HD⟩:=hrel;by_cases hij:i2<=j2
     {
     have hd:decide (i2<=j2)=true:=qO hij;have an:(a:Int)<n:=by omega
     have jn:(j2:Int)<n:=by omega
     have ci:wr.cell? ⟨blk,off+j2,none⟩=some (.int .u64 (G j2)):=by rw[HS.out.cell (by omega),HG.out]
     have ca:wr.cell? ⟨blk,off+a,none⟩=some (.int .u64 (G a)):=by rw[HS.out.cell (by omega),HG.out]
     cases hl:ltInt (G j2) (G a) with
     | false=>{
     have HD2:=qB (show scanDown (fun x=> !ltInt x dk[a]!) dk i2 (j2-1)=scanDown (fun x=> !ltInt x dk[a]!) dk i2 j by rw[<-HD.out,scanDown_go (fun x=> !ltInt x dk[a]!) dk i2 j2 hij (by omega) (by simp only[HG.out,hl];rfl)]);go_wp2
     go_quiet (first|(go_at_call 219;refine qR (aW hl _)))
     go_wp2
     go_roundw
     case rel=>exact⟨j2-1,by congr 1;omega,by omega,by omega,qB (HS.out.drewN nq),HD2⟩
     case measure=>simp[intOf];omega}
     | true=>{
     have hJ:j2=scanDown (fun x=> !ltInt x dk[a]!) dk i2 j:=by rw[<-HD.out,scanDown_end (fun x=> !ltInt x dk[a]!) dk i2 j2 (.inr (by simp only[HG.out,hl];rfl))]
     have HJ:=qB hJ;clear hJ;have fi:wr.frozen? ⟨blk,off+j2,none⟩=false:=HS.out.frozen _;have fi2:wr.frozen? ⟨blk,off+i2,none⟩=false:=HS.out.frozen _;have ci2:wr.cell? ⟨blk,off+i2,none⟩=some (.int .u64 (G i2)):=by rw[HS.out.cell (by omega),HG.out]
     have in2:(i2:Int)<n:=by omega
     have hne:i2<j2:=part_scans_lt ltInt a i j dk (by omega) HI.out HJ.out hij;have ne1:i2≠j2:=by omega
     have ne2:j2≠i2:=by omega
     have hgt:decide (i2>j2)=false:=qK (by omega);go_wp2
     go_quiet (first|(go_at_call 219;refine qR (aW hl _)))
     go_wp2
     go_region
     all_goals go_wp2
     have hfirst:=part_first_go ltInt d a b pivot Hij.out.1 Hij.out.2 Hdk.out HI.out HJ.out (show ¬i2>j2 by omega);obtain⟨rl,hrl⟩:∃rl,partLoop ltInt a (i2+1) (j2-1) (swp dk i2 j2)=rl:=⟨_,rfl⟩;rw[hrl,HR0.out]at hfirst;have HFirst:=qB hfirst;clear hfirst;have HLr:=qB hrl;clear hrl;have HSw:Hid (SR w (((wr.drewN (nq+1)).setCell ⟨blk,off+i2,none⟩ (.int .u64 (G j2))).setCell ⟨blk,off+j2,none⟩ (.int .u64 (G i2))) blk off (swp dk i2 j2)):=qB (by
       have:=HS.out.swap (nq+1) (i:=i2) (j:=j2) (by omega) (by omega);rw[HG.out,HG.out]at this;exact this)
     generalize ((wr.drewN (nq+1)).setCell ⟨blk,off+i2,none⟩ (.int .u64 (G j2))).setCell ⟨blk,off+j2,none⟩ (.int .u64 (G i2))=ws at *;go_loopw [10,11] (fun vi vj wr=>∃(i j:Nat) (dk:Array Int),vi=.int .i64 i/\vj=.int .i64 j/\a+1<=i/\i<=j+1/\j<b/\dk.size=n/\Hid (SR w wr blk off dk)/\Hid (partLoop ltInt a i j dk=rl)) (fun vi vj _=>(intOf vj+1-intOf vi).toNat)
     case atStart=>exact⟨i2+1,j2-1,swp dk i2 j2,by go_num,by congr 1;omega,by omega,by omega,by omega,by rw[size_swp];exact hsk,HSw,HLr⟩
     case round=>
      clear HSw HLr HS HI HJ HD HU HG;obtain⟨i,j,dk,rfl,rfl,hai,hij1,hjb,hsk,HS,HL⟩:=hrel;obtain⟨G,hG⟩:∃G:Nat->Int,∀t,dk[t]! =G t:=⟨fun t=>dk[t]!,fun _=>rfl⟩;have HG:=qB hG;clear hG;go_wp2
      go_loopw [10] (fun vi wr2=>∃(i2:Nat),vi=.int .i64 i2/\i<=i2/\i2<=j+1/\Hid (SR w wr2 blk off dk)/\Hid (scanUp (fun x=>ltInt x dk[a]!) dk j i2=scanUp (fun x=>ltInt x dk[a]!) dk j i)) (fun vi _=>j+1-(intOf vi).toNat)
      case atStart=>exact⟨i,rfl,qS _,by omega,HS,qB rfl⟩
      case round=>
       clear HS;obtain⟨i2,rfl,hi2a,hi2b,HS,HU⟩:=hrel;by_cases hij:i2<=j
       case' pos=>
        have hd:decide (i2<=j)=true:=qO hij;have an:(a:Int)<n:=by omega
        have in2:(i2:Int)<n:=by omega
        have ci:wr.cell? ⟨blk,off+i2,none⟩=some (.int .u64 (G i2)):=by rw[HS.out.cell (by omega),HG.out]
        have ca:wr.cell? ⟨blk,off+a,none⟩=some (.int .u64 (G a)):=by rw[HS.out.cell (by omega),HG.out]
        cases hl:ltInt (G i2) (G a)
        case true=>
         have HU2:=qB (show scanUp (fun x=>ltInt x dk[a]!) dk j (i2+1)=scanUp (fun x=>ltInt x dk[a]!) dk j i by rw[<-HU.out,scanUp_go (fun x=>ltInt x dk[a]!) dk j i2 hij (by simp only[HG.out,hl])]);go_wp2
         go_quiet (first|(go_at_call 219;refine qR (aW hl _)))
         go_wp2
         go_roundw
         case rel=>exact⟨i2+1,by go_num,by omega,by omega,qB (HS.out.drewN nq),HU2⟩
         case measure=>simp[intOf];omega
        have hI:i2=scanUp (fun x=>ltInt x dk[a]!) dk j i:=by rw[<-HU.out,scanUp_end (fun x=>ltInt x dk[a]!) dk j i2 (.inr (by simp only[HG.out,hl]))]
        have HI:=qB hI;clear hI;go_wp2
        go_quiet (first|(go_at_call 219;refine qR (aW hl _)))
        go_wp2
        have HS:=qB (HS.out.drewN nq);generalize wr.drewN nq=wq at *;clear hl ci ca hd
       case' neg=>
        have hd:decide (i2<=j)=false:=qK hij;have hI:i2=scanUp (fun x=>ltInt x dk[a]!) dk j i:=by rw[<-HU.out,scanUp_end (fun x=>ltInt x dk[a]!) dk j i2 (.inl hij)]
        have HI:=qB hI;clear hI;go_wp2
        go_quiet (first|(go_at_call 219;refine qR (aW rfl _)))
        go_wp2
        have HS:=qB (HS.out.drewN nq);generalize wr.drewN nq=wq at *;clear hd hij
       all_goals
        go_loopw [11] (fun vj wr3=>∃(j2:Nat),vj=.int .i64 j2/\i2<=j2+1/\j2<=j/\Hid (SR w wr3 blk off dk)/\Hid (scanDown (fun x=> !ltInt x dk[a]!) dk i2 j2=scanDown (fun x=> !ltInt x dk[a]!) dk i2 j)) (fun vj _=>(intOf vj).toNat)
        case atStart=>exact⟨j,rfl,by omega,qS _,HS,qB rfl⟩
        case round=>
         clear HS;obtain⟨j2,rfl,hj2a,hj2b,HS,HD⟩:=hrel;by_cases hij:i2<=j2
         {
         have hd:decide (i2<=j2)=true:=qO hij;have an:(a:Int)<n:=by omega
         have jn:(j2:Int)<n:=by omega
         have ci:wr.cell? ⟨blk,off+j2,none⟩=some (.int .u64 (G j2)):=by rw[HS.out.cell (by omega),HG.out]
         have ca:wr.cell? ⟨blk,off+a,none⟩=some (.int .u64 (G a)):=by rw[HS.out.cell (by omega),HG.out]
         cases hl:ltInt (G j2) (G a) with
         | false=>{
         have HD2:=qB (show scanDown (fun x=> !ltInt x dk[a]!) dk i2 (j2-1)=scanDown (fun x=> !ltInt x dk[a]!) dk i2 j by rw[<-HD.out,scanDown_go (fun x=> !ltInt x dk[a]!) dk i2 j2 hij (by omega) (by simp only[HG.out,hl];rfl)]);go_wp2
         go_quiet (first|(go_at_call 219;refine qR (aW hl _)))
         go_wp2
         go_roundw
         case rel=>exact⟨j2-1,by congr 1;omega,by omega,by omega,qB (HS.out.drewN nq),HD2⟩
         case measure=>simp[intOf];omega}
         | true=>{
         have hJ:j2=scanDown (fun x=> !ltInt x dk[a]!) dk i2 j:=by rw[<-HD.out,scanDown_end (fun x=> !ltInt x dk[a]!) dk i2 j2 (.inr (by simp only[HG.out,hl];rfl))]
         have HJ:=qB hJ;clear hJ;have fi:wr.frozen? ⟨blk,off+j2,none⟩=false:=HS.out.frozen _;have fi2:wr.frozen? ⟨blk,off+i2,none⟩=false:=HS.out.frozen _;have ci2:wr.cell? ⟨blk,off+i2,none⟩=some (.int .u64 (G i2)):=by rw[HS.out.cell (by omega),HG.out]
         have in2:(i2:Int)<n:=by omega
         have hne:i2<j2:=part_scans_lt ltInt a i j dk (by omega) HI.out HJ.out hij;have ne1:i2≠j2:=by omega
         have ne2:j2≠i2:=by omega
         have hgt:decide (i2>j2)=false:=qK (by omega);go_wp2
         go_quiet (first|(go_at_call 219;refine qR (aW hl _)))
         go_wp2
         go_region
         all_goals go_wp2
         go_roundw
         case rel=>
          refine⟨i2+1,j2-1,swp dk i2 j2,by go_num,by congr 1;omega,by omega,by omega,by omega,by rw[size_swp];exact hsk,qB ?_,qB ?_⟩
          {
          have:=HS.out.swap (nq+1) (i:=i2) (j:=j2) (by omega) (by omega);rw[HG.out,HG.out]at this;exact this}
          · rw[<-HL.out,part_go ltInt a i j dk HI.out HJ.out (by omega)]
         case measure=>simp[intOf];omega}}
         {
         have hd:decide (i2<=j2)=false:=qK hij;have hJ:j2=scanDown (fun x=> !ltInt x dk[a]!) dk i2 j:=by rw[<-HD.out,scanDown_end (fun x=> !ltInt x dk[a]!) dk i2 j2 (.inl hij)]
         have HJ:=qB hJ;clear hJ;have hgt:decide (i2>j2)=true:=qO (by omega);go_wp2
         go_quiet (first|(go_at_call 219;refine qR (aW rfl _)))
         go_wp2
         have hja:a<=j2:=by omega
         have an:(a:Int)<n:=by omega
         have jn:(j2:Int)<n:=by omega
         have cj:wr.cell? ⟨blk,off+j2,none⟩=some (.int .u64 (G j2)):=by rw[HS.out.cell (by omega),HG.out]
         have fj:wr.frozen? ⟨blk,off+j2,none⟩=false:=HS.out.frozen _;have ca:wr.cell? ⟨blk,off+a,none⟩=some (.int .u64 (G a)):=by rw[HS.out.cell (by omega),HG.out]
         have fa:wr.frozen? ⟨blk,off+a,none⟩=false:=HS.out.frozen _;have hsw:SR w (((wr.drewN (nq+1)).setCell ⟨blk,off+j2,none⟩ (.int .u64 (G a))).setCell ⟨blk,off+a,none⟩ (.int .u64 (G j2))) blk off (swp dk j2 a):=by {
         have:=HS.out.swap (nq+1) (i:=j2) (j:=a) (by omega) (by omega);rw[HG.out,HG.out]at this;exact this};have HSw:=qB hsw;clear hsw;have HRes:=qB (show res=(j2,false,swp dk j2 a) by rw[HFirst.out,<-HL.out,part_break ltInt a i j dk HI.out HJ.out (by omega)]);by_cases hEq:j2=a
         {
         rw[hEq]at HSw HRes ⊢;clear cj fj;go_region
         all_goals go_wp2
         go_ret2;exact⟨by rw[HRes.out];rfl,by rw[HRes.out];exact HSw.out⟩}
         {
         have ne2:a≠j2:=fun e=>hEq e.symm;go_region
         all_goals go_wp2
         go_ret2;exact⟨by rw[HRes.out];rfl,by rw[HRes.out];exact HSw.out⟩}}}}
     {
     have hd:decide (i2<=j2)=false:=qK hij;have hJ:j2=scanDown (fun x=> !ltInt x dk[a]!) dk i2 j:=by rw[<-HD.out,scanDown_end (fun x=> !ltInt x dk[a]!) dk i2 j2 (.inl hij)]
     have HJ:=qB hJ;clear hJ;have hgt:decide (i2>j2)=true:=qO (by omega);go_wp2
     go_quiet (first|(go_at_call 219;refine qR (aW rfl _)))
     go_wp2
     have hja:a<=j2:=by omega
     have an:(a:Int)<n:=by omega
     have jn:(j2:Int)<n:=by omega
     have cj:wr.cell? ⟨blk,off+j2,none⟩=some (.int .u64 (G j2)):=by rw[HS.out.cell (by omega),HG.out]
     have fj:wr.frozen? ⟨blk,off+j2,none⟩=false:=HS.out.frozen _;have ca:wr.cell? ⟨blk,off+a,none⟩=some (.int .u64 (G a)):=by rw[HS.out.cell (by omega),HG.out]
     have fa:wr.frozen? ⟨blk,off+a,none⟩=false:=HS.out.frozen _;have hsw:SR w (((wr.drewN (nq+1)).setCell ⟨blk,off+j2,none⟩ (.int .u64 (G a))).setCell ⟨blk,off+a,none⟩ (.int .u64 (G j2))) blk off (swp dk j2 a):=by {
     have:=HS.out.swap (nq+1) (i:=j2) (j:=a) (by omega) (by omega);rw[HG.out,HG.out]at this;exact this};have HSw:=qB hsw;clear hsw;have HRes:=qB (show res=(j2,true,swp dk j2 a) by rw[<-HR0.out];exact part_first_break ltInt d a b pivot Hij.out.1 Hij.out.2 Hdk.out HI.out HJ.out (by omega));by_cases hEq:j2=a
     {
     rw[hEq]at HSw HRes ⊢;clear cj fj;go_region
     all_goals go_wp2
     go_ret2;exact⟨by rw[HRes.out];rfl,by rw[HRes.out];exact HSw.out⟩}
     {
     have ne2:a≠j2:=fun e=>hEq e.symm;go_region
     all_goals go_wp2
     go_ret2;exact⟨by rw[HRes.out];rfl,by rw[HRes.out];exact HSw.out⟩}}
theorem aYL{w wr:World}{blk off cap a b n:Nat}{d:Array Int}(h:SR w wr blk off d)(hn:d.size=n)(hab:a<b)(hb:b<=n)(hsz:n<4611686018427387904):
    Calls Tryz.prog 218 #[.slice (some ⟨blk,off,none⟩) n cap,.int .i64 a,.int .i64 b] wr fun e w' =>
      e=.returned (.bool (partialInsertionSort ltInt d a b).2)/\SR w w' blk off (partialInsertionSort ltInt d a b).1:=by
 have HS:=qB h;clear h;obtain⟨res,hres⟩:∃res,partialInsertionSort ltInt d a b=res:=⟨_,rfl⟩;rw[hres];have HR0:Hid (partialIns ltInt a b 5 (a+1) d=res):=qB hres;clear hres;go_enter Tryz.func218,Tryz.ntmps218
 go_wp2
 go_loopw [7,8] (fun vi vs wr=>∃(i s:Nat) (dk:Array Int),vi=.int .i64 i/\vs=.int .i64 s/\s<=5/\a<i/\i<=b/\dk.size=n/\Hid (SR w wr blk off dk)/\Hid (partialIns ltInt a b (5-s) i dk=res)) (fun _ vs _=>5-(intOf vs).toNat)
 case atStart=>exact⟨a+1,0,d,by go_num,rfl,by omega,by omega,by omega,hn,HS,HR0⟩
 case round=>
  clear HS HR0;obtain⟨i,s,dk,rfl,rfl,hs,hai,hib,hsk,HS,HP⟩:=hrel;by_cases hs5:s<5
  {
  go_wp2
  go_loopw [7] (fun vk wr=>∃(k:Nat),vk=.int .i64 k/\a<k/\k<=b/\Hid (SR w wr blk off dk)/\Hid (scanSorted ltInt dk b k=scanSorted ltInt dk b i)) (fun vk _=>b-(intOf vk).toNat)
  case atStart=>exact⟨i,rfl,by omega,by omega,HS,qB rfl⟩
  case round=>
   clear HS;obtain⟨k,rfl,hka,hkb,HS,HSc⟩:=hrel;by_cases hk:k<b
   {
   obtain⟨G,hG⟩:∃G:Nat->Int,∀t,dk[t]! =G t:=⟨fun t=>dk[t]!,fun _=>rfl⟩;have HG:=qB hG;clear hG;obtain⟨k0,hk0⟩:∃k0:Nat,k0=k-1:=⟨_,rfl⟩;have wk0:IntKind.i64.wrap ((k:Int)-1)=(k0:Int):=kD (by omega) (by omega);have ek0:(k:Int)-1=(k0:Int):=by omega
   have nk:(k:Int)<n:=by omega
   have nk0:(k0:Int)<n:=by omega
   have nek:k≠k0:=by omega
   have nek0:k0≠k:=by omega
   have ck:wr.cell? ⟨blk,off+k,none⟩=some (.int .u64 (G k)):=by rw[HS.out.cell (by omega),HG.out]
   have ck0:wr.cell? ⟨blk,off+k0,none⟩=some (.int .u64 (G k0)):=by rw[HS.out.cell (by omega),HG.out]
   have fk:wr.frozen? ⟨blk,off+k,none⟩=false:=HS.out.frozen _;have fk0:wr.frozen? ⟨blk,off+k0,none⟩=false:=HS.out.frozen _;have Hk0:=qB hk0;clear hk0;cases hl:ltInt (G k) (G k0) with
   | false=>{
   have HSc2:=qB (show scanSorted ltInt dk b (k+1)=scanSorted ltInt dk b i by rw[<-HSc.out,scanSorted_go ltInt dk b k hk (by rw[<-Hk0.out,HG.out,HG.out];exact hl)]);go_wp2
   go_quiet (first|(go_at_call 219;refine qR (aW hl _)))
   go_wp2
   go_roundw
   case rel=>exact⟨k+1,by go_num,by omega,by omega,qB (HS.out.drewN nq),HSc2⟩
   case measure=>simp[intOf];omega}
   | true=>{
   have HK:=qB (show scanSorted ltInt dk b i=k by rw[<-HSc.out,scanSorted_stop ltInt dk b k (.inr (by rw[<-Hk0.out,HG.out,HG.out];exact hl))]);have hkb2:((k:Int) == (b:Int))=false:=zA.2 (by omega);by_cases h50:b-a<50
   {
   have hd50:decide ((b:Int)-a<50)=true:=qO (by omega);have HRs:=qB (pi_short ltInt a b s i dk hs5 (by rw[HK.out];omega) h50);go_wp2
   go_quiet (first|(go_at_call 219;refine qR (aW hl _)))
   go_wp2
   go_ret;exact⟨by rw[<-HP.out,HRs.out];rfl,by rw[<-HP.out,HRs.out];exact HS.out.drewN nq⟩}
   {
   have hd50:decide ((b:Int)-a<50)=false:=qK (by omega);by_cases hia:2<=k-a
   {
   by_cases hbi:2<=b-k
   {
   have hda:decide (2<=(k:Int)-a)=true:=qO (by omega);have hdb:decide (2<=(b:Int)-k)=true:=qO (by omega);have hsw:∀q,SR w (((wr.drewN q).setCell ⟨blk,off+k,none⟩ (.int .u64 (G k0))).setCell ⟨blk,off+k0,none⟩ (.int .u64 (G k))) blk off (swp dk k k0):=fun q=>by
     have:=HS.out.swap q (i:=k) (j:=k0) (by omega) (by omega);rw[HG.out,HG.out]at this;exact this
   have HSw:=qB hsw;clear hsw;go_wp2
   go_quiet (first|(go_at_call 219;refine qR (aW hl _)))
   go_wp2
   go_region
   all_goals go_wp2
   have HS:=qB (HSw.out (nq+1));generalize ((wr.drewN (nq+1)).setCell ⟨blk,off+k,none⟩ (.int .u64 (G k0))).setCell ⟨blk,off+k0,none⟩ (.int .u64 (G k))=wq at *;obtain⟨d1,hd1⟩:∃d1,d1=swp dk k k0:=⟨_,rfl⟩;have hs1:d1.size=n:=by rw[hd1,size_swp];exact hsk
   have H1:=qB (show swp dk k (k-1)=d1 by rw[hd1,Hk0.out]);rw[<-hd1]at HS;clear hd1 HSw ck ck0 fk fk0 hl hkb2;go_loopw [9] (fun vj wr=>∃(j:Nat) (dj:Array Int),vj=.int .i64 j/\j<k/\dj.size=n/\Hid (SR w wr blk off dj)/\Hid (shiftDown ltInt j dj=shiftDown ltInt (k-1) d1)) (fun vj _=>(intOf vj).toNat)
   case atStart=>exact⟨k-1,d1,by congr 1;omega,by omega,hs1,HS,qB rfl⟩
   case round=>
    clear HS;obtain⟨j,dj,rfl,hj1,hsx,HS,HDn⟩:=hrel;by_cases hjb:1<=j
    case' pos=>
     obtain⟨G,hG⟩:∃G:Nat->Int,∀t,dj[t]! =G t:=⟨fun t=>dj[t]!,fun _=>rfl⟩;have HG:=qB hG;clear hG;obtain⟨j0,hj0⟩:∃j0:Nat,j0=j-1:=⟨_,rfl⟩;have wj0:IntKind.i64.wrap ((j:Int)-1)=(j0:Int):=kD (by omega) (by omega);have ej0:(j:Int)-1=(j0:Int):=by omega
     have nj:(j:Int)<n:=by omega
     have nj0:(j0:Int)<n:=by omega
     have nej:j≠j0:=by omega
     have nej0:j0≠j:=by omega
     have cj:wr.cell? ⟨blk,off+j,none⟩=some (.int .u64 (G j)):=by rw[HS.out.cell (by omega),HG.out]
     have cj0:wr.cell? ⟨blk,off+j0,none⟩=some (.int .u64 (G j0)):=by rw[HS.out.cell (by omega),HG.out]
     have fj:wr.frozen? ⟨blk,off+j,none⟩=false:=HS.out.frozen _;have fj0:wr.frozen? ⟨blk,off+j0,none⟩=false:=HS.out.frozen _;have Hj0:=qB hj0;clear hj0;cases hl:ltInt (G j) (G j0)
     case true=>
      have HDn2:=qB (show shiftDown ltInt j0 (swp dj j j0)=shiftDown ltInt (k-1) d1 by rw[<-HDn.out,shiftDown_go ltInt j dj hjb (by rw[<-Hj0.out,HG.out,HG.out];exact hl),Hj0.out]);go_wp2
      go_quiet (first|(go_at_call 219;refine qR (aW hl _)))
      go_wp2
      go_region
      all_goals go_wp2
      go_roundw
      case rel=>
       refine⟨j0,swp dj j j0,rfl,by omega,by rw[size_swp];exact hsx,qB ?_,HDn2⟩;have:=HS.out.swap (nq+1) (i:=j) (j:=j0) (by omega) (by omega);rw[HG.out,HG.out]at this;exact this
      case measure=>simp[intOf];omega
     have HX:=qB (show fixDown ltInt a k (swp dk k (k-1))=dj by rw[H1.out];unfold fixDown;rw[qI (by omega),<-HDn.out,shiftDown_stop ltInt j dj (.inr (by rw[<-Hj0.out,HG.out,HG.out];exact hl))]);go_wp2
     go_quiet (first|(go_at_call 219;refine qR (aW hl _)))
     go_wp2
     have HS:=qB (HS.out.drewN nq);generalize wr.drewN nq=wq at *;clear cj cj0 fj fj0 hl
    case' neg=>
     obtain rfl:j=0:=by omega
     have HX:=qB (show fixDown ltInt a k (swp dk k (k-1))=dj by rw[H1.out];unfold fixDown;rw[qI (by omega),<-HDn.out,shiftDown_stop ltInt 0 dj (.inl rfl)]);go_wp2
    all_goals
     obtain⟨dx,hdx⟩:∃dx,dx=dj:=⟨_,rfl⟩;rw[<-hdx]at HS HX hsx;clear hdx;go_loopw [10] (fun vj wr=>∃(j:Nat) (dj:Array Int),vj=.int .i64 j/\k+1<=j/\j<=b/\dj.size=n/\Hid (SR w wr blk off dj)/\Hid (shiftUp ltInt b j dj=shiftUp ltInt b (k+1) dx)) (fun vj _=>b-(intOf vj).toNat)
     case atStart=>exact⟨k+1,dx,by go_num,by omega,by omega,hsx,HS,qB rfl⟩
     case round=>
      clear HS;obtain⟨j,dj,rfl,hj1,hj2,hsj,HS,HUp⟩:=hrel;by_cases hjb:j<b
      {
      obtain⟨G,hG⟩:∃G:Nat->Int,∀t,dj[t]! =G t:=⟨fun t=>dj[t]!,fun _=>rfl⟩;have HG:=qB hG;clear hG;obtain⟨j0,hj0⟩:∃j0:Nat,j0=j-1:=⟨_,rfl⟩;have wj0:IntKind.i64.wrap ((j:Int)-1)=(j0:Int):=kD (by omega) (by omega);have ej0:(j:Int)-1=(j0:Int):=by omega
      have nj:(j:Int)<n:=by omega
      have nj0:(j0:Int)<n:=by omega
      have nej:j≠j0:=by omega
      have nej0:j0≠j:=by omega
      have cj:wr.cell? ⟨blk,off+j,none⟩=some (.int .u64 (G j)):=by rw[HS.out.cell (by omega),HG.out]
      have cj0:wr.cell? ⟨blk,off+j0,none⟩=some (.int .u64 (G j0)):=by rw[HS.out.cell (by omega),HG.out]
      have fj:wr.frozen? ⟨blk,off+j,none⟩=false:=HS.out.frozen _;have fj0:wr.frozen? ⟨blk,off+j0,none⟩=false:=HS.out.frozen _;have Hj0:=qB hj0;clear hj0;cases hl:ltInt (G j) (G j0) with
      | true=>{
      have HUp2:=qB (show shiftUp ltInt b (j+1) (swp dj j j0)=shiftUp ltInt b (k+1) dx by rw[<-HUp.out,shiftUp_go ltInt b j dj hjb (by rw[<-Hj0.out,HG.out,HG.out];exact hl),Hj0.out]);go_wp2
      go_quiet (first|(go_at_call 219;refine qR (aW hl _)))
      go_wp2
      go_region
      all_goals go_wp2
      go_roundw
      case rel=>
       refine⟨j+1,swp dj j j0,by go_num,by omega,by omega,by rw[size_swp];exact hsj,qB ?_,HUp2⟩;have:=HS.out.swap (nq+1) (i:=j) (j:=j0) (by omega) (by omega);rw[HG.out,HG.out]at this;exact this
      case measure=>simp[intOf];omega}
      | false=>{
      go_wp2
      go_quiet (first|(go_at_call 219;refine qR (aW hl _)))
      go_wp2
      go_roundw
      case rel=>exact⟨k,s+1,_,rfl,by go_num,by omega,by omega,by omega,hsj,qB (HS.out.drewN nq),qB (by rw[<-HP.out,pi_go ltInt a b s i k dk hs5 HK.out (by omega) (by omega)];rw[show fixUp ltInt b k (fixDown ltInt a k (swp dk k (k-1)))=dj by rw[HX.out];unfold fixUp;rw[qI (by omega),<-HUp.out,shiftUp_stop ltInt b j dj (.inr (by rw[<-Hj0.out,HG.out,HG.out];exact hl))]])⟩
      case measure=>simp[intOf];omega}}
      {
      go_wp2
      go_roundw
      case rel=>exact⟨k,s+1,_,rfl,by go_num,by omega,by omega,by omega,hsj,HS,qB (by rw[<-HP.out,pi_go ltInt a b s i k dk hs5 HK.out (by omega) (by omega)];rw[show fixUp ltInt b k (fixDown ltInt a k (swp dk k (k-1)))=dj by rw[HX.out];unfold fixUp;rw[qI (by omega),<-HUp.out,shiftUp_stop ltInt b j dj (.inl hjb)]])⟩
      case measure=>simp[intOf];omega}}
   {
   have hda:decide (2<=(k:Int)-a)=true:=qO (by omega);have hdb:decide (2<=(b:Int)-k)=false:=qK (by omega);have hsw:∀q,SR w (((wr.drewN q).setCell ⟨blk,off+k,none⟩ (.int .u64 (G k0))).setCell ⟨blk,off+k0,none⟩ (.int .u64 (G k))) blk off (swp dk k k0):=fun q=>by
     have:=HS.out.swap q (i:=k) (j:=k0) (by omega) (by omega);rw[HG.out,HG.out]at this;exact this
   have HSw:=qB hsw;clear hsw;go_wp2
   go_quiet (first|(go_at_call 219;refine qR (aW hl _)))
   go_wp2
   go_region
   all_goals go_wp2
   have HS:=qB (HSw.out (nq+1));generalize ((wr.drewN (nq+1)).setCell ⟨blk,off+k,none⟩ (.int .u64 (G k0))).setCell ⟨blk,off+k0,none⟩ (.int .u64 (G k))=wq at *;obtain⟨d1,hd1⟩:∃d1,d1=swp dk k k0:=⟨_,rfl⟩;have hs1:d1.size=n:=by rw[hd1,size_swp];exact hsk
   have H1:=qB (show swp dk k (k-1)=d1 by rw[hd1,Hk0.out]);rw[<-hd1]at HS;clear hd1 HSw ck ck0 fk fk0 hl hkb2;go_loopw [9] (fun vj wr=>∃(j:Nat) (dj:Array Int),vj=.int .i64 j/\j<k/\dj.size=n/\Hid (SR w wr blk off dj)/\Hid (shiftDown ltInt j dj=shiftDown ltInt (k-1) d1)) (fun vj _=>(intOf vj).toNat)
   case atStart=>exact⟨k-1,d1,by congr 1;omega,by omega,hs1,HS,qB rfl⟩
   case round=>
    clear HS;obtain⟨j,dj,rfl,hj1,hsx,HS,HDn⟩:=hrel;by_cases hjb:1<=j
    case' pos=>
     obtain⟨G,hG⟩:∃G:Nat->Int,∀t,dj[t]! =G t:=⟨fun t=>dj[t]!,fun _=>rfl⟩;have HG:=qB hG;clear hG;obtain⟨j0,hj0⟩:∃j0:Nat,j0=j-1:=⟨_,rfl⟩;have wj0:IntKind.i64.wrap ((j:Int)-1)=(j0:Int):=kD (by omega) (by omega);have ej0:(j:Int)-1=(j0:Int):=by omega
     have nj:(j:Int)<n:=by omega
     have nj0:(j0:Int)<n:=by omega
     have nej:j≠j0:=by omega
     have nej0:j0≠j:=by omega
     have cj:wr.cell? ⟨blk,off+j,none⟩=some (.int .u64 (G j)):=by rw[HS.out.cell (by omega),HG.out]
     have cj0:wr.cell? ⟨blk,off+j0,none⟩=some (.int .u64 (G j0)):=by rw[HS.out.cell (by omega),HG.out]
     have fj:wr.frozen? ⟨blk,off+j,none⟩=false:=HS.out.frozen _;have fj0:wr.frozen? ⟨blk,off+j0,none⟩=false:=HS.out.frozen _;have Hj0:=qB hj0;clear hj0;cases hl:ltInt (G j) (G j0)
     case true=>
      have HDn2:=qB (show shiftDown ltInt j0 (swp dj j j0)=shiftDown ltInt (k-1) d1 by rw[<-HDn.out,shiftDown_go ltInt j dj hjb (by rw[<-Hj0.out,HG.out,HG.out];exact hl),Hj0.out]);go_wp2
      go_quiet (first|(go_at_call 219;refine qR (aW hl _)))
      go_wp2
      go_region
      all_goals go_wp2
      go_roundw
      case rel=>
       refine⟨j0,swp dj j j0,rfl,by omega,by rw[size_swp];exact hsx,qB ?_,HDn2⟩;have:=HS.out.swap (nq+1) (i:=j) (j:=j0) (by omega) (by omega);rw[HG.out,HG.out]at this;exact this
      case measure=>simp[intOf];omega
     have HX:=qB (show fixDown ltInt a k (swp dk k (k-1))=dj by rw[H1.out];unfold fixDown;rw[qI (by omega),<-HDn.out,shiftDown_stop ltInt j dj (.inr (by rw[<-Hj0.out,HG.out,HG.out];exact hl))]);go_wp2
     go_quiet (first|(go_at_call 219;refine qR (aW hl _)))
     go_wp2
     have HS:=qB (HS.out.drewN nq);generalize wr.drewN nq=wq at *;clear cj cj0 fj fj0 hl
    case' neg=>
     obtain rfl:j=0:=by omega
     have HX:=qB (show fixDown ltInt a k (swp dk k (k-1))=dj by rw[H1.out];unfold fixDown;rw[qI (by omega),<-HDn.out,shiftDown_stop ltInt 0 dj (.inl rfl)]);go_wp2
    all_goals
     obtain⟨dx,hdx⟩:∃dx,dx=dj:=⟨_,rfl⟩;rw[<-hdx]at HS HX hsx;clear hdx;go_roundw
     case rel=>exact⟨k,s+1,_,rfl,by go_num,by omega,by omega,by omega,hsx,HS,qB (by rw[<-HP.out,pi_go ltInt a b s i k dk hs5 HK.out (by omega) (by omega)];rw[show fixUp ltInt b k (fixDown ltInt a k (swp dk k (k-1)))=dx by rw[HX.out];unfold fixUp;rw[qH (by omega)]])⟩
     case measure=>simp[intOf];omega}}
   {
   by_cases hbi:2<=b-k
   {
   have hda:decide (2<=(k:Int)-a)=false:=qK (by omega);have hdb:decide (2<=(b:Int)-k)=true:=qO (by omega);have hsw:∀q,SR w (((wr.drewN q).setCell ⟨blk,off+k,none⟩ (.int .u64 (G k0))).setCell ⟨blk,off+k0,none⟩ (.int .u64 (G k))) blk off (swp dk k k0):=fun q=>by
     have:=HS.out.swap q (i:=k) (j:=k0) (by omega) (by omega);rw[HG.out,HG.out]at this;exact this
   have HSw:=qB hsw;clear hsw;go_wp2
   go_quiet (first|(go_at_call 219;refine qR (aW hl _)))
   go_wp2
   go_region
   all_goals go_wp2
   have HS:=qB (HSw.out (nq+1));generalize ((wr.drewN (nq+1)).setCell ⟨blk,off+k,none⟩ (.int .u64 (G k0))).setCell ⟨blk,off+k0,none⟩ (.int .u64 (G k))=wq at *;obtain⟨d1,hd1⟩:∃d1,d1=swp dk k k0:=⟨_,rfl⟩;have hs1:d1.size=n:=by rw[hd1,size_swp];exact hsk
   have H1:=qB (show swp dk k (k-1)=d1 by rw[hd1,Hk0.out]);rw[<-hd1]at HS;clear hd1 HSw ck ck0 fk fk0 hl hkb2;have HX:=qB (show fixDown ltInt a k (swp dk k (k-1))=d1 by rw[H1.out];unfold fixDown;rw[qH (by omega)]);obtain⟨dx,hdx⟩:∃dx,dx=d1:=⟨_,rfl⟩;have hsx:dx.size=n:=by rw[hdx];exact hs1
   rw[<-hdx]at HS HX;clear hdx;go_loopw [10] (fun vj wr=>∃(j:Nat) (dj:Array Int),vj=.int .i64 j/\k+1<=j/\j<=b/\dj.size=n/\Hid (SR w wr blk off dj)/\Hid (shiftUp ltInt b j dj=shiftUp ltInt b (k+1) dx)) (fun vj _=>b-(intOf vj).toNat)
   case atStart=>exact⟨k+1,dx,by go_num,by omega,by omega,hsx,HS,qB rfl⟩
   case round=>
    clear HS;obtain⟨j,dj,rfl,hj1,hj2,hsj,HS,HUp⟩:=hrel;by_cases hjb:j<b
    {
    obtain⟨G,hG⟩:∃G:Nat->Int,∀t,dj[t]! =G t:=⟨fun t=>dj[t]!,fun _=>rfl⟩;have HG:=qB hG;clear hG;obtain⟨j0,hj0⟩:∃j0:Nat,j0=j-1:=⟨_,rfl⟩;have wj0:IntKind.i64.wrap ((j:Int)-1)=(j0:Int):=kD (by omega) (by omega);have ej0:(j:Int)-1=(j0:Int):=by omega
    have nj:(j:Int)<n:=by omega
    have nj0:(j0:Int)<n:=by omega
    have nej:j≠j0:=by omega
    have nej0:j0≠j:=by omega
    have cj:wr.cell? ⟨blk,off+j,none⟩=some (.int .u64 (G j)):=by rw[HS.out.cell (by omega),HG.out]
    have cj0:wr.cell? ⟨blk,off+j0,none⟩=some (.int .u64 (G j0)):=by rw[HS.out.cell (by omega),HG.out]
    have fj:wr.frozen? ⟨blk,off+j,none⟩=false:=HS.out.frozen _;have fj0:wr.frozen? ⟨blk,off+j0,none⟩=false:=HS.out.frozen _;have Hj0:=qB hj0;clear hj0;cases hl:ltInt (G j) (G j0) with
    | true=>{
    have HUp2:=qB (show shiftUp ltInt b (j+1) (swp dj j j0)=shiftUp ltInt b (k+1) dx by rw[<-HUp.out,shiftUp_go ltInt b j dj hjb (by rw[<-Hj0.out,HG.out,HG.out];exact hl),Hj0.out]);go_wp2
    go_quiet (first|(go_at_call 219;refine qR (aW hl _)))
    go_wp2
    go_region
    all_goals go_wp2
    go_roundw
    case rel=>
     refine⟨j+1,swp dj j j0,by go_num,by omega,by omega,by rw[size_swp];exact hsj,qB ?_,HUp2⟩;have:=HS.out.swap (nq+1) (i:=j) (j:=j0) (by omega) (by omega);rw[HG.out,HG.out]at this;exact this
    case measure=>simp[intOf];omega}
    | false=>{
    go_wp2
    go_quiet (first|(go_at_call 219;refine qR (aW hl _)))
    go_wp2
    go_roundw
    case rel=>exact⟨k,s+1,_,rfl,by go_num,by omega,by omega,by omega,hsj,qB (HS.out.drewN nq),qB (by rw[<-HP.out,pi_go ltInt a b s i k dk hs5 HK.out (by omega) (by omega)];rw[show fixUp ltInt b k (fixDown ltInt a k (swp dk k (k-1)))=dj by rw[HX.out];unfold fixUp;rw[qI (by omega),<-HUp.out,shiftUp_stop ltInt b j dj (.inr (by rw[<-Hj0.out,HG.out,HG.out];exact hl))]])⟩
    case measure=>simp[intOf];omega}}
    {
    go_wp2
    go_roundw
    case rel=>exact⟨k,s+1,_,rfl,by go_num,by omega,by omega,by omega,hsj,HS,qB (by rw[<-HP.out,pi_go ltInt a b s i k dk hs5 HK.out (by omega) (by omega)];rw[show fixUp ltInt b k (fixDown ltInt a k (swp dk k (k-1)))=dj by rw[HX.out];unfold fixUp;rw[qI (by omega),<-HUp.out,shiftUp_stop ltInt b j dj (.inl hjb)]])⟩
    case measure=>simp[intOf];omega}}
   {
   exfalso
   omega}}}}}
   {
   obtain rfl:k=b:=by omega
   have HK:=qB (show scanSorted ltInt dk k i=k by rw[<-HSc.out,scanSorted_stop ltInt dk k k (.inl hk)]);have HRs:=qB (pi_true ltInt a k s i dk hs5 HK.out);go_wp2
   go_quiet (first|(go_at_call 219;refine qR (aW rfl _)))
   go_wp2
   go_ret;exact⟨by rw[<-HP.out,HRs.out];rfl,by rw[<-HP.out,HRs.out];exact HS.out.drewN nq⟩}}
  {
  obtain rfl:s=5:=by omega
  go_wp2
  go_ret;exact⟨by rw[<-HP.out,pi_end];rfl,by rw[<-HP.out,pi_end];exact HS.out⟩}
structure PdqR (d:Array Int) (a b lim:Nat) (wb wp:Bool) (R:Rd Int):Prop where
  bal:wb=true->R.d1=d/\R.lim=lim
  unb:wb=false->R.d1=breakPatterns d a b/\R.lim=lim-1
  c:R.c=choosePivot ltInt R.d1 a b
  dec:R.c.2=.decreasing->R.d2=reverseRange R.d1 a b/\R.pivot=(b-1)-(R.c.1-a)/\R.hint=.increasing
  ndec:R.c.2≠.decreasing->R.d2=R.d1/\R.pivot=R.c.1/\R.hint=R.c.2
  yes:(wb&&wp&&decide (R.hint=.increasing))=true->R.pi=partialInsertionSort ltInt R.d2 a b
  no:(wb&&wp&&decide (R.hint=.increasing))=false->R.pi=(R.d2,false)
  s1:R.d1.size=d.size
  c1:a<=R.c.1/\R.c.1<b
  s2:R.d2.size=d.size
  pv:a<=R.pivot/\R.pivot<b
  s3:R.pi.1.size=d.size
  B3:Sort.Below ltInt a b R.pi.1
  lm:R.lim<=lim
  done:R.pi.2=true->pdq ltInt d a b lim wb wp=R.pi.1
  eq:R.pi.2=false->(decide (a>0)&&!ltInt R.pi.1[a-1]! R.pi.1[R.pivot]!)=true->∀mid d4,partitionEqual ltInt R.pi.1 a b R.pivot=(mid,d4)->a<mid/\mid<=b->pdq ltInt d a b lim wb wp=pdq ltInt d4 mid b R.lim wb wp
  left:R.pi.2=false->(decide (a>0)&&!ltInt R.pi.1[a-1]! R.pi.1[R.pivot]!)=false->∀mid ap d4,partition ltInt R.pi.1 a b R.pivot=(mid,ap,d4)->a<=mid/\mid<b->mid-a<b-mid ->
    pdq ltInt d a b lim wb wp=pdq ltInt (pdq ltInt d4 a mid R.lim true true) (mid+1) b R.lim (decide (mid-a≥(b-a)/8)) ap
  right:R.pi.2=false->(decide (a>0)&&!ltInt R.pi.1[a-1]! R.pi.1[R.pivot]!)=false->∀mid ap d4,partition ltInt R.pi.1 a b R.pivot=(mid,ap,d4)->a<=mid/\mid<b->¬mid-a<b-mid ->
    pdq ltInt d a b lim wb wp=pdq ltInt (pdq ltInt d4 (mid+1) b R.lim true true) a mid R.lim (decide (b-mid≥(b-a)/8)) ap
theorem aKO{d:Array Int}{a b lim:Nat}(wb wp:Bool)(h12:¬b-a<=12)(hl:¬lim=0)(hb:b<=d.size)(hB:Sort.Below ltInt a b d):∃R,PdqR d a b lim wb wp R:=by
 obtain⟨s1,_,hc1,s2,_,hpv,s3,B3⟩:=rd_facts (limit:=lim) (wb:=wb) (wp:=wp) swo_ltInt partialInsertionSort_holds reverseRange_holds (show a<b by omega) hb hB;refine⟨rd ltInt d a b lim wb wp,?_,?_,rd_c,rd_dec,rd_not,rd_pi_yes,rd_pi_no,s1,hc1,s2,hpv,s3,B3,rd_lim_le,pdq_done h12 hl,?_,?_,?_⟩
 · rintro rfl;exact rd_true
 · rintro rfl;exact rd_false
 {
 intro h1 h2 mid d4 hx h3;have:=pdq_eq (wb:=wb) (wp:=wp) h12 hl h1 h2 (by rw[hx];exact h3);rw[hx]at this;exact this}
 {
 intro h1 h2 mid ap d4 hx h3 h4;have:=pdq_left (wb:=wb) (wp:=wp) h12 hl h1 h2 (by rw[hx];exact h3) (by rw[hx];exact h4);rw[hx]at this;exact this}
 {
 intro h1 h2 mid ap d4 hx h3 h4;have:=pdq_right (wb:=wb) (wp:=wp) h12 hl h1 h2 (by rw[hx];exact h3) (by rw[hx];exact h4);rw[hx]at this;exact this}
theorem bBS{w:World}{blk off cap n:Nat}(hsz:n<4611686018427387904):∀(N a b limit:Nat) (d:Array Int) (wr:World),b-a<N->SR w wr blk off d->d.size=n->a<=b->b<=n->limit<4611686018427387904->Sort.Below ltInt a b d ->
    Calls Tryz.prog 198 #[.slice (some ⟨blk,off,none⟩) n cap,.int .i64 a,.int .i64 b,.int .i64 limit] wr fun e w' =>e=.returned (.tuple #[])/\SR w w' blk off (pdq ltInt d a b limit true true):=by
 intro N;induction N with
 | zero=>intro _ _ _ _ _ h;exact absurd h (Nat.not_lt_zero _)
 | succ N ih=>{
 intro a b limit d wr hN hS hn hab hb hlimit hBel0;have IH:=qB ih;clear ih;have HS:=qB hS;clear hS;have HB:=qB hBel0;clear hBel0;obtain⟨res,hres⟩:∃res,pdq ltInt d a b limit true true=res:=⟨_,rfl⟩;rw[hres];have HR0:=qB hres;clear hres;go_enter Tryz.func198,Tryz.ntmps198
 go_wp2
 go_loopg [1,2,3,8,9] (b-a) (fun k s1 s2 s3 s8 s9 wr=>∃(x y lim:Nat) (wb wp:Bool) (dk:Array Int),s1=.int .i64 x/\s2=.int .i64 y/\s3=.int .i64 lim/\s8=.bool wb/\s9=.bool wp /\
   x<=y/\y<=n/\y-x<=k/\k<=b-a/\lim<=limit/\dk.size=n/\Hid (Sort.Below ltInt x y dk)/\Hid (SR w wr blk off dk)/\Hid (pdq ltInt dk x y lim wb wp=res))
 case atStart=>exact⟨a,b,limit,true,true,d,rfl,rfl,rfl,rfl,rfl,hab,hb,qS _,qS _,qS _,hn,HB,HS,HR0⟩
 case round=>
  clear HB HS HR0;obtain⟨x,y,lim,wb,wp,dk,rfl,rfl,rfl,rfl,rfl,hxy,hy,hk,hkN,hlim,hsk,HB,HS,HR⟩:=hrel;by_cases h12:y-x<=12
  {
  have h12z:(y:Int)-(x:Int)<=12:=by omega
  have HC:=bBO (cap:=cap) HS.out hxy (by omega) (by omega);rw[hsk]at HC;have HC:=qB HC;go_wp2_with (go_at_call 213;refine HC.out.mono ?_;rintro e w1 ⟨rfl,hw1⟩)
  (try simp only[Exit.inBlock,Exit.then]);refine bodyPost_ret (results_none rfl _ _ _) rfl ?_
  exact⟨rfl,by rw[<-HR.out,pdq_small h12];exact hw1⟩}
  {
  have h12z:¬((y:Int)-(x:Int)<=12):=by omega
  by_cases hl0:lim=0
  {
  subst hl0;have HC:=qB (aYI (cap:=cap) HS.out hsk hxy hy hsz);go_wp2_with (go_at_call 214;refine HC.out.mono ?_;rintro e w1 ⟨rfl,hw1⟩)
  (try simp only[Exit.inBlock,Exit.then]);refine bodyPost_ret (results_none rfl _ _ _) rfl ?_
  exact⟨rfl,by rw[<-HR.out,pdq_heap h12 rfl];exact hw1⟩}
  {
  have hl0z:¬((lim:Int)=0):=by omega
  obtain⟨R,hP⟩:=aKO wb wp h12 hl0 (show y<=dk.size by omega) HB.out;have hc1:=hP.c1;have hpv:=hP.pv;have hlm:=hP.lm;have PR:=qB hP;clear hP;have hs1:R.d1.size=n:=by rw[PR.out.s1];exact hsk
  have hs2:R.d2.size=n:=by rw[PR.out.s2];exact hsk
  have hs3:R.pi.1.size=n:=by rw[PR.out.s3];exact hsk
  go_upto_if 35 with fail
  go_cut [3] from 19 (fun s3 wc=>s3=.int .i64 R.lim/\Hid (SR w wc blk off R.d1))
  case first=>
   cases wb
   {
   have HC:=qB (aTF (cap:=cap) HS.out hsk hxy hy hsz);go_wp2_with (go_at_call 215;refine HC.out.mono ?_;rintro e w1 ⟨rfl,hw1⟩)
   go_meet
   case rel=>
    obtain⟨e1,e2⟩:=PR.out.unb rfl;exact⟨by rw[e2];congr 1;omega,qB (by rw[e1];exact hw1)⟩}
   {
   go_wp2_with fail
   go_meet
   case rel=>
    obtain⟨e1,e2⟩:=PR.out.bal rfl;exact⟨by rw[e2],by rw[e1];exact HS⟩}
  case rest=>
   clear HS;obtain⟨rfl,HS1⟩:=hcut;have HC:=aTE (cap:=cap) HS1.out hs1 (show x<y by omega) hy hsz;rw[<-PR.out.c]at HC;have HC:=qB HC;go_upto_if 50 with(go_at_call 216;refine HC.out.mono ?_;rintro e w2 ⟨rfl,hw2⟩)
   have HS2:=qB hw2;clear hw2 HC HS1;go_cut [11,12] from 19 (fun s11 s12 wc=>s11=.int .i64 R.pivot/\s12=.int .i64 (hintCode R.hint)/\Hid (SR w wc blk off R.d2))
   case first=>
    by_cases hh:R.c.2=.decreasing
    {
    have hcode:hintCode R.c.2=2:=by rw[hh];rfl
    have HC:=qB (bBP (cap:=cap) HS2.out hs1 hxy hy hsz);go_wp2_with (go_at_call 217;refine HC.out.mono ?_;rintro e w3 ⟨rfl,hw3⟩)
    go_meet
    case rel=>
     obtain⟨e1,e2,e3⟩:=PR.out.dec hh;exact⟨by rw[e2];congr 1;omega,by rw[e3];rfl,qB (by rw[e1];exact hw3)⟩}
    {
    have hcode:¬(hintCode R.c.2=2):=fun h=>hh (hintCode_two h);go_wp2_with fail
    go_meet
    case rel=>
     obtain⟨e1,e2,e3⟩:=PR.out.ndec hh;exact⟨by rw[e2],by rw[e3],by rw[e1];exact HS2⟩}
   case rest=>
    clear HS2;obtain⟨rfl,rfl,HS3⟩:=hcut;go_upto_region 15 with fail
    go_cut [12,68] from 19 (fun s12 s68 wx=>s12=.int .i64 (hintCode R.hint)/\s68=.bool (wb&&wp&&decide (R.hint=.increasing))/\wx=wc)
    case first=>
     cases wb <;> cases wp <;> cases hh3 : R.hint <;>
       (have hcode3 := congrArg hintCode hh3
        simp only[hintCode]at hcode3;go_wp2_with fail
        go_meet
        exact⟨by simp[hh3,hintCode],by simp[hh3,hintCode],rfl⟩)
    case rest=>
     obtain⟨rfl,rfl,rfl⟩:=hcut;go_upto_if 68 with fail
     go_cut [] from 19 (fun wx=>R.pi.2=false/\Hid (SR w wx blk off R.pi.1))
     case first=>
      cases h68:(wb&&wp&&decide (R.hint=.increasing))
      {
      go_wp2_with fail
      go_meet
      case rel=>
       have e1:=PR.out.no h68;exact⟨by rw[e1],by rw[e1];exact HS3⟩}
      {
      have HC:=aYL (cap:=cap) HS3.out hs2 (show x<y by omega) hy hsz;rw[<-PR.out.yes h68]at HC;have HC:=qB HC;cases hpi:R.pi.2 with
      | false=>{
      rw[hpi]at HC;go_wp2_with (go_at_call 218;refine HC.out.mono ?_;rintro e w4 ⟨rfl,hw4⟩)
      go_meet
      case rel=>exact⟨hpi,qB hw4⟩}
      | true=>{
      rw[hpi]at HC;go_wp2_with (go_at_call 218;refine HC.out.mono ?_;rintro e w4 ⟨rfl,hw4⟩)
      (try simp only[Exit.inBlock,Exit.then]);refine bodyPost_ret (results_none rfl _ _ _) rfl ?_
      exact⟨rfl,by rw[<-HR.out,PR.out.done hpi];exact hw4⟩}}
     case rest=>
      clear HS3;obtain⟨hp2,HS5⟩:=hcut;have Hp2:=qB hp2;clear hp2;obtain⟨G,hG⟩:∃G:Nat->Int,∀t,R.pi.1[t]! =G t:=⟨fun t=>R.pi.1[t]!,fun _=>rfl⟩;have HG:=qB hG;clear hG;obtain⟨x0,hx0⟩:∃x0:Nat,x0=x-1:=⟨_,rfl⟩;have Hx0:=qB hx0;clear hx0;go_upto_region 17 with fail
      go_cut [87] from 19 (fun s87 wx=>s87=.bool (decide (x>0)&&!ltInt (G x0) (G R.pivot))/\Hid (SR w wx blk off R.pi.1))
      case first=>
       rcases Nat.eq_zero_or_pos x with ha0|ha0
       {
       have ha0z:decide ((x:Int)>0)=false:=qK (by omega);go_big_quiet (first|(go_at_call 219;refine qR (eJ _ _ _)))
       go_wp2_with fail
       go_meet
       case rel=>exact⟨by simp[ha0],qB (HS5.out.drewN nq)⟩}
       {
       have ha0z:(x:Int)>0:=by omega
       have wx0:IntKind.i64.wrap ((x:Int)-1)=(x0:Int):=kD (by have:=Hx0.out;omega) (by have:=Hx0.out;omega);have c1:wc.cell? ⟨blk,off+x0,none⟩=some (.int .u64 (G x0)):=by rw[HS5.out.cell (by have:=Hx0.out;omega),HG.out]
       have c2:wc.cell? ⟨blk,off+R.pivot,none⟩=some (.int .u64 (G R.pivot)):=by rw[HS5.out.cell (by omega),HG.out]
       have n1:(x0:Int)<n:=by have:=Hx0.out;omega
       have n2:(R.pivot:Int)<n:=by omega
       go_big_quiet (first|(go_at_call 219;refine qR (eJ _ _ _)))
       go_wp2_with fail
       go_meet
       case rel=>exact⟨by simp[ha0],qB (HS5.out.drewN nq)⟩}
      case rest=>
       clear HS5;obtain⟨rfl,HS6⟩:=hcut;have h87e:(decide (x>0)&&!ltInt R.pi.1[x-1]! R.pi.1[R.pivot]!)=(decide (x>0)&&!ltInt (G x0) (G R.pivot)):=by rw[HG.out,HG.out,Hx0.out]
       have H87:=qB h87e;clear h87e;cases h87:(decide (x>0)&&!ltInt (G x0) (G R.pivot))
       {
       obtain⟨mid,ap,d4,hx⟩:∃mid ap d4,partition ltInt R.pi.1 x y R.pivot=(mid,ap,d4):=⟨_,_,_,rfl⟩;obtain⟨r1,r2,r3,r4,r5,r6,r7⟩:=round_part swo_ltInt (partition_holds ltInt) hpv.1 hpv.2 (show y<=R.pi.1.size by omega) PR.out.B3 hx;have HC:=aYK (cap:=cap) HS6.out hs3 hpv.1 hpv.2 hy hsz;rw[hx]at HC;have HC:=qB HC;have HX:=qB hx;clear hx;have hs4:d4.size=n:=by rw[r3];exact hs3
       go_upto_if 113 with(go_at_call 221;refine HC.out.mono ?_;rintro e w7 ⟨rfl,hw7⟩)
       have HS7:=qB hw7;clear hw7 HC HS6;by_cases h4:mid-x<y-mid
       {
       have h4z:(mid:Int)-(x:Int)<(y:Int)-(mid:Int):=by omega
       have HC:=qB (IH.out x mid R.lim d4 w7 (by omega) HS7.out hs4 (by omega) (by omega) (by omega) r4);obtain⟨pL,sL⟩:=pdq_sorts ltInt swo_ltInt d4 x mid R.lim true true (by omega) (by omega) r4;have HL:=qB (PR.out.left Hp2.out (H87.out.trans h87) mid ap d4 HX.out ⟨r1,r2⟩ h4);have HBn:=qB (r6 _ pL sL).1;have hsn:(pdq ltInt d4 x mid R.lim true true).size=n:=by rw[pL.1];exact hs4
       clear r4 r5 r6 r7 pL sL r3;generalize pdq ltInt d4 x mid R.lim true true=d5 at *;go_wp2_with (go_at_call 198;refine HC.out.mono ?_;rintro e w8 ⟨rfl,hw8⟩)
       go_roundg (y-(mid+1))
       case measure=>omega
       case rel=>
        refine⟨mid+1,y,R.lim,decide (mid-x≥(y-x)/8),ap,d5,by simp,rfl,rfl,?_,rfl,by omega,by omega,qS _,by omega,by omega,hsn,HBn,qB hw8,qB ?_⟩
        · exact congrArg Value.bool (eighth (by omega) (by omega))
        · rw[<-HR.out,HL.out]}
       {
       have h4z:¬((mid:Int)-(x:Int)<(y:Int)-(mid:Int)):=by omega
       have HC:=qB (IH.out (mid+1) y R.lim d4 w7 (by omega) HS7.out hs4 (by omega) (by omega) (by omega) r5);obtain⟨pL,sL⟩:=pdq_sorts ltInt swo_ltInt d4 (mid+1) y R.lim true true (by omega) (by omega) r5;have HL:=qB (PR.out.right Hp2.out (H87.out.trans h87) mid ap d4 HX.out ⟨r1,r2⟩ h4);have HBn:=qB (r7 _ pL sL).1;have hsn:(pdq ltInt d4 (mid+1) y R.lim true true).size=n:=by rw[pL.1];exact hs4
       clear r4 r5 r6 r7 pL sL r3;generalize pdq ltInt d4 (mid+1) y R.lim true true=d5 at *;go_wp2_with (go_at_call 198;refine HC.out.mono ?_;rintro e w8 ⟨rfl,hw8⟩)
       go_roundg (mid-x)
       case measure=>omega
       case rel=>
        refine⟨x,mid,R.lim,decide (y-mid≥(y-x)/8),ap,d5,rfl,rfl,rfl,?_,rfl,by omega,by omega,qS _,by omega,by omega,hsn,HBn,qB hw8,qB ?_⟩
        · exact congrArg Value.bool (eighth (by omega) (by omega))
        · rw[<-HR.out,HL.out]}}
       {
       have h87' :=H87.out.trans h87;have h87'' :=h87';simp only[zG,decide_eq_true_eq,Bool.not_eq_true']at h87';obtain⟨mid,d4,hx⟩:∃mid d4,partitionEqual ltInt R.pi.1 x y R.pivot=(mid,d4):=⟨_,_,rfl⟩;obtain⟨r1,r2,r3,r4,_⟩:=round_eq swo_ltInt (partitionEqual_holds ltInt) h87'.1 hpv.1 hpv.2 (show y<=R.pi.1.size by omega) PR.out.B3 h87'.2 hx;have HC:=bBR (cap:=cap) HS6.out hs3 hpv.1 hpv.2 hy hsz;rw[hx]at HC;have HC:=qB HC;have HL:=qB (PR.out.eq Hp2.out h87'' mid d4 hx ⟨r1,r2⟩);have HX:=qB hx;clear hx h87' h87'';have hs4:d4.size=n:=by rw[r3];exact hs3
       have HBn:=qB r4;clear r4 r3;go_wp2_with (go_at_call 220;refine HC.out.mono ?_;rintro e w7 ⟨rfl,hw7⟩)
       go_roundg (y-mid)
       case measure=>omega
       case rel=>exact⟨mid,y,R.lim,wb,wp,d4,rfl,rfl,rfl,rfl,rfl,r2,hy,qS _,by omega,by omega,hs4,HBn,qB hw7,qB (by rw[<-HR.out,HL.out])⟩}}}}
theorem aYM{w wr:World}{blk off cap n:Nat}{d:Array Int}(h:SR w wr blk off d)(hn:d.size=n)(hsz:n<4611686018427387904):
    Calls Tryz.prog 162 #[.slice (some ⟨blk,off,none⟩) n cap] wr fun e w' =>e=.returned (.tuple #[])/\SR w w' blk off (Sort.sort ltInt d):=by
 have hl:bitsLen n<4611686018427387904:=Nat.lt_of_le_of_lt ((bitsLen_le_iff n 62).2 (by omega)) (by decide);have HL:=qB (aXK n hsz wr);have HP:=bBS (cap:=cap) hsz (n-0+1) 0 n (bitsLen n) d wr (Nat.lt_succ_self _) h hn (zB _) (qS _) hl (.inl rfl);have e:pdq ltInt d 0 n (bitsLen n) true true=Sort.sort ltInt d:=by unfold Sort.sort;rw[hn]
 rw[e]at HP;have HP:=qB HP;clear h e;generalize bitsLen n=k at *;go_enter Tryz.func162,Tryz.ntmps162
 go_wp2_with fail
 refine HL.out.mono ?_;rintro _ _ ⟨rfl,rfl⟩;go_wp2_with fail
 refine HP.out.mono ?_;rintro _ w1 ⟨rfl,h1⟩;go_wp2
 go_end0
 exact⟨rfl,h1⟩
theorem aNL{w:World}{v:Value}{l:List Nat}(h:w.ownsRow 0 26 1 v l.length (l.map fun(x:Nat)=>Value.int .u64 x))(hv:v.ownBlock.isSome=true)(hbig:l.length<4611686018427387904):
    Calls Tryz.prog 162 #[v] w fun e w' =>e=.returned (.tuple #[])/\w'.ownsRow 0 26 1 v l.length ((l.mergeSort (fun x y=>decide (x<=y))).map fun(x:Nat)=>Value.int .u64 x)/\Fr v.ownBlock.toList w w' :=by
 rcases h.2 with⟨rfl,_⟩|⟨g,cap,cur,rfl,hg,hcur,hnc,hcm,hcs,htk⟩
 · cases hv
 {
 have hlen:(l.map fun(x:Nat)=>(x:Int)).toArray.size=l.length:=by simp
 have henc:tM (l.map fun(x:Nat)=>(x:Int)).toArray=l.map fun(x:Nat)=>Value.int .u64 x:=by simp[tM,Function.comp_def]
 have hsr:SR w w g 0 (l.map fun(x:Nat)=>(x:Int)).toArray:=by {
 refine⟨rfl,⟨cur.toList.drop l.length,?_,cur.toList,?_,?_⟩,Fr.refl _ _⟩
 {
 rw[henc,<-htk,Nat.mul_one,List.take_append_drop];unfold Blk;rw[hcur]}
 · unfold Blk;rw[hcur]
 · rw[hlen,List.length_drop];simp;omega}
 {
 refine(aYM (cap:=cap) hsr hlen hbig).mono ?_;rintro _ w' ⟨rfl,h1⟩;refine⟨rfl,?_,h1.fr⟩;obtain⟨rest,b1,l0,b2,b3⟩:=h1.row;have hso:=sortInt (l.map fun(x:Nat)=>(x:Int));have hms:(l.map fun(x:Nat)=>(x:Int)).mergeSort (fun x y=>decide (x<=y))=(l.mergeSort (fun x y=>decide (x<=y))).map fun(x:Nat)=>(x:Int):=by {
 rw[List.map_mergeSort];intro a _ b _;simp};have he:tM (Sort.sort ltInt (l.map fun(x:Nat)=>(x:Int)).toArray)=(l.mergeSort (fun x y=>decide (x<=y))).map fun(x:Nat)=>Value.int .u64 x:=by unfold tM;rw[hso,hms];simp[Function.comp_def]
 rw[he]at b1;have hl0:l0=cur.toList:=by {
 have:Blk w g 26 cur.toList:=by unfold Blk;rw[hcur]
 exact b2.eq this};have hms2:(Sort.sort ltInt (l.map fun(x:Nat)=>(x:Int)).toArray).size=l.length:=by {
 have:=congrArg List.length hso;simpa using this};refine⟨by simp,.inr ⟨g,cap,_,rfl,zB _,b1,hnc,hcm,?_,?_⟩⟩
 {
 rw[hl0,hms2]at b3;simp at b3 ⊢;omega}
 · rw[Nat.mul_one,List.take_append_of_le_length (by simp),List.take_of_length_le (by simp)]}}
end Go.Proofs.YtgmnemndjjmgkaaGreat
namespace Go.Proofs.YtgmnemndjjmgkaaGreat
open Go.RowKit
def eB(l:List Nat):List Value:=l.map fun(x:Nat)=>.int .u64 x
def kE(l:List Nat):List Nat:=l.mergeSort (fun x y=>decide (x<=y))
theorem aKP(l:List Nat):(kE l).length=l.length:=by simp[kE]
theorem aNM(n:Nat):madeCells (Value.int .u64 0).cells n=(bY n (idF (fun _=>0))).toArray:=by
 apply Array.ext
 · simp[madeCells,bY]
 {
 intro i h1 h2;simp[madeCells,bY,idF,Value.cells,Nat.mod_one]}
theorem aGE(c:Nat)(w:World)(hn:c<=1048576):(Instr.makeSlice 48 (.int .i64 0) (.int .i64 c)).run Tryz.prog w=.ok (.slice (some ⟨w.heap.size,0,none⟩) 0 c) (w.alloc (.cells (bY c (idF (fun _=>0))).toArray 26)):=by
 obtain⟨i0,hi,hz0,hz1,hz2⟩:=info_parts Tryz.info26;have h:=run_make (P:=Tryz.prog) w 48 26 i0 (.int .u64 0) Tryz.underlying48 hi hz0 .i64 .i64 0 c (by omega) (by omega) (by rw[hz2];omega) (by omega);rw[hz1]at h;simp only[zM,Nat.mul_one]at h;rw[aNM]at h;exact h
theorem aGF{w:World}{pt:Nat}{T:Tb}{l:List Nat}(h:cH w pt T l):
    Calls Tryz.prog 115 #[ptr pt] w fun e w' =>∃v,e=.returned v/\w'.ownsRow 0 26 1 v (fV T.A).length (eB (kE ((fV T.A).map T.ids)))/\(∀q,v.ownBlock=some q->w.heap.size<=q)/\Fr [] w w' :=by
 have HT:=qB h;have hlt:=h.lt;obtain⟨cpc,rst,pa,gc,n,vi,C,la,h1,h2,h3,h4,rfl,hnd,hM,hs,hT,hinj,hb64⟩:=h;clear hT hinj hM hs h4 hnd;have hok:=h2.ok;have hs:=hok.hs;have hb:=hok.hb;have c0:=h1.cell 0;have c1:=h1.cell 1;have c2:=h1.cell 2;simp only[zS,zT]at c0 c1 c2;have husd:T.A.used<=65536:=by unfold Ar.used;omega
 have hmk:=aGE T.A.used w (by omega);have hown0:=yF (w:=w) (e:=26) (cs:=bY T.A.used (idF fun _=>0)) T.A.used (cU _ _) (by omega);have HO0:=qB hown0;clear hown0;have HF0:Hid (Fr [] w (w.alloc (.cells (bY T.A.used (idF fun _=>0)).toArray 26))):=qB ((Fr.refl [] w).alloc _);have d1:(w.alloc (.cells (bY T.A.used (idF fun _=>0)).toArray 26)).cell? ⟨pt,1,none⟩=some (ptr pa):=HF0.out.cell c1 (by simp);have HLen:=qB (nK h2);have HLi:=qB (uM (h2.fr HF0.out (by simp)));have H3:=qB (zR h3 h1);clear h3 h1 h2;have HLt:=qB hlt;clear hlt;have hul:(fV T.A).length<=65536:=by rw[rX hok];exact husd
 have hum:∀i (hi:i<(fV T.A).length),(fV T.A)[i]<T.A.begun:=fun i hi=>(iY.1 (List.getElem_mem hi)).1;generalize fV T.A=us at *;go_enter Tryz.func115,Tryz.ntmps115
 go_wp2_with (first|(go_at_call 142;refine(dD pt _ c0).mono ?_;rintro e w' ⟨rfl,rfl⟩)|(go_at_call 96;refine HLen.out.mono ?_;rintro e w' ⟨rfl,rfl⟩)|(go_at_call 97;refine HLi.out.mono ?_;rintro e w2 ⟨vl,rfl,hownl,hql,hF2⟩;obtain⟨al,cl,rfl⟩:=aJ hownl))
 have HO0' :=qB (aI HO0.out (fun q hq=>hF2.keep q (HO0.out.lt q hq).2 (by simp)));have HF2:=qB (HF0.out.trans' hF2);have hpl:∀q,(Value.slice al us.length cl).ownBlock=some q->w.heap.size+1<=q:=fun q hq=>by have:=hql q hq;simpa using this
 have HQL:=qB hpl;clear hpl hql;have HOL:=qB hownl;clear hownl hF2;generalize w.alloc (.cells (bY T.A.used (idF fun _=>0)).toArray 26)=w1 at *;clear c0 c1 c2 hmk d1 HLen HLi HO0 HF0
 go_loopw [3,21] (fun v si wr=>∃i:Nat,i<=us.length/\si=.int .i64 i/\Hid (Fr [] w wr)/\Hid (wr.ownsRow 0 3 1 (.slice al us.length cl) us.length (gA us))/\wr.ownsRow 0 26 1 v i (eB ((us.take i).map T.ids)) /\
   Hid (v.ownBlock.isSome=true/\∀q,v.ownBlock=some q->w.heap.size<=q/\(Value.slice al us.length cl).ownBlock≠some q)) (fun _ si _=>us.length-(intOf si).toNat)
 case atStart=>
  refine⟨0,zB _,rfl,HF2,HOL,by simpa[eB] using HO0'.out,qB ⟨rfl,fun q e=>?_⟩⟩;simp only[Value.ownBlock,qQ]at e;refine⟨by omega,fun e2=>?_⟩;have:=HQL.out q e2;omega
 case round=>
  clear HO0' HF2 HOL;obtain⟨i,hi,rfl,HF,HOL,hown,HQ⟩:=hrel;obtain⟨a8,c8,rfl⟩:=aJ hown;by_cases hlt:i<us.length
  {
  have hil:(i:Int)<us.length:=by omega
  obtain⟨gl,cl', e,_,hgl,hcl,_⟩:=cD HOL.out hlt;simp only[qY,true_and]at e;obtain⟨rfl,rfl⟩:=e;have hx:(gA us)[i]? =some (.int .i64 (us[i]:Nat)):=by simp[gA,hlt]
  rw[hx]at hcl;have hxb:=hum i hlt;obtain⟨gi,ci,e,_,hgi,hci,_⟩:=cD H3.out.1 hxb;subst e;rw[eV hxb]at hci;simp only[idF]at hci;have c2:=(HF.out.blk H3.out.2 (by simp)).cell 2;simp only[zS,zT]at c2;have hci' :=HF.out.cell hci (by simp);have Htk:=qB (show(us.take (i+1)).map T.ids=(us.take i).map T.ids++[T.ids us[i]] by rw[List.take_add_one,qT hlt,List.map_append];rfl);clear hx hci;generalize us[i]=x at *;have hxi:(x:Int)<T.A.begun:=by omega
  have hx0:(0:Int)<=x:=by omega
  generalize T.A.begun=bg at *;generalize T.ids x=y at *;go_wp2_with (at_builtin;refine fT rfl _ _ 48 rfl 26 (.int .u64 0) 8 Tryz.underlying48 Tryz.info26 rfl (.slice a8 i c8) i _ rfl (hown.alloc _) wr.heap.size (.int .u64 y) rfl (fS _ _ _ _ rfl) rfl (by omega) (by decide) ?_;intro g' cap' w4 hown4 hgrow4 hg4;have hF4:Fr (Value.slice a8 i c8).ownBlock.toList wr w4:=((Fr.refl _ _).alloc _).grown hgrow4 (fun q e=>.inl (by simp[e])))
  go_roundw
  case rel=>
   have hs4:=HF.out.size;simp only[World.size_alloc]at hg4;refine⟨i+1,by omega,by go_num,qB (HF.out.trans hF4 (fun q hq=>.inr (HQ.out.2 q (by simpa using hq)).1)),qB (aI HOL.out (fun q hq=>hF4.keep q (HOL.out.lt q hq).2 (fun hm=>(HQ.out.2 q (by simpa using hm)).2 hq))),?_,qB ⟨rfl,fun q e=>?_⟩⟩
   {
   rw[Htk.out];have:∀(l:List Nat) (y:Nat),eB (l++[y])=eB l++[.int .u64 y]:=fun l y=>by simp[eB]
   rw[this];exact hown4}
   {
   simp only[Value.ownBlock,qQ]at e;subst e;rcases hg4 with e|e
   · exact HQ.out.2 _ e
   {
   refine⟨by omega,fun e2=>?_⟩;have:=(HOL.out.lt _ e2).2;omega}}
  case measure=>simp[intOf];omega}
  {
  obtain rfl:i=us.length:=by omega
  rw[List.take_of_length_le (qS _)]at hown;have hlm:(us.map T.ids).length=us.length:=by simp
  have hsr:=aNL (v:=.slice a8 us.length c8) (l:=us.map T.ids) (by rw[hlm];exact hown) HQ.out.1 (by rw[hlm];omega);rw[hlm]at hsr;have HSr:=qB hsr;clear hsr hown;go_wp2_with fail
  refine HSr.out.mono ?_;rintro _ w5 ⟨rfl,hown5,hF5⟩;have H5:=qB (zR hown5 hF5);clear hown5 hF5;go_wp2
  go_ret;exact⟨_,rfl,H5.out.1,fun q hq=>(HQ.out.2 q hq).1,HF.out.trans H5.out.2 (fun q hq=>.inr (HQ.out.2 q (by simpa using hq)).1)⟩}
def Tryz.laysCloneU_ren:Go.Shelf.Ren:=⟨fun|41=>148|n=>n,fun|22=>48|23=>26|4=>4|n=>n,fun|n=>n⟩
theorem Tryz.laysCloneU:Go.Proofs.SlLaysE0.n41 Tryz.prog Tryz.laysCloneU_ren:={
  mixed:=by kernel_rfl
  f41:=⟨Tryz.f148.name,by decide,Tryz.func148.trans (congrArg some (by kernel_rfl))⟩
  t4:=Tryz.underlying4
  a4:=Tryz.isAgg4
  z4:=Tryz.sizeOf4
  v4:=Tryz.zeroValue4
  t22:=Tryz.underlying48
  a22:=Tryz.isAgg48
  z22:=Tryz.sizeOf48
  v22:=Tryz.zeroValue48 }
def Tryz.laysCloneI_ren:Go.Shelf.Ren:=⟨fun|41=>105|n=>n,fun|22=>94|23=>3|4=>4|n=>n,fun|n=>n⟩
theorem Tryz.laysCloneI:Go.Proofs.SlLaysE0.n41 Tryz.prog Tryz.laysCloneI_ren:={
  mixed:=by kernel_rfl
  f41:=⟨Tryz.f105.name,by decide,Tryz.func105.trans (congrArg some (by kernel_rfl))⟩
  t4:=Tryz.underlying4
  a4:=Tryz.isAgg4
  z4:=Tryz.sizeOf4
  v4:=Tryz.zeroValue4
  t22:=Tryz.underlying94
  a22:=Tryz.isAgg94
  z22:=Tryz.sizeOf94
  v22:=Tryz.zeroValue94 }
theorem mK{w:World}{base:Nat}{e:TypeId}{size:Nat}{v:Value}{n:Nat}{xs:List Value}(h:w.ownsRow base e size v n xs):w.ownsRow 0 e size v n xs:=
  ⟨h.1,h.2.elim .inl (fun⟨g,cap,cur,k1,_,k3⟩=>.inr ⟨g,cap,cur,k1,zB _,k3⟩)⟩
theorem mL{w:World}{base:Nat}{e:TypeId}{size:Nat}{v:Value}{n:Nat}{xs:List Value}(h:w.ownsRow base e size v n xs):∀q,v.ownBlock=some q->base<=q:=by
 intro q hq;rcases h.2 with⟨rfl,_⟩|⟨g,cap,cur,rfl,hb,_⟩
 · cases hq
 · simp[Value.ownBlock]at hq;omega
theorem aKQ{w:World}{v:Value}{n:Nat}{f:Nat->Nat}(h:w.ownsRow 0 26 1 v n (bY n (idF f)))(hn:n<=65536):
    Calls Tryz.prog 148 #[v] w fun e w' =>∃v', e=.returned v' /\ w'.ownsRow 0 26 1 v' n (bY n (idF f))/\(∀q,v'.ownBlock=some q->w.heap.size<=q)/\Fr [] w w' :=by
 obtain⟨i0,hi,hz0,hz1,hz2⟩:=info_parts Tryz.info26;rcases h.2 with⟨rfl,rfl⟩|⟨g,cap,cur,rfl,hg,hcur,hnc,hcm,hcs,htk⟩
 {
 refine(AnyE.slices_Clone_nil Tryz.laysCloneU 0 0 w).mono ?_;rintro _ _ ⟨rfl,rfl⟩;exact⟨_,rfl,h,fun q e=>(by cases e),Fr.refl _ _⟩}
 {
 refine(AnyE.slices_Clone Tryz.laysCloneU i0 (.int .u64 0) 1 8 hi hz0 hz1 hz2 rfl (by decide) Tryz.sizeOf26 g 0 n cap (bY n (idF f)) w (by rw[cU];omega) (by unfold maxLen;omega) (by omega) (fun j u hj=>?_) (fun u hu=>?_)).mono ?_
 · rw[Nat.zero_add,h.cellAt j (by have:=(zC.1 hj).1;rw[cU]at this;omega)];exact hj
 {
 simp only[bY,zF]at hu;obtain⟨k,_,rfl⟩:=hu;rfl}
 {
 rintro _ w' ⟨v', rfl,h1,_,hB⟩;exact⟨v', rfl,mK h1,mL h1,Fr.of_below hB⟩}}
theorem aDA{w:World}{g n cap:Nat}{C:Nat->Nat}{rst:List Value}(h:Blk w g 3 (iR n C rst))(h0:0<n)(hn:n<=131072):
    Calls Tryz.prog 105 #[.slice (some ⟨g,0,none⟩) n cap] w fun e w' =>∃g' cap' rst', e=.returned (.slice (some ⟨g', 0,none⟩) n cap')/\Blk w' g' 3 (iR n C rst')/\w.heap.size<=g' /\ Fr [] w w' :=by
 obtain⟨i0,hi,hz0,hz1,hz2⟩:=info_parts Tryz.info3;refine(AnyE.slices_Clone Tryz.laysCloneI i0 (.int .i64 0) 1 8 hi hz0 hz1 hz2 rfl (by decide) Tryz.sizeOf3 g 0 n cap (bY n (fE C)) w (by rw[cU];omega) (by unfold maxLen;omega) (by omega) (fun j u hj=>?_) (fun u hu=>?_)).mono ?_
 {
 have hjl:j<n:=by have:=(zC.1 hj).1;rwa[cU]at this
 rw[Nat.zero_add,h.cell,gD hjl,<-hj,eV hjl]}
 {
 simp only[bY,zF]at hu;obtain⟨k,_,rfl⟩:=hu;rfl}
 {
 rintro _ w' ⟨v', rfl,h1,_,hB⟩;rcases h1.2 with⟨_,hz⟩|⟨g', cap', cur,rfl,hg', hcur,hnc,hcm,hcs,htk⟩
 · omega
 {
 refine⟨g', cap', cur.toList.drop n,rfl,?_,hg', Fr.of_below hB⟩;unfold iR;rw[<-htk,Nat.mul_one,List.take_append_drop];unfold Blk;rw[Array.toArray_toList];exact hcur}}
theorem aGG{w:World}{pt:Nat}{T:Tb}{l:List Nat}(h:cH w pt T l):
    Calls Tryz.prog 102 #[ptr pt] w fun e w' =>∃pt', e=.returned (ptr pt')/\∃l', cH w' pt' T l' /\ Fr [] w w' /\ ∀b∈l', w.heap.size<=b:=by
 obtain⟨cpc,rst,pa,gc,n,vi,C,la,h1,h2,h3,h4,rfl,hnd,hM,hs,hT,hinj,hb64⟩:=h;have hok:=h2.ok;have hs1:=hok.hs;have hs2:=hok.hb;have hn:=hM.pos;have hn2:=hM.le;have c0:=h1.cell 0;have c1:=h1.cell 1;have c2:=h1.cell 2;have c3:=h1.cell 3;simp only[zS,zT]at c0 c1 c2 c3;have HR:=qB (zR hnd (zR hM (zR hs (zR hT (zR hinj hb64)))));clear hnd hM hs hT hinj hb64;have HA:=qB (uR (h2.same (w' :=w.drew) (fun _ _=>rfl)));have HI:=qB (fun(w' :World) (hf:Fr [] w w')=>aKQ (aI (w' :=w') h3 (fun k hk=>hf.keep k (h3.lt k hk).2 (by simp))) (by omega));have HC:=qB (fun(w' :World) (hf:Fr [] w w')=>aDA (cap:=cpc) (hf.blk h4 (by simp)) (by omega) (by omega));have hF0:Fr [] w w.drew:=(Fr.refl [] w).drew;go_enter Tryz.func102,Tryz.ntmps102
 go_wp2_with (go_at_call 142;refine(dD pt _ c0).mono ?_;rintro e w' ⟨rfl,rfl⟩)
 go_region_held3 (fun w' => w'.cell? ⟨pt, 1, none⟩ = some (ptr pa) /\ w'.cell? ⟨pt, 2, none⟩ = some vi /\ w'.cell? ⟨pt, 3, none⟩ = some (.slice (some ⟨gc, 0, none⟩) n cpc))
   (first
     | go_keep
     | (exact⟨hF3.cell c1 (by simp),hF3.cell c2 (by simp),hF3.cell c3 (by simp)⟩)
     | (exact⟨hF4.cell c1 (by simp),hF4.cell c2 (by simp),hF4.cell c3 (by simp)⟩)
     | (exact⟨hF5.cell c1 (by simp),hF5.cell c2 (by simp),hF5.cell c3 (by simp)⟩)
     | (exact⟨(hF5.alloc _).cell c1 (by simp),(hF5.alloc _).cell c2 (by simp),(hF5.alloc _).cell c3 (by simp)⟩))
   (first
     | (go_at_call 101;refine HA.out.mono ?_;rintro e w3 ⟨pa', rfl,la', hA3,hF3,hl3⟩;have hla3:=hA3.lt;replace hF3:=hF0.trans' hF3)
     | (go_at_call 148;refine(HI.out _ hF3).mono ?_;rintro e w4 ⟨vi', rfl,hI4,hq4,hF4⟩;replace hA3:=hA3.fr hF4 (by simp);have hsz4:=hF3.size;have hF34:=hF4;replace hF4:=hF3.trans' hF4;obtain⟨ai,ci,rfl⟩:=aJ hI4;have hil4:=fun q hq=>(hI4.lt q hq).2)
     | (go_at_call 105;refine(HC.out _ hF4).mono ?_;rintro e w5 ⟨gc', cpc', rst', rfl,hC5,hg5,hF5⟩;replace hA3:=hA3.fr hF5 (by simp);replace hI4:=aI (w' :=w5) hI4 (fun k hk=>hF5.keep k (hI4.lt k hk).2 (by simp));have hsz5:=hF4.size;replace hF5:=hF4.trans' hF5))
 have hb0:=Blk.new w5 [ptr w5.heap.size,ptr pa', .slice ai T.A.begun ci,.slice (some ⟨gc', 0,none⟩) n cpc'] 204;have H5:=qB (zR hA3 (zR hI4 (zR hC5 hF5)));clear hA3 hI4 hC5;have Hb1:=qB hb0;clear hb0;have hq4' :∀q,(Value.slice ai T.A.begun ci).ownBlock=some q->w3.heap.size<=q:=hq4;have hl3' :∀b∈la', w.heap.size<=b:=fun b hb=>by have:=hl3 b hb;simpa using this
 have hlt3:=H5.out.1.lt;go_wp2
 go_ret;have hFz:Fr [] w5 (w5.alloc (.cells #[ptr w5.heap.size,ptr pa', .slice ai T.A.begun ci,.slice (some ⟨gc', 0,none⟩) n cpc'] 204)):=(Fr.refl _ _).alloc _;have hila:∀q,(Value.slice ai T.A.begun ci).ownBlock=some q->q<w5.heap.size:=fun q hq=>(H5.out.2.1.lt q hq).2;have hgl:=H5.out.2.2.1.lt;obtain⟨hnd,hM,hs,hT,hinj,hb64⟩:=HR.out;refine⟨w5.heap.size,rfl,w5.heap.size::gc' :: ((Value.slice ai T.A.begun ci).ownBlock.toList++la'),⟨cpc', rst', pa', gc', n,.slice ai T.A.begun ci,C,la', Hb1.out,H5.out.1.fr hFz (by simp),aI H5.out.2.1 (fun k hk=>hFz.keep k (H5.out.2.1.lt k hk).2 (by simp)),hFz.blk H5.out.2.2.1 (by simp),rfl,?_,hM,hs,hT,hinj,hb64⟩,H5.out.2.2.2.trans' hFz,?_⟩
 {
 have hlan:la'.Nodup:=by obtain⟨_,_,_,_,_,_,_,_,hq,_⟩:=H5.out.1;exact hq
 rw[qX,qX,qW];refine⟨?_,?_,by cases (Value.slice ai T.A.begun ci).ownBlock<;>simp,hlan,?_⟩
 {
 simp only[qF,qJ,Option.mem_toList,not_or];exact⟨by omega,fun e=>by have:=hila _ e;omega,fun hm=>by have:=hlt3 _ hm;omega⟩}
 {
 simp only[qJ,Option.mem_toList,not_or];refine⟨fun e=>by have:=hil4 _ e;omega,fun hm=>?_⟩;have:=hla3 _ hm;have:=hF34.size;omega}
 {
 intro x hx y hy e;subst e;have h1:=hq4' x (by simpa using hx);have h2:=hla3 x hy;omega}}
 {
 intro b hb;simp only[qF,qJ,Option.mem_toList]at hb;have:=H5.out.2.2.2.size;rcases hb with rfl|rfl|hb|hb
 · omega
 · omega
 · have:=hq4' b hb;omega
 · exact hl3' b hb}
def iS(P:Program)(cs ps:List Nat)(C:Nat->World->Prop)(i:Nat)(s:Sem Go.Next)(v:Value):Prop:=
  if i<cs.headD 0/\i∉ps then ∀w,C 0 w->Oper.quietUpon P (C 0) w v (s.run P w)
  else if i∈cs then ∀w,C (cs.idxOf i) w->fB P (C (cs.idxOf i+1)) v (s.run P w) else ∀w,mA w v (s.run P w)
section
variable {P:Program} {ops:Array Oper} {md:Region.Mode} {C:Nat->World->Prop} {cs ps:List Nat}
def tN(md:Region.Mode)(ops:Array Oper):List Nat->Bool
  | []=>true
  | [c]=>decide (c<ops.size)
  | c::d::r=>decide (c<ops.size)&&decide (c<d)&&(uB md ops (d+1) ((Array.replicate ops.size false).setIfInBounds d true)).getD c false&&tN md ops (d::r)
theorem aAX{L:Array Bool}(hL:tF md ops L){c d:Nat}(hB:(uB md ops (d+1) ((Array.replicate ops.size false).setIfInBounds d true)).getD c false=true)(hd:L.getD d false=true):L.getD c false=true:=by
 refine nJ hL (d+1) _ ?_ c hB;intro j hj;by_cases e:d=j
 · rw[<-e];exact hd
 {
 rw[getD_set_ne false e,eE]at hj;cases hj}
def cnt(cs:List Nat)(L:Array Bool):Nat:=cs.countP (fun c=>L.getD c false)
theorem aGH:∀{cs:List Nat},tN md ops cs=true->∀c∈cs,c<ops.size
  | [],_,c,hc=>by cases hc
  | [d],h,c,hc=>by simp[tN]at h;simp at hc;omega
  | d::e::r,h,c,hc=>by
    simp only[tN,zG,decide_eq_true_eq]at h;rcases qF.1 hc with rfl|hc
    · exact h.1.1.1
    · exact aGH h.2 c hc
theorem lD:∀{cs:List Nat},tN md ops cs=true->cs.Pairwise (· < ·)
  | [],_=>.nil
  | [d],_=>by simp
  | d::e::r,h=>by
    simp only[tN,zG,decide_eq_true_eq]at h;have ih:=lD h.2;refine List.Pairwise.cons (fun x hx=>?_) ih;rcases qF.1 hx with rfl|hx
    · exact h.1.1.2
    · exact Nat.lt_trans h.1.1.2 (List.rel_of_pairwise_cons ih hx)
theorem gS{L:Array Bool}(hL:tF md ops L):∀{cs:List Nat},tN md ops cs=true->∀q c,cs[q]? =some c->(L.getD c false=true↔q<cnt cs L)
  | [],_,q,c,h=>by simp at h
  | [d],_,q,c,h=>by
    cases q with
    | succ q=>simp at h
    | zero=>
      simp at h;subst h;simp only[cnt,List.countP_cons,List.countP_nil];by_cases hd:L.getD d false=true<;>simp[hd]
  | d::e::r,hB,q,c,h=>by
    simp only[tN,zG]at hB;have ih:=gS hL hB.2;by_cases hd:L.getD d false=true
    · have hcnt : cnt (d :: e :: r) L = cnt (e :: r) L + 1 := by simp only [cnt, List.countP_cons, hd]; simp
      cases q with
      | zero=>simp at h;subst h;rw[hcnt];simp[hd]
      | succ q=>
        have:=ih q c (by simpa using h);rw[hcnt,this];omega
    · have he : ¬ L.getD e false = true := fun he => hd (aAX hL hB.1.2 he)
      have h0:cnt (e::r) L=0:=by
        have:=ih 0 e (by simp);apply qZ;intro hne;exact he (this.2 (by omega))
      have hcnt:cnt (d::e::r) L=0:=by
        have:cnt (d::e::r) L=cnt (e::r) L:=by simp only[cnt,List.countP_cons];simp[hd]
        rw[this,h0]
      rw[hcnt];cases q with
      | zero=>simp at h;subst h;simp[hd]
      | succ q=>
        have:=ih q c (by simpa using h);rw[h0]at this;rw[this];omega
theorem aIF{L:Array Bool}{i:Nat}(hs:i<L.size)(hl:L.getD i false=false)(hnd:cs.Nodup)(hi:i∈cs):cnt cs (L.setIfInBounds i true)=cnt cs L+1:=by
 unfold cnt;induction cs with
 | nil=>cases hi
 | cons d r ih=>{
 simp only[qX]at hnd;simp only[List.countP_cons];by_cases e:d=i
 {
 subst e;have h1:r.countP (fun c=>(L.setIfInBounds d true).getD c false)=r.countP (fun c=>L.getD c false):=by {
 apply List.countP_congr;intro c hc;rw[getD_set_ne false (show d≠c by rintro rfl;exact hnd.1 hc)]};rw[h1];have h2:(L.setIfInBounds d true).getD d false=true:=by simp[hs]
 rw[h2,hl];simp}
 {
 rw[ih hnd.2 ((qF.1 hi).resolve_left (fun h=>e h.symm)),getD_set_ne false (fun h=>e h.symm)];omega}}
theorem yH{L:Array Bool}{i:Nat}(hi:i∉cs):cnt cs (L.setIfInBounds i true)=cnt cs L:=by
 unfold cnt;apply List.countP_congr;intro c hc;rw[getD_set_ne false (show i≠c by rintro rfl;exact hi hc)]
def allBefore' (md:Region.Mode)(ops:Array Oper)(c:Nat)(ps:List Nat):Bool:=(List.range c).all fun i=>ps.contains i||(uB md ops (c+1) ((Array.replicate ops.size false).setIfInBounds c true)).getD i false
theorem before_listed' {L:Array Bool}{c:Nat}(hL:tF md ops L)(hB:allBefore' md ops c ps=true)(hc:L.getD c false=true):∀i,i<c/\i∉ps->L.getD i false=true:=by
 intro i hi;have h1:=List.all_eq_true.1 hB i (by simpa using hi.1);simp only[Bool.or_eq_true,List.contains_iff_mem]at h1;refine nJ hL (c+1) _ ?_ i (h1.resolve_left hi.2);intro j hj;by_cases e:c=j
 · rw[<-e];exact hc
 {
 rw[getD_set_ne false e,eE]at hj;cases hj}
theorem aAY(hrow:tN md ops cs=true)(hne:cs≠[])(hb:fU md ops=true)(hbf:allBefore' md ops (cs.headD 0) ps=true)(hu:∀c∈cs,∀o,ops[c]? =some o->o.guard=none){Q:Act->Prop}{Q' :Exit->Act->World->Prop}(hQ:∀a w,C cs.length w->Q a->Q' .normal a w):∀(fuel:Nat) (listed:Array Bool) (a:Act) (w:World),listed.size=ops.size ->
    tF md ops listed->C (cnt cs listed) w->aCN (iS P cs ps C) md ops Q fuel listed a->wpAny P md ops Q' fuel listed a w:=by
 have hend:∀listed:Array Bool,listed.size=ops.size->Region.ready md ops listed=[]->cnt cs listed=cs.length:=by {
 intro listed hs h0;unfold cnt;rw[List.countP_eq_length];intro c hc;exact kA hs hb h0 c (aGH hrow c hc)};have hnd:cs.Nodup:=(lD hrow).imp (fun h=>Nat.ne_of_lt h);intro fuel;induction fuel with
 | zero=>{
 intro listed a w hs _ hp h;exact⟨h.1,hQ _ _ (by rw[hend listed hs h.1]at hp;exact hp) h.2⟩}
 | succ fuel ih=>{
 intro listed a w hs hsh hp h;refine⟨fun h0=>hQ _ _ (by rw[hend listed hs h0]at hp;exact hp) (h.1 h0),fun i hi=>?_⟩;have hg:=h.2 i hi;obtain⟨hun,oi,hoi,_⟩:=mem_ready.1 hi;have hil:i<ops.size:=(qU.1 hoi).1;have hs' :(listed.setIfInBounds i true).size=ops.size:=by simp[hs]
 have hl0:listed.getD i false=false:=by simp[hs,hil]at hun ⊢;exact hun
 have next:∀a' w', C (cnt cs (listed.setIfInBounds i true)) w' -> aCN (iS P cs ps C) md ops Q fuel (listed.setIfInBounds i true) a' -> wpAny P md ops Q' fuel (listed.setIfInBounds i true) a' w' :=
   fun a' w' hp' hg' =>ih _ a' w' hs' (hsh.set hi) hp' hg'
 unfold gOp at hg;unfold wpOp;simp only[hoi]at hg ⊢;by_cases hmem:i∈cs
 {
 have hcs:=aIF (L:=listed) (by omega) hl0 hnd hmem;have hhead:¬i<cs.headD 0:=by {
 cases hcc:cs with
 | nil=>exact absurd hcc hne
 | cons d r=>{
 rw[hcc]at hmem;have:=lD hrow;rw[hcc]at this;rcases qF.1 hmem with rfl|hm
 · simp
 · have:=List.rel_of_pairwise_cons this hm;simp;omega}};have hidx:cs.idxOf i=cnt cs listed:=by {
 have hlt:=List.idxOf_lt_length_of_mem hmem;have hget:cs[cs.idxOf i]? =some i:=by rw[qT hlt,List.getElem_idxOf]
 have h1:=gS hsh hrow _ _ hget;rw[hl0]at h1;have hge:cnt cs listed<=cs.idxOf i:=by {
 apply qZ;intro hx;have:=h1.2 (by omega);cases this};have h2:=gS (hsh.set hi) hrow _ _ hget;rw[hcs]at h2;have h3:(listed.setIfInBounds i true).getD i false=true:=by simp[hs,hil]
 have:=h2.1 h3;omega};have hw:Region.wanted oi (yielded ops a.tmps)=true:=by simp[Region.wanted,hu i hmem oi hoi]
 rw[qI hw]at hg ⊢;obtain⟨v,hv,hk⟩:=hg;unfold iS at hv;rw[qH (fun hx=>hhead hx.1),qI hmem,hidx]at hv;exact .inl (oO (fun w' hc' =>next _ w' (by rw[hcs];exact hc') hk) (hv w hp))}
 {
 have hcs:=yH (L:=listed) hmem;by_cases hw:Region.wanted oi (yielded ops a.tmps)=true
 {
 rw[qI hw]at hg ⊢;obtain⟨v,hv,hk⟩:=hg;unfold iS at hv;left
 by_cases hlt:i<cs.headD 0/\i∉ps
 {
 have h0:cnt cs listed=0:=by {
 cases hcc:cs with
 | nil=>exact absurd hcc hne
 | cons d r=>{
 apply qZ;intro hx;have h1:=(gS hsh hrow 0 d (by rw[hcc];rfl)).2 (by rw[hcc];omega);rw[hcc]at hlt hbf;rw[before_listed' hsh hbf h1 i hlt]at hl0;cases hl0}};rw[qI hlt]at hv;rw[h0]at hp;exact oN hp (fun w' hc' =>next _ w' (by rw[hcs,h0];exact hc') hk) (hv w hp)}
 {
 rw[qH hlt,qH hmem]at hv;exact xU (next _ w (by rw[hcs];exact hp) hk) (hv w)}}
 {
 rw[qH hw]at hg ⊢;exact next _ w (by rw[hcs];exact hp) hg}}}
theorem mM(cs ps:List Nat){id:Nat}{Q:Exit->Act->World->Prop}{a:Act}{w:World}{l:List Oper}(C:Nat->World->Prop)(hC:∀w', C 0 w' ↔ ∃n,w' =w.drewN n)(hm:P.follows .mixedOrders=true)(hB:Region.lexB .any l.toArray=true)
    (hk:(((fU .any l.toArray&&allBefore' .any l.toArray (cs.headD 0) ps)&&(tN .any l.toArray cs&&!cs.isEmpty))&&cs.all fun c=>match l[c]? with|some o=>o.guard.isNone|none=>false)=true)
    (h:dZ (iS P cs ps C) l.toArray (fun a' =>∀w', C cs.length w' -> Q .normal a' w') 0 l a):(Code.region id l.toArray true).wp P Q a w:=by
 simp only[Region.lexB,zG]at hB;rw[zG,zG,zG,zG]at hk;obtain⟨⟨⟨hk1,hk3⟩,hk4,hk5⟩,hk2⟩:=hk;have hne:cs≠[]:=by rintro rfl;simp at hk5
 have hg:∀c∈cs,∀o,l.toArray[c]? =some o->o.guard=none:=by {
 intro c hc o ho;have h1:=List.all_eq_true.1 hk2 c hc;simp only[List.getElem?_toArray]at ho;rw[ho]at h1;simpa using h1};refine wp_region_any hm (aAY (Q:=fun a' =>∀w', C cs.length w' -> Q .normal a' w') (C:=C) (cs:=cs) (ps:=ps) hk4 hne hk1 hk3 hg (fun _ w' hw' h=>h w' hw') _ _ _ _ (by simp) ?_ ?_ ?_)
 · intro j oj _ hl;rw[eE]at hl;cases hl
 {
 have:cnt cs (Array.replicate l.toArray.size false)=0:=by unfold cnt;rw[List.countP_eq_zero];intro c _;rw[eE];simp
 rw[this];exact(hC _).2 ⟨1,rfl⟩}
 {
 have:=uA (G:=iS P cs ps C) (md:=.any) hB.1 l 0 (Array.replicate l.toArray.size false) a (by simp) (by simpa using hB.2) h;simpa using this}
theorem iZ{Q:Act->Prop}{k:Nat}{o:Oper}{rest:List Oper}{a:Act}(hk:decide (k<cs.headD 0/\k∉ps)=true)
    (h:∀K:Act->Prop,(∀a,dZ (iS P cs ps C) ops Q (k+1) rest a->K a)->if Region.wanted o (yielded ops a.tmps) then o.quiet P a (C 0) K else K (a.put o.dst undef)):dZ (iS P cs ps C) ops Q k (o::rest) a:=by
 have h:=h _ (fun _ h=>h);unfold dZ;by_cases hw:Region.wanted o (yielded ops a.tmps)=true
 {
 rw[qI hw]at *;obtain⟨v,h1,h2⟩:=h;refine⟨v,?_,h2⟩;unfold iS;rw[qI (of_decide_eq_true hk)];exact h1}
 · rw[qH hw]at *;exact h
theorem fW{Q:Act->Prop}{k q:Nat}{o:Oper}{rest:List Oper}{a:Act}(hk:(decide (¬(k<cs.headD 0/\k∉ps))&&decide (k∈cs)&&decide (cs.idxOf k=q))=true)(hg:o.guard=none)(v:Value)
    (h0:∀w,C q w->fB P (C (q+1)) v ((execOp a.eval o).run P w)) (h:dZ (iS P cs ps C) ops Q (k+1) rest (a.put o.dst v)):dZ (iS P cs ps C) ops Q k (o::rest) a:=by
 simp only[zG,decide_eq_true_eq]at hk;unfold dZ;rw[qI (by simp[Region.wanted,hg])];refine⟨v,?_,h⟩;unfold iS;rw[qH hk.1.1,qI hk.1.2,hk.2];exact h0
theorem gT{Q:Act->Prop}{k:Nat}{o:Oper}{rest:List Oper}{a:Act}(hk:(decide (¬(k<cs.headD 0/\k∉ps))&&decide (k∉cs))=true)
    (h:∀K:Act->Prop,(∀a,dZ (iS P cs ps C) ops Q (k+1) rest a->K a)->if Region.wanted o (yielded ops a.tmps) then Oper.pure_ P o a K else K (a.put o.dst undef)):dZ (iS P cs ps C) ops Q k (o::rest) a:=by
 simp only[zG,decide_eq_true_eq]at hk;have h:=h _ (fun _ h=>h);unfold dZ;by_cases hw:Region.wanted o (yielded ops a.tmps)=true
 {
 rw[qI hw]at *;obtain⟨v,h1,h2⟩:=h;refine⟨v,?_,h2⟩;unfold iS;rw[qH hk.1,qH hk.2];exact h1}
 · rw[qH hw]at *;exact h
theorem rY{Q:Act->Prop}{k:Nat}{a:Act}(h:Q a):dZ (iS P cs ps C) ops Q k [] a:=h
end
section
variable {P:Program} {ops:Array Oper} {C:World->Prop}
theorem aAZ{id:Nat}{Q:Exit->Act->World->Prop}{a:Act}{w:World}{l:List Oper}(C:World->Prop)(hm:P.follows .mixedOrders=true)(hB:Region.lexB .any l.toArray=true)(hC:C w.drew)
    (h:wpQuiet P l.toArray C (fun a' =>∀w', C w' -> Q .normal a' w') l a):(Code.region id l.toArray true).wp P Q a w:=
  wp_region_quiet hm hB hC (by simpa using h)
theorem aGI{Q:Act->Prop}{o:Oper}{rest:List Oper}{a:Act}
    (h:∀K:Act->Prop,(∀a,wpQuiet P ops C Q rest a->K a)->if Region.wanted o (yielded ops a.tmps) then Oper.pure_ P o a K else K (a.put o.dst undef)):wpQuiet P ops C Q (o::rest) a:=by
 have h:=h _ (fun _ h=>h);unfold wpQuiet;by_cases hw:Region.wanted o (yielded ops a.tmps)=true
 {
 rw[qI hw]at *;obtain⟨v,h1,h2⟩:=h;refine⟨v,fun w _=>?_,h2⟩;have:=h1 w;unfold Oper.quietAt;revert this;generalize (execOp a.eval o).run P w=r;intro this;cases r with
 | halt x w' =>exact this.elim
 | ok x w' =>{
 cases x with
 | value u=>exact⟨this.1,this.2⟩
 | skip=>exact⟨this.1,this.2⟩
 | _=>exact this.elim}}
 · rw[qH hw]at *;exact h
structure CW (P:Program) (ops:Array Oper) (C:World->Prop) (Q:Act->Prop) (l:List Oper) (a:Act):Prop where
  out:wpQuiet P ops C Q l a
theorem dJ{id:Nat}{Q:Exit->Act->World->Prop}{a:Act}{w:World}{l:List Oper}(C:World->Prop)(hm:P.follows .mixedOrders=true)(hB:Region.lexB .any l.toArray=true)(hC:C w.drew)
    (h:CW P l.toArray C (fun a' =>∀w', C w' -> Q .normal a' w') l a):(Code.region id l.toArray true).wp P Q a w:=aAZ C hm hB hC h.out
theorem nM{Q:Act->Prop}{o:Oper}{rest:List Oper}{a:Act}(hw:Region.wanted o (yielded ops a.tmps)=false)(h:CW P ops C Q rest (a.put o.dst undef)):CW P ops C Q (o::rest) a:=by
 refine⟨?_⟩;unfold wpQuiet;rw[qH (by rw[hw];exact Bool.false_ne_true)];exact h.out
theorem aE{Q:Act->Prop}{o:Oper}{rest:List Oper}{a:Act}(hw:Region.wanted o (yielded ops a.tmps)=true)
    (h:∀K:Act->Prop,Hid (∀a,CW P ops C Q rest a->K a)->Oper.pure_ P o a K):CW P ops C Q (o::rest) a:=
  ⟨aGI fun K hK=>by rw[qI hw];exact h K (qB (fun a h=>hK a h.out))⟩
theorem aU{Q:Act->Prop}{o:Oper}{rest:List Oper}{a:Act}(hw:Region.wanted o (yielded ops a.tmps)=true)(v:Value)
    (h0:∀w,C w->Oper.quietUpon P C w v ((execOp a.eval o).run P w)) (h:CW P ops C Q rest (a.put o.dst v)):CW P ops C Q (o::rest) a:=by
 refine⟨?_⟩;unfold wpQuiet;rw[qI hw];exact⟨v,h0,h.out⟩
theorem iJ{Q:Act->Prop}{a:Act}(h:Q a):CW P ops C Q [] a:=⟨h⟩
end
def lvC(e:Lv):List Value:=[.int .i64 e.slot,.int .u64 e.seq,.int .u64 e.u,.int .u64 e.v,.int .i64 e.wt,.int .i64 e.t,.int .i64 e.x]
abbrev lvA(e:Lv):Value:=.agg #[.int .i64 e.slot,.int .u64 e.seq,.int .u64 e.u,.int .u64 e.v,.int .i64 e.wt,.int .i64 e.t,.int .i64 e.x]
def oS:Value:=.agg #[.int .i64 0,.int .u64 0,.int .u64 0,.int .u64 0,.int .i64 0,.int .i64 0,.int .i64 0]
theorem Tryz.info45:(Tryz.prog.info? 45).map (fun i=>(i.zero,i.size,i.bytes))=some (some oS,7,56):=by kernel_rfl
def rowV(l:List Lv):List Value:=l.flatMap lvC
theorem rZ(l:List Lv)(e:Lv):rowV (l++[e])=rowV l++lvC e:=by simp[rowV]
theorem aNN(l m:List Lv):rowV (l++m)=rowV l++rowV m:=by simp[rowV]
theorem mN(l:List Lv):(rowV l).length=l.length*7:=by
 induction l with
 | nil=>rfl
 | cons a r ih=>simp only[rowV,List.flatMap_cons,zO,zI]at *;rw[ih];simp[lvC];omega
theorem aBA:∀{l:List Lv} {i:Nat} (hi:i<l.length) (j:Nat),j<7->(rowV l)[i*7+j]? =(lvC l[i])[j]?
  | e::l,0,_,j,hj=>by
    show(lvC e++rowV l)[0*7+j]? =(lvC e)[j]?
    rw[List.getElem?_append_left (by simp[lvC];omega)];congr 1;omega
  | e::l,i+1,hi,j,hj=>by
    show(lvC e++rowV l)[(i+1)*7+j]? =_
    rw[List.getElem?_append_right (by simp[lvC];omega)];have:=aBA (l:=l) (i:=i) (by simpa using hi) j hj;rw[show(i+1)*7+j-(lvC e).length=i*7+j by simp[lvC];omega,this];simp
theorem uV(l:List Lv):∀u∈rowV l,u.oneCell' =true:=by
 intro u hu;obtain⟨e,_,he⟩:=List.mem_flatMap.1 hu;simp[lvC]at he;rcases he with rfl|rfl|rfl|rfl|rfl|rfl|rfl<;>rfl
theorem dL{w:World}{base:Nat}{e:TypeId}{size:Nat}{v:Value}{n:Nat}{xs:List Value}(h:w.ownsRow base e size v n xs){q:Nat}(hq:v.ownBlock=some q):q<w.heap.size:=by
 rcases h.2 with⟨rfl,_⟩|⟨g,cap,cur,rfl,_,hh,_⟩
 · cases hq
 · simp[Value.ownBlock]at hq;subst hq;exact(qU.1 hh).1
def aS(w:World)(v:Value)(l:List Lv):Prop:=w.ownsRow 0 45 7 v l.length (rowV l)
section
variable {w w' :World} {v:Value} {l:List Lv}
theorem aS.fr{S:List Nat}(h:aS w v l)(hf:Fr S w w')(hs:∀q,v.ownBlock=some q->q∉S):aS w' v l:=
  aI h (fun q hq=>hf.keep q (dL h hq) (hs q hq))
theorem aS.fr0(h:aS w v l)(hf:Fr [] w w'):aS w' v l:=h.fr hf (by simp)
theorem aS.slice(h:aS w v l):∃a cap,v=.slice a l.length cap:=aJ h
theorem aS.nil(w:World):aS w (.slice none 0 0) []:=⟨rfl,.inl ⟨rfl,rfl⟩⟩
theorem aS.lt(h:aS w v l){q:Nat}(hq:v.ownBlock=some q):q<w.heap.size:=dL h hq
def aNO(w:World)(b o:Nat)(e:Lv):Prop:=
  w.cell? ⟨b,o,none⟩=some (.int .i64 e.slot)/\w.cell? ⟨b,o+1,none⟩=some (.int .u64 e.seq)/\w.cell? ⟨b,o+2,none⟩=some (.int .u64 e.u)/\w.cell? ⟨b,o+3,none⟩=some (.int .u64 e.v) /\
    w.cell? ⟨b,o+4,none⟩=some (.int .i64 e.wt)/\w.cell? ⟨b,o+5,none⟩=some (.int .i64 e.t)/\w.cell? ⟨b,o+6,none⟩=some (.int .i64 e.x)
theorem aS.at(h:aS w v l){i:Nat}(hi:i<l.length):∃b cap,v=.slice (some ⟨b,0,none⟩) l.length cap/\l.length<=cap/\b<w.heap.size/\(∀j,w.frozen? ⟨b,j,none⟩=false)/\aNO w b (i*7) l[i]:=by
 obtain⟨h1,h2⟩:=h;rcases h2 with⟨rfl,h0⟩|⟨g,cap,cur,rfl,_,hh,hn,hm,hsz,hxs⟩
 · omega
 {
 have key:∀j,j<7->w.cell? ⟨g,i*7+j,none⟩=(lvC l[i])[j]? :=by {
 intro j hj;rw[<-aBA hi j hj,<-hxs,List.getElem?_take,qI (by omega)];simp[World.cell?,hh]};exact⟨g,cap,rfl,hn,(qU.1 hh).1,fun j=>by simp[World.frozen?,hh],key 0 (by omega),key 1 (by omega),key 2 (by omega),key 3 (by omega),key 4 (by omega),key 5 (by omega),key 6 (by omega)⟩}
theorem Blk.lvAt{b:Nat}{t:TypeId}{e:Lv}(h:Blk w b t (lvC e)):aNO w b 0 e:=⟨h.cell 0,h.cell 1,h.cell 2,h.cell 3,h.cell 4,h.cell 5,h.cell 6⟩
end
def put7(w:World)(b o:Nat)(e:Lv):World:=
  ((((((w.setCell ⟨b,o,none⟩ (.int .i64 e.slot)).setCell ⟨b,o+1,none⟩ (.int .u64 e.seq)).setCell ⟨b,o+2,none⟩ (.int .u64 e.u)).setCell ⟨b,o+3,none⟩ (.int .u64 e.v)).setCell ⟨b,o+4,none⟩ (.int .i64 e.wt)).setCell ⟨b,o+5,none⟩ (.int .i64 e.t)).setCell ⟨b,o+6,none⟩ (.int .i64 e.x)
theorem aDB:∀{l:List Lv} {i:Nat} (_:i<l.length) (e:Lv),
    ((((((((rowV l).set (i*7) (.int .i64 e.slot)).set (i*7+1) (.int .u64 e.seq)).set (i*7+2) (.int .u64 e.u)).set (i*7+3) (.int .u64 e.v)).set (i*7+4) (.int .i64 e.wt)).set (i*7+5) (.int .i64 e.t)).set (i*7+6) (.int .i64 e.x))=rowV (l.set i e)
  | a::l,0,_,e=>by simp[rowV,lvC,zD]
  | a::l,i+1,hi,e=>by
    have ih:=aDB (l:=l) (i:=i) (by simpa using hi) e;have hs:∀(xs:List Value) (k:Nat) (u:Value),(lvC a++xs).set (k+7) u=lvC a++xs.set k u:=fun xs k u=>by
      rw[List.set_append_right _ _ (by simp[lvC])];simp[lvC]
    show((((((((lvC a++rowV l).set _ _).set _ _).set _ _).set _ _).set _ _).set _ _).set _ _)=lvC a++rowV (l.set i e)
    rw[<-ih,show(i+1)*7=i*7+7 by omega,hs,show i*7+7+1=i*7+1+7 by omega,hs,show i*7+7+2=i*7+2+7 by omega,hs,show i*7+7+3=i*7+3+7 by omega,hs,
      show i*7+7+4=i*7+4+7 by omega,hs,show i*7+7+5=i*7+5+7 by omega,hs,show i*7+7+6=i*7+6+7 by omega,hs]
theorem dM{w:World}{e:TypeId}{size g n cap i:Nat}{xs:List Value}(h:w.ownsRow 0 e size (.slice (some ⟨g,0,none⟩) n cap) n xs)(u:Value):
    (w.setCell ⟨g,i,none⟩ u).ownsRow 0 e size (.slice (some ⟨g,0,none⟩) n cap) n (xs.set i u):=by
 obtain⟨h1,h2⟩:=h;refine⟨by simpa using h1,?_⟩;rcases h2 with⟨h2,_⟩|⟨g', cap', cur,e1,_,hh,hn,hm,hsz,hxs⟩
 · cases h2
 {
 simp only[qY,qQ,Addr.mk.injEq,and_true,true_and]at e1;obtain⟨rfl,rfl⟩:=e1;refine .inr ⟨g,cap,cur.setIfInBounds i u,rfl,zB _,?_,hn,hm,by simpa using hsz,?_⟩
 {
 simp only[World.setCell,Array.getElem?_modify];simp[hh]}
 · rw[<-hxs,Array.toList_setIfInBounds,List.take_set]}
theorem aS.set{w:World}{g cap:Nat}{l:List Lv}(h:aS w (.slice (some ⟨g,0,none⟩) l.length cap) l){i:Nat}(hi:i<l.length)(e:Lv):aS (put7 w g (i*7) e) (.slice (some ⟨g,0,none⟩) l.length cap) (l.set i e):=by
 unfold aS at *;rw[List.length_set,<-aDB hi];exact dM (dM (dM (dM (dM (dM (dM h _) _) _) _) _) _) _
theorem Fr.put7{S:List Nat}{w w' :World}(h:Fr S w w')(b o:Nat)(e:Lv)(hb:b∈S∨w.heap.size<=b):Fr S w (put7 w' b o e):=
  ((((((h.setCell _ _ hb).setCell _ _ hb).setCell _ _ hb).setCell _ _ hb).setCell _ _ hb).setCell _ _ hb).setCell _ _ hb
def dV(w:World)(v:Value)(p:List Nat):Prop:=w.ownsRow 0 3 1 v p.length (gA p)
section
variable {w w' :World} {v:Value} {p:List Nat}
theorem dV.fr{S:List Nat}(h:dV w v p)(hf:Fr S w w')(hs:∀q,v.ownBlock=some q->q∉S):dV w' v p:=
  aI h (fun q hq=>hf.keep q (dL h hq) (hs q hq))
theorem dV.fr0(h:dV w v p)(hf:Fr [] w w'):dV w' v p:=h.fr hf (by simp)
theorem dV.slice(h:dV w v p):∃a cap,v=.slice a p.length cap:=aJ h
theorem dV.nil(w:World):dV w (.slice none 0 0) []:=⟨rfl,.inl ⟨rfl,rfl⟩⟩
theorem dV.lt(h:dV w v p){q:Nat}(hq:v.ownBlock=some q):q<w.heap.size:=dL h hq
theorem dV.at(h:dV w v p){i:Nat}(hi:i<p.length):∃b cap,v=.slice (some ⟨b,0,none⟩) p.length cap/\b<w.heap.size/\w.cell? ⟨b,i,none⟩=some (.int .i64 (p[i]'hi)):=by
 obtain⟨b,cap,e,_,h2,h3,_⟩:=cD h hi;exact⟨b,cap,e,h2,h3.trans (by simp[gA,hi])⟩
end
def okS:Value->Bool
  | .slice _ _ _=>true
  | _=>false
abbrev gU:Value:=.slice none 0 0
def nX(f:Nat->List Nat)(a:Nat)(l:List Nat):Nat->List Nat:=fun x=>if x=a then l else f x
theorem kF(f:Nat->List Nat)(a:Nat)(l:List Nat):nX f a l a=l:=by simp[nX]
theorem eW{f:Nat->List Nat}{a x:Nat}{l:List Nat}(h:x≠a):nX f a l x=f x:=by simp[nX,h]
abbrev U64:Nat:=18446744073709551616
structure oT (w:World) (mb:Nat) (iv:Int->Option Value) (f:Nat->List Nat) (n:Nat) (lb:List Nat):Prop where
  im:dF Tryz.prog 26 .u64 okS w mb iv n
  nm:mb∉lb
  lt:∀b∈lb,b<w.heap.size
  row:∀id:Nat,id<U64->((iv id).isSome=true↔f id≠[])/\dV w ((iv id).getD gU) (f id)/\∀q,((iv id).getD gU).ownBlock=some q->q∈lb
  inj:∀(id id' q:Nat),id<U64->id' < U64->((iv id).getD gU).ownBlock=some q->((iv id').getD gU).ownBlock=some q->id=id'
def pM(w:World)(mb:Nat)(f:Nat->List Nat)(n:Nat)(lb:List Nat):Prop:=∃iv,oT w mb iv f n lb
theorem oT.fr{w w' :World}{mb n:Nat}{iv:Int->Option Value}{f:Nat->List Nat}{lb S:List Nat}(h:oT w mb iv f n lb)(hf:Fr S w w')(h1:mb∉S)(h2:∀b∈lb,b∉S):oT w' mb iv f n lb:=
  ⟨h.im.same (hf.keep mb h.im.lt h1),h.nm,fun b hb=>Nat.lt_of_lt_of_le (h.lt b hb) hf.size,fun id hid=>⟨(h.row id hid).1,(h.row id hid).2.1.fr hf (fun q hq=>h2 q ((h.row id hid).2.2 q hq)),(h.row id hid).2.2⟩,h.inj⟩
theorem oT.set{w w1 w2:World}{mb n n2:Nat}{iv:Int->Option Value}{f:Nat->List Nat}{lb:List Nat}(h:oT w mb iv f n lb){id:Nat}(hid:id<U64){v1:Value}{l1:List Nat}(h1:dV w1 v1 l1)(hne:l1≠[])
    (hF:Fr ((iv id).getD gU).ownBlock.toList w w1) (hq:∀q,v1.ownBlock=some q->((iv id).getD gU).ownBlock=some q∨w.heap.size<=q)
    (hI:dF Tryz.prog 26 .u64 okS w2 mb (lC iv id (some v1)) n2) (hF2:Fr [mb] w1 w2):oT w2 mb (lC iv id (some v1)) (nX f id l1) n2 (lb++v1.ownBlock.toList):=by
 have hml:=h.im.lt;have hs1:=hF.size;have hs2:=hF2.size;have hqm:∀q,v1.ownBlock=some q->q≠mb:=fun q hqq e=>by
   subst e;rcases hq q hqq with e|e
   · exact h.nm ((h.row id hid).2.2 q e)
   · omega
 have hother:∀(x:Nat),x<U64->x≠id->∀q,((iv x).getD gU).ownBlock=some q->q∉((iv id).getD gU).ownBlock.toList/\q≠mb:=fun x hx hxn q hqq=>
   ⟨fun hm=>hxn (h.inj x id q hx hid hqq (by simpa using hm)),fun e=>h.nm (e▸(h.row x hx).2.2 q hqq)⟩
 refine⟨hI,fun hm=>?_,fun b hb=>?_,fun x hx=>?_,fun x y q hx hy hxq hyq=>?_⟩
 {
 rcases qJ.1 hm with hm|hm
 · exact h.nm hm
 · exact hqm mb (by simpa using hm) rfl}
 {
 rcases qJ.1 hb with hb|hb
 · have:=h.lt b hb;omega
 · have:=h1.lt (by simpa using hb);omega}
 {
 by_cases e:x=id
 {
 subst e;rw[cV,kF];refine⟨by simp[hne],h1.fr hF2 (fun q hqq hm=>?_),fun q hqq=>qJ.2 (.inr (by simpa using hqq))⟩;exact hqm q hqq (by simpa using hm)}
 {
 rw[bP (by omega),eW e];obtain⟨a1,a2,a3⟩:=h.row x hx;exact⟨a1,(a2.fr hF (fun q hqq=>(hother x hx e q hqq).1)).fr hF2 (fun q hqq hm=>(hother x hx e q hqq).2 (by simpa using hm)),fun q hqq=>qJ.2 (.inl (a3 q hqq))⟩}}
 {
 by_cases ex:x=id
 {
 by_cases ey:y=id
 · rw[ex,ey]
 {
 subst ex;rw[cV]at hxq;rw[bP (by omega)]at hyq;rcases hq q hxq with e|e
 · exact(h.inj y x q hy hx hyq e).symm
 · have:=h.lt q ((h.row y hy).2.2 q hyq);omega}}
 {
 rw[bP (by omega)]at hxq;by_cases ey:y=id
 {
 subst ey;rw[cV]at hyq;rcases hq q hyq with e|e
 · exact h.inj x y q hx hy hxq e
 · have:=h.lt q ((h.row x hx).2.2 q hxq);omega}
 {
 rw[bP (by omega)]at hyq;exact h.inj x y q hx hy hxq hyq}}}
theorem oT.del{w w1 w2:World}{mb n n2:Nat}{iv:Int->Option Value}{f:Nat->List Nat}{lb:List Nat}(h:oT w mb iv f n lb){id:Nat}(hid:id<U64)
    (hF:Fr ((iv id).getD gU).ownBlock.toList w w1) (hI:dF Tryz.prog 26 .u64 okS w2 mb (lC iv id none) n2) (hF2:Fr [mb] w1 w2):oT w2 mb (lC iv id none) (nX f id []) n2 lb:=by
 have hs1:=hF.size;have hs2:=hF2.size;have hother:∀(x:Nat),x<U64->x≠id->∀q,((iv x).getD gU).ownBlock=some q->q∉((iv id).getD gU).ownBlock.toList/\q≠mb:=fun x hx hxn q hqq=>
   ⟨fun hm=>hxn (h.inj x id q hx hid hqq (by simpa using hm)),fun e=>h.nm (e▸(h.row x hx).2.2 q hqq)⟩
 refine⟨hI,h.nm,fun b hb=>?_,fun x hx=>?_,fun x y q hx hy hxq hyq=>?_⟩
 · have:=h.lt b hb;omega
 {
 by_cases e:x=id
 {
 subst e;rw[cV,kF];exact⟨by simp,dV.nil _,fun q hqq=>by cases hqq⟩}
 {
 rw[bP (by omega),eW e];obtain⟨a1,a2,a3⟩:=h.row x hx;exact⟨a1,(a2.fr hF (fun q hqq=>(hother x hx e q hqq).1)).fr hF2 (fun q hqq hm=>(hother x hx e q hqq).2 (by simpa using hm)),a3⟩}}
 {
 by_cases ex:x=id
 · subst ex;rw[cV]at hxq;cases hxq
 {
 rw[bP (by omega)]at hxq;by_cases ey:y=id
 · subst ey;rw[cV]at hyq;cases hyq
 {
 rw[bP (by omega)]at hyq;exact h.inj x y q hx hy hxq hyq}}}
theorem pM.fr{w w' :World}{mb n:Nat}{f:Nat->List Nat}{lb S:List Nat}(h:pM w mb f n lb)(hf:Fr S w w')(h1:mb∉S)(h2:∀b∈lb,b∉S):pM w' mb f n lb:=by
 obtain⟨iv,h⟩:=h;exact⟨iv,h.fr hf h1 h2⟩
theorem lE{id:Nat}(h:id<U64):(Lit.int .u64 (id:Int)).wf=true:=by
 show(decide ((0:Int)<=id)&&decide ((id:Int)<=18446744073709551615))=true
 have h:id<18446744073709551616:=h;simp;omega
theorem jA{a:Int}(h:(Lit.int .u64 a).wf=true):∃id:Nat,a=id/\id<U64:=by
 have h:(decide ((0:Int)<=a)&&decide (a<=18446744073709551615))=true:=h;simp only[zG,decide_eq_true_eq]at h;exact⟨a.toNat,by omega,show a.toNat<18446744073709551616 by omega⟩
structure Cls (c:Nat->Nat) (ps mb:Nat) (vl:Value) (la lt lb:List Nat):Prop where
  p:c ps=0
  m:c mb=1
  a:∀b∈la,c b=2
  t:∀b∈lt,c b=3
  l:∀q,vl.ownBlock=some q->c q=4
  b:∀b∈lb,c b=5
structure StB (w:World) (ps pa pt mb n:Nat) (vl:Value) (s:Sm) (la lt lb:List Nat) (c:Nat->Nat):Prop where
  hd:Blk w ps 144 [.int .i64 s.V,.int .i64 s.E,.int .u64 s.last,ptr pa,ptr pt,vl,.map (some mb)]
  ar:aQ w pa s.A la
  tb:iI w pt s.M lt
  lv:aS w vl ((List.range n).map (aD s.L))
  inc:pM w mb (cB s.L) s.M.L.length lb
  sn:∀e∈s.L,e.slot<n
  nE:n<=s.E
  ok:s.Ok
  cls:Cls c ps mb vl la lt lb
def stK(ps mb:Nat)(vl:Value)(la lt lb:List Nat):List Nat:=ps::mb::(la++lt++vl.ownBlock.toList++lb)
def aZ(w:World)(ps:Nat)(s:Sm)(K:List Nat):Prop:=∃pa pt mb n vl la lt lb c,StB w ps pa pt mb n vl s la lt lb c/\K=stK ps mb vl la lt lb
theorem pM.ltm{w:World}{mb n:Nat}{f:Nat->List Nat}{lb:List Nat}(h:pM w mb f n lb):mb<w.heap.size:=by
 obtain⟨iv,h⟩:=h;exact h.im.lt
theorem pM.ltb{w:World}{mb n:Nat}{f:Nat->List Nat}{lb:List Nat}(h:pM w mb f n lb):∀b∈lb,b<w.heap.size:=by
 obtain⟨iv,h⟩:=h;exact h.lt
section
variable {w w' :World} {ps pa pt mb n:Nat} {vl:Value} {s:Sm} {la lT lb K S:List Nat} {c:Nat->Nat}
theorem StB.fr(h:StB w ps pa pt mb n vl s la lT lb c)(hf:Fr S w w')(hd:∀q∈stK ps mb vl la lT lb,q∉S):StB w' ps pa pt mb n vl s la lT lb c:=
  ⟨hf.blk h.hd (hd _ (by simp[stK])),h.ar.fr hf (fun q hq=>hd q (by simp[stK,hq])),h.tb.fr hf (fun q hq=>hd q (by simp[stK,hq])),h.lv.fr hf (fun q hq=>hd q (by simp[stK,hq])),
    h.inc.fr hf (hd _ (by simp[stK])) (fun q hq=>hd q (by simp[stK,hq])),h.sn,h.nE,h.ok,h.cls⟩
theorem StB.lt(h:StB w ps pa pt mb n vl s la lT lb c):∀q∈stK ps mb vl la lT lb,q<w.heap.size:=by
 intro q hq;simp only[stK,qF,qJ,Option.mem_toList]at hq;rcases hq with rfl|rfl|((hq|hq)|hq)|hq
 · exact h.hd.lt
 · exact h.inc.ltm
 · exact h.ar.lt q hq
 · exact h.tb.lt q hq
 · exact h.lv.lt hq
 · exact h.inc.ltb q hq
theorem aZ.fr(h:aZ w ps s K)(hf:Fr S w w')(hd:∀q∈K,q∉S):aZ w' ps s K:=by
 obtain⟨pa,pt,mb,n,vl,la,lt,lb,c,h,rfl⟩:=h;exact⟨pa,pt,mb,n,vl,la,lt,lb,c,h.fr hf hd,rfl⟩
theorem aZ.fr0(h:aZ w ps s K)(hf:Fr [] w w'):aZ w' ps s K:=h.fr hf (by simp)
theorem aZ.lt(h:aZ w ps s K):∀q∈K,q<w.heap.size:=by
 obtain⟨pa,pt,mb,n,vl,la,lt,lb,c,h,rfl⟩:=h;exact h.lt
theorem aZ.ok(h:aZ w ps s K):s.Ok:=by
 obtain⟨pa,pt,mb,n,vl,la,lt,lb,c,h,rfl⟩:=h;exact h.ok
end
end Go.Proofs.YtgmnemndjjmgkaaGreat
