/- The document's window: rows of edges that are made within a region that draws its order. -/
import Derived.Test.YtgmnemndjjmgkaaGreatB1
import Derived.Test.YtgmnemndjjmgkaaGreatB10
import Derived.Test.YtgmnemndjjmgkaaGreatB3
import Derived.Test.YtgmnemndjjmgkaaGreatB8
set_option maxRecDepth 10000
set_option maxHeartbeats 3200000
set_option linter.unusedSimpArgs false
set_option linter.unusedVariables false
/- Configurations that are valid. -/
namespace Go.Proofs.YtgmnemndjjmgkaaGreat
open Go.RowKit
def wP(m E V D:Int):Bool:=decide (m≥1)&&(decide (E≥1)&&(decide (E<=16384)&&(decide (V≥2)&&(decide (V<=4096)&&(decide (D≥0)&&decide (D<=16384))))))
theorem aFA{m E V D:Int}:wP m E V D=true↔1<=m/\1<=E/\E<=16384/\2<=V/\V<=4096/\0<=D/\D<=16384:=by
 simp[wP]
theorem aHP(m E V D:Int)(w:World):Calls Tryz.prog 119 #[.agg #[.int .i64 m,.int .i64 E,.int .i64 V,.int .i64 D]] w fun e w' =>e=.returned (.bool (wP m E V D))/\Fr [] w w' :=by
 have HF:=qB ((Fr.refl [] w).alloc (.cells #[.int .i64 m,.int .i64 E,.int .i64 V,.int .i64 D] 55));unfold wP;by_cases h0:m≥1
 {
 have d0:decide (m≥1)=true:=qO h0;by_cases h1:E≥1
 {
 have d1:decide (E≥1)=true:=qO h1;by_cases h2:E<=16384
 {
 have d2:decide (E<=16384)=true:=qO h2;by_cases h3:V≥2
 {
 have d3:decide (V≥2)=true:=qO h3;by_cases h4:V<=4096
 {
 have d4:decide (V<=4096)=true:=qO h4;by_cases h5:D≥0
 {
 have d5:decide (D≥0)=true:=qO h5;by_cases h6:D<=16384
 {
 have d6:decide (D<=16384)=true:=qO h6;rw[d0,d1,d2,d3,d4,d5,d6];clear h0 h1 h2 h3 h4 h5 h6;go_enter Tryz.func119,Tryz.ntmps119
 go_wp2
 go_ret;exact⟨rfl,HF.out⟩}
 {
 have d6:decide (D<=16384)=false:=qK h6;rw[d0,d1,d2,d3,d4,d5,d6];clear h0 h1 h2 h3 h4 h5 h6;go_enter Tryz.func119,Tryz.ntmps119
 go_wp2
 go_ret;exact⟨rfl,HF.out⟩}}
 {
 have d5:decide (D≥0)=false:=qK h5;rw[d0,d1,d2,d3,d4,d5];clear h0 h1 h2 h3 h4 h5;go_enter Tryz.func119,Tryz.ntmps119
 go_wp2
 go_ret;exact⟨rfl,HF.out⟩}}
 {
 have d4:decide (V<=4096)=false:=qK h4;rw[d0,d1,d2,d3,d4];clear h0 h1 h2 h3 h4;go_enter Tryz.func119,Tryz.ntmps119
 go_wp2
 go_ret;exact⟨rfl,HF.out⟩}}
 {
 have d3:decide (V≥2)=false:=qK h3;rw[d0,d1,d2,d3];clear h0 h1 h2 h3;go_enter Tryz.func119,Tryz.ntmps119
 go_wp2
 go_ret;exact⟨rfl,HF.out⟩}}
 {
 have d2:decide (E<=16384)=false:=qK h2;rw[d0,d1,d2];clear h0 h1 h2;go_enter Tryz.func119,Tryz.ntmps119
 go_wp2
 go_ret;exact⟨rfl,HF.out⟩}}
 {
 have d1:decide (E≥1)=false:=qK h1;rw[d0,d1];clear h0 h1;go_enter Tryz.func119,Tryz.ntmps119
 go_wp2
 go_ret;exact⟨rfl,HF.out⟩}}
 {
 have d0:decide (m≥1)=false:=qK h0;rw[d0];clear h0;go_enter Tryz.func119,Tryz.ntmps119
 go_wp2
 go_ret;exact⟨rfl,HF.out⟩}
theorem aWE(m E V D:Int)(w:World):Calls Tryz.prog 77 #[.agg #[.int .i64 m,.int .i64 E,.int .i64 V,.int .i64 D]] w fun e w' =>e=.returned (.bool (wP m E V D))/\Fr [] w w' :=by
 have HF:=qB ((Fr.refl [] w).alloc (.cells #[.int .i64 m,.int .i64 E,.int .i64 V,.int .i64 D] 55));unfold wP;by_cases h0:m≥1
 {
 have d0:decide (m≥1)=true:=qO h0;by_cases h1:E≥1
 {
 have d1:decide (E≥1)=true:=qO h1;by_cases h2:E<=16384
 {
 have d2:decide (E<=16384)=true:=qO h2;by_cases h3:V≥2
 {
 have d3:decide (V≥2)=true:=qO h3;by_cases h4:V<=4096
 {
 have d4:decide (V<=4096)=true:=qO h4;by_cases h5:D≥0
 {
 have d5:decide (D≥0)=true:=qO h5;by_cases h6:D<=16384
 {
 have d6:decide (D<=16384)=true:=qO h6;rw[d0,d1,d2,d3,d4,d5,d6];clear h0 h1 h2 h3 h4 h5 h6;go_enter Tryz.func77,Tryz.ntmps77
 go_wp2
 go_ret;exact⟨rfl,HF.out⟩}
 {
 have d6:decide (D<=16384)=false:=qK h6;rw[d0,d1,d2,d3,d4,d5,d6];clear h0 h1 h2 h3 h4 h5 h6;go_enter Tryz.func77,Tryz.ntmps77
 go_wp2
 go_ret;exact⟨rfl,HF.out⟩}}
 {
 have d5:decide (D≥0)=false:=qK h5;rw[d0,d1,d2,d3,d4,d5];clear h0 h1 h2 h3 h4 h5;go_enter Tryz.func77,Tryz.ntmps77
 go_wp2
 go_ret;exact⟨rfl,HF.out⟩}}
 {
 have d4:decide (V<=4096)=false:=qK h4;rw[d0,d1,d2,d3,d4];clear h0 h1 h2 h3 h4;go_enter Tryz.func77,Tryz.ntmps77
 go_wp2
 go_ret;exact⟨rfl,HF.out⟩}}
 {
 have d3:decide (V≥2)=false:=qK h3;rw[d0,d1,d2,d3];clear h0 h1 h2 h3;go_enter Tryz.func77,Tryz.ntmps77
 go_wp2
 go_ret;exact⟨rfl,HF.out⟩}}
 {
 have d2:decide (E<=16384)=false:=qK h2;rw[d0,d1,d2];clear h0 h1 h2;go_enter Tryz.func77,Tryz.ntmps77
 go_wp2
 go_ret;exact⟨rfl,HF.out⟩}}
 {
 have d1:decide (E≥1)=false:=qK h1;rw[d0,d1];clear h0 h1;go_enter Tryz.func77,Tryz.ntmps77
 go_wp2
 go_ret;exact⟨rfl,HF.out⟩}}
 {
 have d0:decide (m≥1)=false:=qK h0;rw[d0];clear h0;go_enter Tryz.func77,Tryz.ntmps77
 go_wp2
 go_ret;exact⟨rfl,HF.out⟩}
def kV(m now t:Int):Bool:=decide (t<=now/\t+m<=9223372036854775807/\now<t+m)
theorem aWF{w:World}{pc:Nat}{m now:Int}(h:Clk w pc m now)(t:Int)(ht:-9223372036854775808<=t)(ht2:t<=9223372036854775807):
    Calls Tryz.prog 69 #[iA pc,.int .i64 t] w fun e w' =>e=.returned (.bool (kV m now t))/\Fr [] w w' :=by
 have HV:=qB (nA h);have HA:=qB (aBV h.m1 h.m2 t ht ht2 w);have c0:=h.hd.cell 0;have c1:=h.hd.cell 1;simp only[zS,zT]at c0 c1;clear h;by_cases h1:t<=now
 {
 have d1:decide (t>now)=false:=qK (by omega);by_cases h2:t+m<=9223372036854775807
 {
 have e1:eQ t m=0:=qI h2;have e2:gL t m=t+m:=qI h2;rw[e1,e2]at HA;have e3:kV m now t=decide (now<t+m):=decide_eq_decide.2 ⟨fun h=>h.2.2,fun h=>⟨h1,h2,h⟩⟩;rw[e3];clear e1 e2 e3 h1 h2;generalize t+m=x at *;go_enter Tryz.func69,Tryz.ntmps69
 go_wp2_with fail
 refine HV.out.mono ?_;rintro _ w ⟨rfl,rfl⟩;go_wp2_with fail
 refine HA.out.mono ?_;rintro _ w ⟨rfl,rfl⟩;go_wp2
 go_ret;exact⟨rfl,Fr.refl _ _⟩}
 {
 have e1:eQ t m=7:=qH h2;rw[e1]at HA;have e3:kV m now t=false:=qK fun h=>h2 h.2.1;rw[e3];clear e1 e3 h1 h2;generalize gL t m=x at *;go_enter Tryz.func69,Tryz.ntmps69
 go_wp2_with fail
 refine HV.out.mono ?_;rintro _ w ⟨rfl,rfl⟩;go_wp2_with fail
 refine HA.out.mono ?_;rintro _ w ⟨rfl,rfl⟩;go_wp2
 go_ret;exact⟨rfl,Fr.refl _ _⟩}}
 {
 have d1:decide (t>now)=true:=qO (by omega);have e3:kV m now t=false:=qK fun h=>h1 h.1;rw[e3];clear h1 e3 HA;go_enter Tryz.func69,Tryz.ntmps69
 go_wp2_with fail
 refine HV.out.mono ?_;rintro _ w ⟨rfl,rfl⟩;go_wp2
 go_ret;exact⟨rfl,Fr.refl _ _⟩}
theorem aRG(m D E V:Int)(g:Nat)(w:World)(h:wP m E V D=false):
    Calls Tryz.prog 68 #[.agg #[.int .i64 m,.int .i64 E,.int .i64 V,.int .i64 D],.int .u64 g] w fun e w' =>e=.returned (.tuple #[.pointer none,.int .i64 2])/\Fr [] w w' :=by
 have HC:=aHP m E V D (w.alloc (.cells #[.int .i64 m,.int .i64 E,.int .i64 V,.int .i64 D] 55));rw[h]at HC;have HC:=qB HC;have hb:=Blk.new w [.int .i64 m,.int .i64 E,.int .i64 V,.int .i64 D] 55;have x0:=hb.cell 0;have x1:=hb.cell 1;have x2:=hb.cell 2;have x3:=hb.cell 3;simp only[zS,zT]at x0 x1 x2 x3;clear hb h;go_enter Tryz.func68,Tryz.ntmps68
 go_wp2_with fail
 refine HC.out.mono ?_;rintro _ w1 ⟨rfl,hF⟩;have HF:=qB (((Fr.refl [] w).alloc _).trans' hF);clear hF x0 x1 x2 x3;go_wp2
 go_ret2;exact⟨rfl,HF.out⟩
def Wm.putT(W:Wm)(u v:Nat)(wt t:Int)(a b:Nat):Wm:={ W with s:=W.s.ins u v wt t (t+W.m),Q:=fun j=>if j=W.s.slot then some (t+W.m) else W.Q j,G:=fun j=>if j=W.s.slot then some (a,b,t+W.m) else W.G j }
theorem Wm.putT_ok{W:Wm}(h:W.Ok){u v:Nat}(hu:u<18446744073709551616)(hv:v<18446744073709551616)(wt t:Int)(h0:0<=t)(h1:t<=W.now)(h2:W.now<t+W.m)(hlt:∀e∈W.s.L,e.t<=t)(hc:W.s.chk u v=0)(hl:W.s.last<9223372036854775807){a b:Nat}
    (ha:(W.s.ins u v wt t (t+W.m)).M.find u=some a) (hb:(W.s.ins u v wt t (t+W.m)).M.find v=some b):(W.putT u v wt t a b).Ok:=by
 have hL:(W.putT u v wt t a b).s.L=W.s.L++[W.s.edge u v wt t (t+W.m)]:=rfl;refine⟨Sm.ok_ins h.ok hu hv hc (by omega) wt t (t+W.m),h.hV,h.hE,h.lk.ins h.ok hu hv hc wt t (t+W.m) ha hb,fun e he=>?_,?_,fun i hi=>?_,?_,?_,h.m1,h.m2,h.n0,h.n1⟩
 {
 rw[hL,qJ,qP]at he;rcases he with he|rfl
 · exact h.x e he
 · exact⟨rfl,h0,h1,h2⟩}
 {
 rw[hL,List.pairwise_append];exact⟨h.mono,by simp,fun d hd e he=>by
   rw[qP]at he;subst he;exact hlt d hd⟩}
 {
 have hi' :i<(W.s.L++[W.s.edge u v wt t (t+W.m)]).length:=hi;show((W.s.L++[W.s.edge u v wt t (t+W.m)])[i]'hi').seq=W.gone+i+1
 rw[List.getElem_append];split
 · exact h.num i _
 {
 have:i=W.s.L.length:=by simp at hi'; omega
 subst this;simp only[Nat.sub_self,List.getElem_singleton];show W.s.last+1=_
 rw[h.last]}}
 {
 show W.s.last+1=W.gone+(W.s.L++[W.s.edge u v wt t (t+W.m)]).length
 rw[h.last];simp;omega}
 {
 show W.s.last+1<=_
 omega}
def Ob.putT(o:Ob)(u v:Nat)(wt t:Int):Ob:={ o with L:=o.L++[⟨0,o.last+1,u,v,wt,t,t+o.m⟩],last:=o.last+1 }
theorem aWG{W:Wm}(u v:Nat)(wt t:Int)(a b:Nat):(W.putT u v wt t a b).ob=W.ob.putT u v wt t:=by
 show Ob.mk _ _ _ _ _ ((W.s.L++[W.s.edge u v wt t (t+W.m)]).map dT) (W.s.last+1) _=_
 rw[List.map_append];rfl
def Ob.chkO(o:Ob)(u v:Nat):Nat:=if u=v then 9 else if o.E<=o.L.length then 12 else if o.V<(Ob.idsUV o.L u v).length then 11 else 0
theorem aJT{W:Wm}(h:W.Ok)(u v:Nat):W.s.chk u v=W.ob.chkO u v:=by
 by_cases hne:u=v
 · unfold Sm.chk Ob.chkO;rw[qI hne,qI hne]
 · rw[aQU h u v hne];unfold Ob.chkO;rw[qH hne];rfl
abbrev R4:=Nat×Nat×Int×Int
def Ob.resOk(o:Ob)(last:Int)(r:R4):Bool:=decide (last<=r.2.2.2)&&(kV o.m o.now r.2.2.2&&decide (o.chkO r.1 r.2.1=0))
def Ob.resL:Ob->Int->List R4->Option Ob
  | o,_,[]=>some o
  | o,last,r::rs=>if o.resOk last r=true then(o.putT r.1 r.2.1 r.2.2.1 r.2.2.2).resL r.2.2.2 rs else none
def Ob.at(m:Int)(E V:Nat)(D:Int)(now:Int)(g:Nat):Ob:=⟨m,E,V,D,now,[],g,g⟩
def iP(m E V D now:Int)(g:Nat)(l:List R4):Option Ob:=
  if g<=9223372036854775807/\wP m E V D=true/\(l.length:Int)<=E/\l.length<=9223372036854775807-g/\cN m 0 now=0 then(Ob.at m E.toNat V.toNat D now g).resL 0 l else none
def RcW(w:World)(a:Option Addr)(l:List R4):Prop:=
  ∀i (hi:i<l.length),∃b off,a=some ⟨b,off,none⟩/\b<w.heap.size/\w.cell? ⟨b,off+i*4,none⟩=some (.int .u64 l[i].1)/\w.cell? ⟨b,off+i*4+1,none⟩=some (.int .u64 l[i].2.1) /\
    w.cell? ⟨b,off+i*4+2,none⟩=some (.int .i64 l[i].2.2.1)/\w.cell? ⟨b,off+i*4+3,none⟩=some (.int .i64 l[i].2.2.2)
def R4.ok(r:R4):Prop:=r.1<18446744073709551616/\r.2.1<18446744073709551616/\ -9223372036854775808<=r.2.2.2/\r.2.2.2<=9223372036854775807
def RsI(w wr:World)(p:Nat)(last:Int)(l:List R4)(R:Option Ob):Prop:=∃X K,dS wr p X K/\Fr [] w wr/\(∀q∈K,w.heap.size<=q)/\(∀e∈X.s.L,e.t<=last)/\0<=last/\X.s.L.length+l.length<=X.E/\X.s.last+l.length<=9223372036854775807/\X.ob.resL last l=R
def RsE(w w' :World)(R:Option Ob)(e:Ending):Prop:=match R with
  | none=>e=.returned (.tuple #[.pointer none,.int .i64 2])/\Fr [] w w'
  | some o=>∃p X K,e=.returned (.tuple #[aN p,.int .i64 0])/\X.ob=o/\dS w' p X K/\Fr [] w w' /\ ∀q∈K,w.heap.size<=q
theorem bAN(m E V D now:Int)(g:Nat)(a:Option Addr)(cap:Nat)(l:List R4)(w:World)(hg:g<18446744073709551616)(hn1:-9223372036854775808<=now)(hn2:now<=9223372036854775807)(hm2:m<=9223372036854775807)
    (hl:l.length<=9223372036854775807) (hrow:RcW w a l) (hok:∀r∈l,r.ok):
    Calls Tryz.prog 32 #[.agg #[.int .i64 m,.int .i64 E,.int .i64 V,.int .i64 D],.int .i64 now,.int .u64 g,.slice a l.length cap] w fun e w' =>RsE w w' (iP m E V D now g l) e:=by
 have hbx:=Blk.new w [.int .i64 m,.int .i64 E,.int .i64 V,.int .i64 D] 55;have hF1:Fr [] w (w.alloc (.cells #[.int .i64 m,.int .i64 E,.int .i64 V,.int .i64 D] 55)):=(Fr.refl [] w).alloc _;obtain⟨w1,hw1⟩:∃w1,w1=w.alloc (.cells #[.int .i64 m,.int .i64 E,.int .i64 V,.int .i64 D] 55):=⟨_,rfl⟩;rw[show w.alloc (.cells [.int .i64 m,.int .i64 E,.int .i64 V,.int .i64 D].toArray 55)=w.alloc (.cells #[.int .i64 m,.int .i64 E,.int .i64 V,.int .i64 D] 55) from rfl,<-hw1]at hbx;rw[<-hw1]at hF1;have HBx:=qB (zR hbx hF1);have x0:=hbx.cell 0;have x1:=hbx.cell 1;have x2:=hbx.cell 2;have x3:=hbx.cell 3;simp only[zS,zT]at x0 x1 x2 x3;rw[hw1]at x0 x1 x2 x3;have HL:=qB (zR hrow hok);clear hbx hF1 hrow hok;by_cases hg1:g<=9223372036854775807
 {
 have d1:decide ((g:Int)>9223372036854775807)=false:=qK (by omega);cases hcf:wP m E V D with
 | false=>{
 have hR:iP m E V D now g l=none:=qH (by rw[hcf];simp);rw[hR];have HFr:=aRG m D E V g w1 hcf;rw[hw1]at HFr;have HFr:=qB HFr;have HW1:=qB hw1;clear hR hcf hw1;go_enter Tryz.func32,Tryz.ntmps32
 go_wp2_with fail
 refine HFr.out.mono ?_;rintro _ w2 ⟨rfl,hF⟩;rw[<-HW1.out]at hF;have HF:=qB (HBx.out.2.trans' hF);clear hF x0 x1 x2 x3 HFr;go_wp2
 go_ret2;exact⟨rfl,HF.out⟩}
 | true=>{
 obtain⟨c1,c2,c3,c4,c5,c6,c7⟩:=aFA.1 hcf;obtain⟨E,rfl⟩:=Int.eq_ofNat_of_zero_le (show 0<=E by omega);obtain⟨V,rfl⟩:=Int.eq_ofNat_of_zero_le (show 0<=V by omega);have hfr:=aJN m D E V g w1 c1 hm2 (by omega) (by omega) (by omega) (by omega) c6 c7 hg1;rw[hw1]at hfr;have HFr:=qB hfr;have HW1:=qB hw1;clear hfr hw1;by_cases hlE:l.length<=E/\l.length<=9223372036854775807-g
 {
 have d2:decide ((l.length:Int)>E)=false:=qK (by omega);have d2n:decide (E<l.length)=false:=qK (by omega);have d3n:decide (9223372036854775807-(g:Int)<l.length)=false:=qK (by omega);have hw2:IntKind.u64.wrap (l.length:Int)=l.length:=by simp[IntKind.wrap,IntKind.bits,IntKind.signed];omega
 have hw3:IntKind.u64.wrap (9223372036854775807-(g:Int))=9223372036854775807-(g:Int):=by simp[IntKind.wrap,IntKind.bits,IntKind.signed];omega
 have d3:decide ((l.length:Int)>9223372036854775807-(g:Int))=false:=qK (by omega);by_cases hch:cN m 0 now=0
 {
 have hR:iP m E V D now g l=(Ob.at m E V D now g).resL 0 l:=by {
 unfold iP;rw[qI ⟨hg1,hcf,by omega,hlE.2,hch⟩];rfl};obtain⟨R,hRR⟩:∃R,R=(Ob.at m E V D now g).resL 0 l:=⟨_,rfl⟩;rw[hR,<-hRR];have HRR:=qB hRR;clear hRR;have HPl:=qB (zR hch (zR hlE.1 hlE.2));clear hR hcf hch hlE c1 c2 c3 c4 c5 c6 c7;go_enter Tryz.func32,Tryz.ntmps32
 go_wp2_with fail
 refine HFr.out.mono ?_;rintro _ w2 ⟨p,rfl,K,hK,hF2,hnK⟩;rw[<-HW1.out]at hF2 hnK;have hb2:=hF2.blk HBx.out.1 (by simp);have x1:=hb2.cell 1;simp only[zS,zT]at x1;have HF2:=qB (zR (HBx.out.2.trans' hF2) (show ∀q∈K,w.heap.size<=q from fun q hq=>zQ HBx.out.2.size (hnK q hq)));obtain⟨hokX,pc,ps,px,pf,nq,Ks,lx,Lf,cl,hB,hKe⟩:=hK;have c4:=hB.hd.cell 4;simp only[zS,zT]at c4;have HAd:=qB (aEN hB.clk now hn1 hn2 HPl.out.1);have HB:=qB (zR hokX (zR hB hKe));clear hF2 hnK hb2 hB hKe hokX x0 x2 x3 HFr HW1;go_wp2_with fail
 refine HAd.out.mono ?_;rintro _ w3 ⟨rfl,hclk,hF3⟩;have hI:RsI w w3 p 0 l R:=by {
 rw[HRR.out];obtain⟨q1,q2⟩:=nT HPl.out.1;obtain⟨hokX,hB,rfl⟩:=HB.out;have hB3:=hB.setClk hclk hF3;refine⟨{ (Wm.new m E V D g) with now:=now },cF p pc Ks lx Lf,⟨?_,pc,ps,px,pf,nq,Ks,lx,Lf,cl,hB3,rfl⟩,HF2.out.1.trans hF3 (fun b hb=>?_),HF2.out.2,fun e he=>(by cases he),Int.le_refl _,by show 0+_<=E;have:=HPl.out.2.1;omega,by show g+_<=_;have:=HPl.out.2.2;omega,rfl⟩
 · exact⟨hokX.ok,hokX.hV,hokX.hE,hokX.lk,fun e he=>(by cases he),List.Pairwise.nil,fun i hi=>absurd hi (Nat.not_lt_zero _),hokX.last,hokX.max,hokX.m1,hokX.m2,q1,q2⟩
 {
 have e:b=pc:=by simpa using hb
 exact .inr (by rw[e];exact HF2.out.2 pc (by simp[cF]))}};have HI:=qB hI;clear hclk hF3 hI HB HAd c4 x1 HF2;clear HRR;go_wp2_with fail
 go_loopw [12,48] (fun c1 c2 wr=>∃(i:Nat) (last:Int),i<=l.length/\c1=.int .i64 last/\c2=.int .i64 i/\Hid (RsI w wr p last (l.drop i) R)) (fun _ c _=>l.length-(intOf c).toNat)
 case atStart=>exact⟨0,0,zB _,rfl,rfl,HI⟩
 case round=>
  obtain⟨i,last,hi,rfl,rfl,HR⟩:=hrel;clear HI;rename World=>wr
  by_cases hil:i<l.length
  {
  have hii:(i:Int)<l.length:=by omega
  have hi0:(0:Int)<=i:=by omega
  obtain⟨X,K,⟨hokX,pc,ps,px,pf,nq,Ks,lx,Lf,cl,hB,rfl⟩,hF,hnK,hle,hl0,hle1,hle2,hres⟩:=HR.out;rw[List.drop_eq_getElem_cons hil]at hres hle1 hle2;have hrok:=HL.out.2 _ (List.getElem_mem hil);obtain⟨b,off,rfl,hbw,z0,z1,z2,z3⟩:=HL.out.1 i hil;generalize l[i]'hil=r at *;obtain⟨u,v,wt,t⟩:=r;obtain⟨k1,k2,k3,k4⟩:=hrok;simp only at k1 k2 k3 k4 z0 z1 z2 z3;have z0:=hF.cell z0 (by simp);have z1:=hF.cell z1 (by simp);have z2:=hF.cell z2 (by simp);have z3:=hF.cell z3 (by simp);have hby:=Blk.new wr [.int .u64 u,.int .u64 v,.int .i64 wt,.int .i64 t] 42;have hFa:Fr [] wr (wr.alloc (.cells #[.int .u64 u,.int .u64 v,.int .i64 wt,.int .i64 t] 42)):=(Fr.refl [] wr).alloc _;have hBa:=hB.fr0 hFa;obtain⟨wa,hwa⟩:∃wa,wa=wr.alloc (.cells #[.int .u64 u,.int .u64 v,.int .i64 wt,.int .i64 t] 42):=⟨_,rfl⟩;rw[show wr.alloc (.cells [.int .u64 u,.int .u64 v,.int .i64 wt,.int .i64 t].toArray 42)=wr.alloc (.cells #[.int .u64 u,.int .u64 v,.int .i64 wt,.int .i64 t] 42) from rfl,<-hwa]at hby;rw[<-hwa]at hFa hBa;have y0:=hby.cell 0;have y1:=hby.cell 1;have y2:=hby.cell 2;have y3:=hby.cell 3;have c4:=hBa.hd.cell 4;have c5:=hBa.hd.cell 5;simp only[zS,zT]at y0 y1 y2 y3 c4 c5;have hLive:∀w', Fr [] wa w' -> Calls Tryz.prog 69 #[iA pc,.int .i64 t] w' fun e w'' =>e=.returned (.bool (kV X.m X.now t))/\Fr [] wa w'' :=fun w' h=>(aWF (hBa.clk.fr0 h) t k3 k4).mono fun _ _ k=>⟨k.1,h.trans' k.2⟩;have hChk:∀w', Fr [] wa w' -> Calls Tryz.prog 70 #[fP ps,iK u v wt t] w' fun e w'' =>e=.returned (.int .i64 (X.s.chk u v))/\Fr [] wa w'' :=fun w' h=>(pO (hBa.st.fr0 h) u v k1 k2 wt t).mono fun _ _ k=>⟨k.1,h.trans' k.2⟩;have HX:=qB (zR hokX (zR hBa (zR (hF.trans' hFa) (zR hnK (zR hle (zR hl0 (zR hle1 (zR hle2 hres))))))));clear hokX hB hBa hF hnK hle hl0 hle1 hle2 hres hby hbw;have hunf:∀{b:Bool},X.ob.resOk last (u,v,wt,t)=b->(if b=true then(X.ob.putT u v wt t).resL t (l.drop (i+1)) else none)=R:=fun {b} hb=>by
    rw[<-hb];exact HX.out.2.2.2.2.2.2.2.2
  by_cases hlt:t<last
  {
  have d5:decide (t<last)=true:=qO hlt;have hRn:R=none:=by {
  have:=hunf (b:=false) (by unfold Ob.resOk;rw[qK (show ¬last<=t by omega)];rfl);exact this.symm};subst hRn;clear hlt hunf;have HLive:=qB hLive;have HChk:=qB hChk;have Hwa:=qB hwa;clear hLive hChk hwa;go_wp2_with fail
  rw[<-Hwa.out];refine dJ (fun w' =>Fr [] wa w') (by kernel_rfl) (by kernel_rfl) ((Fr.refl [] wa).drew) ?_;iterate 1 (refine aE (by kernel_rfl) (fun KK hK=>?_);go_simp;refine hK.out _ ?_;clear hK KK)
  refine aU (by kernel_rfl) (.int .i64 t) (fun w' hw' =>?_) ?_
  {
  have y3:=hw'.cell y3 (by simp);go_simp;first|done|exact hw' | exact⟨rfl,hw'⟩};iterate 3 (refine aE (by kernel_rfl) (fun KK hK=>?_);go_simp;refine hK.out _ ?_;clear hK KK)
  iterate 8 (refine nM (by kernel_rfl) ?_)
  iterate 2 (refine aE (by kernel_rfl) (fun KK hK=>?_);go_simp;refine hK.out _ ?_;clear hK KK)
  iterate 7 (refine nM (by kernel_rfl) ?_)
  iterate 1 (refine aE (by kernel_rfl) (fun KK hK=>?_);go_simp;refine hK.out _ ?_;clear hK KK)
  refine iJ ?_;intro w6 hF6;have HF6:=qB (HX.out.2.2.1.trans' hF6);clear hF6 y0 y1 y2 y3 c4 c5 z0 z1 z2 z3 HX HR;go_wp2
  go_ret2;exact⟨rfl,HF6.out⟩}
  {
  have d5:decide (t<last)=false:=qK hlt;cases hlv:kV X.m X.now t with
  | false=>{
  have hRn:R=none:=by {
  have:=hunf (b:=false) (by unfold Ob.resOk;rw[show kV X.ob.m X.ob.now t=false from hlv];simp);exact this.symm};subst hRn;rw[hlv]at hLive;clear hlt hunf hlv;have HLive:=qB hLive;have HChk:=qB hChk;have Hwa:=qB hwa;clear hLive hChk hwa;go_wp2_with fail
  rw[<-Hwa.out];refine dJ (fun w' =>Fr [] wa w') (by kernel_rfl) (by kernel_rfl) ((Fr.refl [] wa).drew) ?_;iterate 1 (refine aE (by kernel_rfl) (fun KK hK=>?_);go_simp;refine hK.out _ ?_;clear hK KK)
  refine aU (by kernel_rfl) (.int .i64 t) (fun w' hw' =>?_) ?_
  {
  have y3:=hw'.cell y3 (by simp);go_simp;first|done|exact hw' | exact⟨rfl,hw'⟩};iterate 3 (refine aE (by kernel_rfl) (fun KK hK=>?_);go_simp;refine hK.out _ ?_;clear hK KK)
  iterate 3 (refine aE (by kernel_rfl) (fun KK hK=>?_);go_simp;refine hK.out _ ?_;clear hK KK)
  refine aU (by kernel_rfl) (iA pc) (fun w' hw' =>?_) ?_
  {
  have c4:=hw'.cell c4 (by simp);go_simp;first|done|exact hw' | exact⟨rfl,hw'⟩};iterate 1 (refine aE (by kernel_rfl) (fun KK hK=>?_);go_simp;refine hK.out _ ?_;clear hK KK)
  refine aU (by kernel_rfl) (.int .i64 t) (fun w' hw' =>?_) ?_
  {
  have y3:=hw'.cell y3 (by simp);go_simp;first|done|exact hw' | exact⟨rfl,hw'⟩};refine aU (by kernel_rfl) (.bool false) (fun w' hw' =>?_) ?_
  {
  go_simp;exact HLive.out _ hw'};iterate 1 (refine aE (by kernel_rfl) (fun KK hK=>?_);go_simp;refine hK.out _ ?_;clear hK KK)
  iterate 2 (refine aE (by kernel_rfl) (fun KK hK=>?_);go_simp;refine hK.out _ ?_;clear hK KK)
  iterate 7 (refine nM (by kernel_rfl) ?_)
  iterate 1 (refine aE (by kernel_rfl) (fun KK hK=>?_);go_simp;refine hK.out _ ?_;clear hK KK)
  refine iJ ?_;intro w6 hF6;have HF6:=qB (HX.out.2.2.1.trans' hF6);clear hF6 y0 y1 y2 y3 c4 c5 z0 z1 z2 z3 HX HR;go_wp2
  go_ret2;exact⟨rfl,HF6.out⟩}
  | true=>{
  obtain⟨cc,hcc⟩:∃cc:Int,cc=(X.s.chk u v:Nat):=⟨_,rfl⟩;rw[hlv]at hLive;rw[<-hcc]at hChk;by_cases hc0:X.s.chk u v=0
  {
  have hcc0:cc=0:=by rw[hcc,hc0];rfl
  subst hcc0;have hR2:=hunf (b:=true) (by
    unfold Ob.resOk;rw[show kV X.ob.m X.ob.now t=true from hlv,qO (show last<=t by omega),qO (show X.ob.chkO u v=0 by rw[<-aJT HX.out.1];exact hc0)];rfl)
  rw[qI rfl]at hR2;have hlv' :=of_decide_eq_true hlv;have hN:=sK HX.out.2.1 HX.out.1.lk HX.out.1.ok HX.out.1.hV HX.out.1.hE u v k1 k2 wt t (by have:=HX.out.2.2.2.2.2.1;omega) hlv'.2.1 hc0;have HG:=qB (zR hlv' (zR hc0 (zR hR2 (zR (Int.not_lt.1 hlt) (zR k1 k2)))));clear hlt hunf hlv hc0 hR2 hlv' hcc hN;have HLive:=qB hLive;have HChk:=qB hChk;have Hwa:=qB hwa;clear hLive hChk hwa;go_wp2_with fail
  rw[<-Hwa.out];refine dJ (fun w' =>Fr [] wa w') (by kernel_rfl) (by kernel_rfl) ((Fr.refl [] wa).drew) ?_;iterate 1 (refine aE (by kernel_rfl) (fun KK hK=>?_);go_simp;refine hK.out _ ?_;clear hK KK)
  refine aU (by kernel_rfl) (.int .i64 t) (fun w' hw' =>?_) ?_
  {
  have y3:=hw'.cell y3 (by simp);go_simp;first|done|exact hw' | exact⟨rfl,hw'⟩};iterate 3 (refine aE (by kernel_rfl) (fun KK hK=>?_);go_simp;refine hK.out _ ?_;clear hK KK)
  iterate 3 (refine aE (by kernel_rfl) (fun KK hK=>?_);go_simp;refine hK.out _ ?_;clear hK KK)
  refine aU (by kernel_rfl) (iA pc) (fun w' hw' =>?_) ?_
  {
  have c4:=hw'.cell c4 (by simp);go_simp;first|done|exact hw' | exact⟨rfl,hw'⟩};iterate 1 (refine aE (by kernel_rfl) (fun KK hK=>?_);go_simp;refine hK.out _ ?_;clear hK KK)
  refine aU (by kernel_rfl) (.int .i64 t) (fun w' hw' =>?_) ?_
  {
  have y3:=hw'.cell y3 (by simp);go_simp;first|done|exact hw' | exact⟨rfl,hw'⟩};refine aU (by kernel_rfl) (.bool true) (fun w' hw' =>?_) ?_
  {
  go_simp;exact HLive.out _ hw'};iterate 1 (refine aE (by kernel_rfl) (fun KK hK=>?_);go_simp;refine hK.out _ ?_;clear hK KK)
  iterate 2 (refine aE (by kernel_rfl) (fun KK hK=>?_);go_simp;refine hK.out _ ?_;clear hK KK)
  iterate 3 (refine aE (by kernel_rfl) (fun KK hK=>?_);go_simp;refine hK.out _ ?_;clear hK KK)
  refine aU (by kernel_rfl) (fP ps) (fun w' hw' =>?_) ?_
  {
  have c5:=hw'.cell c5 (by simp);go_simp;first|done|exact hw' | exact⟨rfl,hw'⟩};refine aU (by kernel_rfl) (iK u v wt t) (fun w' hw' =>?_) ?_
  {
  have y0:=hw'.cell y0 (by simp);have y1:=hw'.cell y1 (by simp);have y2:=hw'.cell y2 (by simp);have y3:=hw'.cell y3 (by simp);go_simp;first|done|exact hw' | exact⟨rfl,hw'⟩};refine aU (by kernel_rfl) (.int .i64 0) (fun w' hw' =>?_) ?_
  {
  go_simp;exact HChk.out _ hw'};iterate 1 (refine aE (by kernel_rfl) (fun KK hK=>?_);go_simp;refine hK.out _ ?_;clear hK KK)
  iterate 1 (refine aE (by kernel_rfl) (fun KK hK=>?_);go_simp;refine hK.out _ ?_;clear hK KK)
  refine iJ ?_;intro w6 hF6;have hBw:=HX.out.2.1.fr0 hF6;have y0:=hF6.cell y0 (by simp);have y1:=hF6.cell y1 (by simp);have y2:=hF6.cell y2 (by simp);have y3:=hF6.cell y3 (by simp);have HN:=qB (sK hBw HX.out.1.lk HX.out.1.ok HX.out.1.hV HX.out.1.hE u v k1 k2 wt t (by have:=HX.out.2.2.2.2.2.1;have:=HG.out.2.2.2.1;omega) HG.out.1.2.1 HG.out.2.1 (by have h:=HX.out.2.2.2.2.2.2.2.1;simp only[zI]at h;show X.s.last+1<=_;omega) (by have h:=HX.out.2.2.2.2.2.2.2.1;simp only[zI]at h;show X.s.last+1<=_;omega));have HF6:=qB hF6;clear hF6 c4 c5 z0 z1 z2 z3 hBw HR;go_wp2_with fail
  refine HN.out.mono ?_;rintro _ w7 ⟨rfl,ea,eb,Ks7,lx7,Lf7,ha,hb,hI7⟩;have HNew:Hid (RsI w w7 p t (l.drop (i+1)) R):=qB (by
    obtain⟨hokX,hBa,hFw,hnK,hle,hl0,hle1,hle2,_⟩:=HX.out;obtain⟨hlv', hc0,hR2,hlt,k1,k2⟩:=HG.out;obtain⟨⟨cl7,hB7⟩,hF7,hn7,_⟩:=hI7;simp only[zI]at hle1 hle2;have hs1:=hFw.size;have hs2:=HF6.out.size;have hwp:({ (X.wp nq) with s:=(X.wp nq).s.ins u v wt t (t+(X.wp nq).m),Q:=fun j=>if j=(X.wp nq).s.slot then some (t+(X.wp nq).m) else(X.wp nq).Q j,nq:=(X.wp nq).nq+1,G:=fun j=>if j=(X.wp nq).s.slot then some (ea,eb,t+(X.wp nq).m) else(X.wp nq).G j,added:=(X.wp nq).added+1 }:Wp)=(X.putT u v wt t ea eb).wp (nq+1):=by
      simp[Wm.wp,Wm.putT,Sm.ins];exact⟨rfl,rfl⟩
    rw[hwp]at hB7;refine⟨X.putT u v wt t ea eb,cF p pc Ks7 lx7 Lf7,⟨Wm.putT_ok hokX k1 k2 wt t (by omega) hlv'.1 hlv'.2.2 (fun e he=>by have:=hle e he;omega) hc0 (by omega) ha hb,pc,ps,px,pf,nq+1,Ks7,lx7,Lf7,cl7,hB7,rfl⟩,(hFw.trans' HF6.out).trans hF7 (fun b hb=>.inr (hnK b hb)),fun q hq=>?_,fun e he=>?_,by omega,?_,?_,?_⟩
    · rcases hn7 q hq with h | h
      · exact hnK q h
      · omega
    · have he' : e ∈ X.s.L ++ [X.s.edge u v wt t (t + X.m)] := he
      rw[qJ,qP]at he';rcases he' with he' | rfl
      · have:=hle e he'; omega
      · exact Int.le_refl _
    · show (X.s.L ++ [X.s.edge u v wt t (t + X.m)]).length + _ <= X.E
      rw[zO];simp only[zI,List.length_nil];omega
    · show X.s.last + 1 + _ <= _
      omega
    · rw[aWG];exact hR2)
  clear hI7 ha hb HN y0 y1 y2 y3 HX HG;go_wp2_with fail
  go_roundw
  case rel=>exact⟨i+1,t,by omega,rfl,by go_num,HNew⟩
  case measure=>simp[intOf];omega}
  {
  have hRn:R=none:=by {
  have:=hunf (b:=false) (by unfold Ob.resOk;rw[qK (show ¬X.ob.chkO u v=0 by rw[<-aJT HX.out.1];exact hc0)];simp);exact this.symm};subst hRn;have d6:(cc != 0)=true:=by rw[hcc];simp;omega
  clear hlt hunf hlv hc0 hcc;have HLive:=qB hLive;have HChk:=qB hChk;have Hwa:=qB hwa;clear hLive hChk hwa;go_wp2_with fail
  rw[<-Hwa.out];refine dJ (fun w' =>Fr [] wa w') (by kernel_rfl) (by kernel_rfl) ((Fr.refl [] wa).drew) ?_;iterate 1 (refine aE (by kernel_rfl) (fun KK hK=>?_);go_simp;refine hK.out _ ?_;clear hK KK)
  refine aU (by kernel_rfl) (.int .i64 t) (fun w' hw' =>?_) ?_
  {
  have y3:=hw'.cell y3 (by simp);go_simp;first|done|exact hw' | exact⟨rfl,hw'⟩};iterate 3 (refine aE (by kernel_rfl) (fun KK hK=>?_);go_simp;refine hK.out _ ?_;clear hK KK)
  iterate 3 (refine aE (by kernel_rfl) (fun KK hK=>?_);go_simp;refine hK.out _ ?_;clear hK KK)
  refine aU (by kernel_rfl) (iA pc) (fun w' hw' =>?_) ?_
  {
  have c4:=hw'.cell c4 (by simp);go_simp;first|done|exact hw' | exact⟨rfl,hw'⟩};iterate 1 (refine aE (by kernel_rfl) (fun KK hK=>?_);go_simp;refine hK.out _ ?_;clear hK KK)
  refine aU (by kernel_rfl) (.int .i64 t) (fun w' hw' =>?_) ?_
  {
  have y3:=hw'.cell y3 (by simp);go_simp;first|done|exact hw' | exact⟨rfl,hw'⟩};refine aU (by kernel_rfl) (.bool true) (fun w' hw' =>?_) ?_
  {
  go_simp;exact HLive.out _ hw'};iterate 1 (refine aE (by kernel_rfl) (fun KK hK=>?_);go_simp;refine hK.out _ ?_;clear hK KK)
  iterate 2 (refine aE (by kernel_rfl) (fun KK hK=>?_);go_simp;refine hK.out _ ?_;clear hK KK)
  iterate 3 (refine aE (by kernel_rfl) (fun KK hK=>?_);go_simp;refine hK.out _ ?_;clear hK KK)
  refine aU (by kernel_rfl) (fP ps) (fun w' hw' =>?_) ?_
  {
  have c5:=hw'.cell c5 (by simp);go_simp;first|done|exact hw' | exact⟨rfl,hw'⟩};refine aU (by kernel_rfl) (iK u v wt t) (fun w' hw' =>?_) ?_
  {
  have y0:=hw'.cell y0 (by simp);have y1:=hw'.cell y1 (by simp);have y2:=hw'.cell y2 (by simp);have y3:=hw'.cell y3 (by simp);go_simp;first|done|exact hw' | exact⟨rfl,hw'⟩};refine aU (by kernel_rfl) (.int .i64 cc) (fun w' hw' =>?_) ?_
  {
  go_simp;exact HChk.out _ hw'};iterate 1 (refine aE (by kernel_rfl) (fun KK hK=>?_);go_simp;refine hK.out _ ?_;clear hK KK)
  iterate 1 (refine aE (by kernel_rfl) (fun KK hK=>?_);go_simp;refine hK.out _ ?_;clear hK KK)
  refine iJ ?_;intro w6 hF6;have HF6:=qB (HX.out.2.2.1.trans' hF6);clear hF6 y0 y1 y2 y3 c4 c5 z0 z1 z2 z3 HX HR;go_wp2
  go_ret2;exact⟨rfl,HF6.out⟩}}}}
  {
  obtain rfl:i=l.length:=by omega
  obtain⟨X,K,hX,hF,hnK,hle,hl0,hle1,hle2,hres⟩:=HR.out;rw[List.drop_eq_nil_of_le (qS _)]at hres;have hRn:R=some X.ob:=hres.symm;subst hRn;have HX:=qB (zR hX (zR hF hnK));clear hX hF hnK hle hl0 hle1 hle2 hres HR;go_wp2
  go_ret2;exact⟨p,X,K,rfl,rfl,HX.out⟩}}
 {
 have hR:iP m E V D now g l=none:=qH (fun h=>hch h.2.2.2.2);rw[hR];obtain⟨cc,hcc⟩:∃cc,cc=cN m 0 now:=⟨_,rfl⟩;have d6:(cc != 0)=true:=by rw[hcc];simp[hch]
 have HC:=qB (zR hcc hch);clear hR hcf hlE c1 c2 c3 c4 c5 c6 c7 hcc hch;go_enter Tryz.func32,Tryz.ntmps32
 go_wp2_with fail
 refine HFr.out.mono ?_;rintro _ w2 ⟨p,rfl,K,hK,hF2,hnK⟩;rw[<-HW1.out]at hF2 hnK;have hb2:=hF2.blk HBx.out.1 (by simp);have x1:=hb2.cell 1;simp only[zS,zT]at x1;have HF2:=qB (HBx.out.2.trans' hF2);obtain⟨hokX,pc,ps,px,pf,nq,Ks,lx,Lf,cl,hB,hKe⟩:=hK;have c4:=hB.hd.cell 4;simp only[zS,zT]at c4;have hAd:=aJG hB.clk now hn1 hn2 HC.out.2;rw[show cN (Wm.wp (Wm.new m E V D g) nq).m (Wm.wp (Wm.new m E V D g) nq).now now=cc from HC.out.1.symm]at hAd;have HAd:=qB hAd;clear hF2 hnK hb2 hB hKe hokX x0 x2 x3 HFr HW1 hAd;go_wp2_with fail
 refine HAd.out.mono ?_;rintro _ w3 ⟨rfl,rfl⟩;clear c4 x1 HAd;go_wp2
 go_ret2;exact⟨rfl,HF2.out⟩}}
 {
 have hR:iP m E V D now g l=none:=qH (fun h=>hlE ⟨by omega,h.2.2.2.1⟩);rw[hR];clear hR hcf c1 c2 c4 c5 c6 c7;by_cases hl1:l.length<=E
 {
 have d2:decide ((l.length:Int)>E)=false:=qK (by omega);have d2n:decide (E<l.length)=false:=qK (by omega);have d3n:decide (9223372036854775807-(g:Int)<l.length)=true:=qO (by omega);have d3:decide ((l.length:Int)>9223372036854775807-(g:Int))=true:=qO (by omega);have hw2:IntKind.u64.wrap (l.length:Int)=l.length:=by simp[IntKind.wrap,IntKind.bits,IntKind.signed];omega
 have hw3:IntKind.u64.wrap (9223372036854775807-(g:Int))=9223372036854775807-(g:Int):=by simp[IntKind.wrap,IntKind.bits,IntKind.signed];omega
 clear hlE hl1;go_enter Tryz.func32,Tryz.ntmps32
 go_wp2_with fail
 refine HFr.out.mono ?_;rintro _ w2 ⟨p,rfl,K,hK,hF2,hnK⟩;rw[<-HW1.out]at hF2;have hb2:=hF2.blk HBx.out.1 (by simp);have x1:=hb2.cell 1;simp only[zS,zT]at x1;have HF2:=qB (HBx.out.2.trans' hF2);clear hF2 hnK hb2 hK x0 x2 x3 HFr HW1;go_wp2
 go_ret2;exact⟨rfl,HF2.out⟩}
 {
 have d2:decide ((l.length:Int)>E)=true:=qO (by omega);have d2n:decide (E<l.length)=true:=qO (by omega);clear hlE hl1;go_enter Tryz.func32,Tryz.ntmps32
 go_wp2_with fail
 refine HFr.out.mono ?_;rintro _ w2 ⟨p,rfl,K,hK,hF2,hnK⟩;rw[<-HW1.out]at hF2;have hb2:=hF2.blk HBx.out.1 (by simp);have x1:=hb2.cell 1;simp only[zS,zT]at x1;have HF2:=qB (HBx.out.2.trans' hF2);clear hF2 hnK hb2 hK x0 x2 x3 HFr HW1;go_wp2
 go_ret2;exact⟨rfl,HF2.out⟩}}}}
 {
 have hR:iP m E V D now g l=none:=qH (fun h=>hg1 h.1);rw[hR];have d1:decide ((g:Int)>9223372036854775807)=true:=qO (by omega);have HF:=qB HBx.out.2;rw[hw1]at HF;clear hR hg1 hw1 HBx;go_enter Tryz.func32,Tryz.ntmps32
 go_wp2
 go_ret2;exact⟨rfl,HF.out⟩}
section
variable {W wr w' :World} {p:Nat} {o:Ob} {ts:List Th}
def ResE(W w' :World)(ts:List Th)(R:Option Ob)(e:Ending):Prop:=match R with
  | none=>e=.returned (.tuple #[.pointer none,.int .i64 2])/\Wd W w' ts
  | some o=>∃p,e=.returned (.tuple #[aN p,.int .i64 0])/\Wd W w' (thO p o::ts)
theorem bAO(h:Wd W wr ts)(m E V D now:Int)(g:Nat)(a:Option Addr)(cap:Nat)(l:List R4)(hg:g<18446744073709551616)(hn1:-9223372036854775808<=now)(hn2:now<=9223372036854775807)(hm2:m<=9223372036854775807)
    (hl:l.length<=9223372036854775807) (hrow:RcW wr a l) (hok:∀r∈l,r.ok):
    Calls Tryz.prog 32 #[.agg #[.int .i64 m,.int .i64 E,.int .i64 V,.int .i64 D],.int .i64 now,.int .u64 g,.slice a l.length cap] wr fun e w' =>ResE W w' ts (iP m E V D now g l) e:=by
 refine(bAN m E V D now g a cap l wr hg hn1 hn2 hm2 hl hrow hok).mono fun e w' k=>?_;cases hR:iP m E V D now g l with
 | none=>rw[hR]at k;exact⟨k.1,h.fr0 k.2⟩
 | some o=>{
 rw[hR]at k;obtain⟨p,X,K,k1,k2,k3,k4,k5⟩:=k;exact⟨p,k1,h.new k4 ⟨X,k2,k3⟩ k5⟩}
end
def rC(r:R4):List Value:=[.int .u64 r.1,.int .u64 r.2.1,.int .i64 r.2.2.1,.int .i64 r.2.2.2]
def rowR(l:List R4):List Value:=l.flatMap rC
theorem aFB(l:List R4):(rowR l).length=l.length*4:=by
 induction l with
 | nil=>rfl
 | cons a r ih=>simp only[rowR,List.flatMap_cons,zO,zI]at *;rw[ih];simp[rC];omega
theorem aCJ:∀{l:List R4} {i:Nat} (hi:i<l.length) (j:Nat),j<4->(rowR l)[i*4+j]? =(rC l[i])[j]?
  | e::l,0,_,j,hj=>by
    show(rC e++rowR l)[0*4+j]? =(rC e)[j]?
    rw[List.getElem?_append_left (by simp[rC];omega)];congr 1;omega
  | e::l,i+1,hi,j,hj=>by
    show(rC e++rowR l)[(i+1)*4+j]? =_
    rw[List.getElem?_append_right (by simp[rC];omega)];have:=aCJ (l:=l) (i:=i) (by simpa using hi) j hj;rw[show(i+1)*4+j-(rC e).length=i*4+j by simp[rC];omega,this];simp
def nH(w:World)(v:Value)(l:List R4):Prop:=w.ownsRow 0 42 4 v l.length (rowR l)
section
variable {w w' :World} {v:Value} {l:List R4}
theorem nH.fr{S:List Nat}(h:nH w v l)(hf:Fr S w w')(hs:∀q,v.ownBlock=some q->q∉S):nH w' v l:=
  aI h (fun q hq=>hf.keep q (dL h hq) (hs q hq))
theorem nH.slice(h:nH w v l):∃a cap,v=.slice a l.length cap:=aJ h
theorem nH.lt(h:nH w v l){q:Nat}(hq:v.ownBlock=some q):q<w.heap.size:=dL h hq
theorem nH.at(h:nH w v l){i:Nat}(hi:i<l.length):∃b cap,v=.slice (some ⟨b,0,none⟩) l.length cap/\l.length<=cap/\b<w.heap.size/\(∀j,w.frozen? ⟨b,j,none⟩=false)/\∀j,j<4->w.cell? ⟨b,i*4+j,none⟩=(rC l[i])[j]? :=by
 obtain⟨h1,h2⟩:=h;rcases h2 with⟨rfl,h0⟩|⟨g,cap,cur,rfl,_,hh,hn,hm,hsz,hxs⟩
 · omega
 {
 refine⟨g,cap,rfl,hn,(qU.1 hh).1,fun j=>by simp[World.frozen?,hh],?_⟩;intro j hj;rw[<-aCJ hi j hj,<-hxs,List.getElem?_take,qI (by omega)];simp[World.cell?,hh]}
theorem nH.rc{a:Option Addr}{cap:Nat}(h:nH w (.slice a l.length cap) l):RcW w a l:=by
 intro i hi;obtain⟨b,cap', ev,_,hb,_,hc⟩:=h.at hi;simp only[qY]at ev;exact⟨b,0,ev.1,hb,by rw[Nat.zero_add];exact hc 0 (by omega),by rw[Nat.zero_add];exact hc 1 (by omega),by rw[Nat.zero_add];exact hc 2 (by omega),by rw[Nat.zero_add];exact hc 3 (by omega)⟩
end
def thR(v:Value)(l:List R4):Th:=⟨fun w K=>nH w v l/\K=v.ownBlock.toList,fun⟨h,e⟩ q hq=>h.lt (by simpa[e] using hq),fun⟨h,e⟩ hf hs=>⟨h.fr hf (fun q hq=>hs q (by simp[e,hq])),e⟩⟩
theorem Wd.rowR{W wr:World}{ts:List Th}{v:Value}{l:List R4}(h:Wd W wr (thR v l::ts)):nH wr v l:=by obtain⟨K,h,_⟩:=h.get;exact h
theorem aRH{L M:List Lv}(h:∀e∈L,e∈M):(bD L).length<=(bD M).length:=
  jW (wM L) fun x hx=>by
 obtain⟨e,he,hat⟩:=dA.1 hx;exact dA.2 ⟨e,h e he,hat⟩
theorem aHQ(L:List Lv)(e:Lv):Ob.idsUV L e.u e.v=bD (L++[e]):=by
 unfold Ob.idsUV bD;rw[List.foldl_append];rfl
theorem kW(x:Nat):∀l:List Nat,(cP x l).length<=l.length+1
  | []=>qS _
  | a::r=>by
    show(if x=a then a::r else if x<a then x::a::r else a::cP x r).length<=_
    have:=kW x r;split
    · simp
    · split
      · simp
      · simp only[zI];omega
theorem aAE(L:List Lv)(e:Lv):bD (L++[e])=cP e.v (cP e.u (bD L)):=by
 unfold bD;rw[List.foldl_append];rfl
theorem eH(L:List Lv):∀n,L.length=n->(bD L).length<=2*n:=by
 intro n;induction n generalizing L with
 | zero=>intro h;rw[List.length_eq_zero_iff.1 h];exact qS 0
 | succ n ih=>{
 intro h;have hne:L≠[]:=by intro h0;rw[h0]at h;cases h
 rw[<-List.dropLast_concat_getLast hne,aAE];have h1:=ih L.dropLast (by rw[List.length_dropLast];omega);have h2:=kW (L.getLast hne).u (bD L.dropLast);have h3:=kW (L.getLast hne).v (cP (L.getLast hne).u (bD L.dropLast));omega}
theorem wQ{w:World}{v:Value}{l:List Lv}(h:aS w v l)(hl:l.length<=16384):
    Calls Tryz.prog 79 #[v] w fun e w' =>∃v', e=.returned v' /\ cQ w' v' (bD l)/\Fr [] w w' /\ ∀q,v'.ownBlock=some q->w.heap.size<=q:=by
  obtain⟨a,c,rfl⟩:=h.slice;have H:=qB h;clear h;go_enter Tryz.func79,Tryz.ntmps79
  go_wp2
  go_loopw [3,4] (fun c1 x wr=>∃(i:Nat) (a:Option Addr) (n c:Nat),i<=l.length/\c1=.slice a n c/\x=.int .i64 i/\Hid (cQ wr (.slice a n c) (bD (l.take i))/\Fr [] w wr/\∀q,(Value.slice a n c).ownBlock=some q->w.heap.size<=q)) (fun _ x _=>l.length-(intOf x).toNat)
  case atStart=>exact⟨0,none,0,0,zB _,rfl,rfl,qB ⟨⟨rfl,.inl ⟨rfl,rfl⟩⟩,Fr.refl _ _,fun q hq=>by cases hq⟩⟩
  case round=>
    obtain⟨i,ao,no,co,hi,rfl,rfl,HR⟩:=hrel;rename World=>wr
    by_cases hlt:i<l.length
    · obtain ⟨b1, c1', e1, hx1, hx2, hx3, r1⟩ := H.out.at hlt
      simp only[qY,true_and]at e1;obtain⟨rfl,rfl⟩:=e1;clear hx1 hx2 hx3;have hi1:(i:Int)<l.length:=by omega
      have hi0:(0:Int)<=i:=by omega
      have hst:bD (l.take (i+1))=cP (l[i]'hlt).v (cP (l[i]'hlt).u (bD (l.take i))):=by rw[List.take_add_one,qT hlt];exact aAE _ _
      generalize l[i]'hlt=x at *;obtain⟨_,_,x2,x3,_,_,_⟩:=r1;have hlen:=eH (l.take i) _ rfl;rw[List.length_take]at hlen;have hlt1:=iX (l.take i);obtain⟨ds,hds⟩:∃ds,ds=bD (l.take i):=⟨_,rfl⟩;rw[<-hds]at HR hst hlen hlt1;have x2:=HR.out.2.1.cell x2 (by simp);have x3:=HR.out.2.1.cell x3 (by simp)
      have HP:=qB (show ∀w', Fr [] wr w' -> Calls Tryz.prog 126 #[.slice ao no co,.int .u64 x.u] w' fun e w1=>∃a1 n1 k1,e=.returned (.slice a1 n1 k1)/\Fr [] wr w1 /\
          Calls Tryz.prog 126 #[.slice a1 n1 k1,.int .u64 x.v] w1 fun e w2=>∃a2 n2 k2,e=.returned (.slice a2 n2 k2)/\cQ w2 (.slice a2 n2 k2) (cP x.v (cP x.u ds))/\Fr [] wr w2/\∀q,(Value.slice a2 n2 k2).ownBlock=some q->w.heap.size<=q from fun w' hf=>by
        have hr:=HR.out.1.fr0 hf;refine(sQ hr hlt1 x.u (by omega)).mono ?_;rintro _ w1 ⟨v1,rfl,h1,hF1,hq1⟩;obtain⟨a1,k1,rfl⟩:=h1.slice;refine⟨_,_,_,rfl,hf.trans' hF1,(sQ h1 (gN hlt1) x.v (by have:=kW x.u ds;omega)).mono ?_⟩;rintro _ w2 ⟨v2,rfl,h2,hF2,hq2⟩;obtain⟨a2,k2,rfl⟩:=h2.slice;refine⟨_,_,_,rfl,h2,(hf.trans' hF1).trans' hF2,fun q hq=>?_⟩;have s1:=(HR.out.2.1.trans' (hf.trans' hF1)).size;have s0:=(HR.out.2.1.trans' hf).size;rcases hq2 q hq with e|e
        · rcases hq1 q e with e | e
          · exact HR.out.2.2 q e
          · omega
        · omega)
      have HF:=qB (zR HR.out.2.1 hst);clear hst hlen hlt1 hds HR;go_wp2_with fail
      go_region_held3 (fun w' => w'.cell? ⟨b1, i * 7 + 2, none⟩ = some (.int .u64 x.u) /\ w'.cell? ⟨b1, i * 7 + 3, none⟩ = some (.int .u64 x.v))
        (first
          | go_keep
          | exact⟨hfB.cell x2 (by simp),hfB.cell x3 (by simp)⟩
          | exact⟨hfA.cell x2 (by simp),hfA.cell x3 (by simp)⟩)
        (first
          | (go_at_call 126;with_reducible refine Calls.mono (HP.out _ (Fr.refl [] wr).drew) ?_;rintro r wA ⟨a1,n1,k1,rfl,hfA,hcA⟩)
          | (go_at_call 126;with_reducible refine Calls.mono hcA ?_;rintro r wB ⟨a2,n2,k2,rfl,hB,hfB,hqB⟩))
      all_goals
        have HN:Hid (cQ wB (.slice a2 n2 k2) (bD (l.take (i+1)))/\Fr [] w wB/\∀q,(Value.slice a2 n2 k2).ownBlock=some q->w.heap.size<=q):=qB (by
          rw[HF.out.2];exact⟨hB,HF.out.1.trans' hfB,hqB⟩)
        clear hB hfB hqB hcA hfA HP x2 x3;go_wp2_with fail
        go_roundw
        case rel=>exact⟨i+1,_,_,_,by omega,rfl,by go_num,HN⟩
        case measure=>simp[intOf];omega
    · obtain rfl : i = l.length := by omega
      go_wp2
      go_ret;have:=HR.out;rw[List.take_length]at this;exact⟨_,rfl,this⟩
theorem aJU{w:World}{v:Value}{l:List Lv}(h:aS w v l)(hl:l.length<=16384)(to:Int):
    Calls Tryz.prog 125 #[v,.int .i64 to] w fun e w' =>∃v', e=.returned v' /\ aS w' v' (l.filter fun e=>decide (to<e.x))/\Fr [] w w' /\ ∀q,v'.ownBlock=some q->w.heap.size<=q:=by
 obtain⟨a,c,rfl⟩:=h.slice;have H:=qB h;clear h;go_enter Tryz.func125,Tryz.ntmps125
 go_wp2
 go_loopw [5,6] (fun c1 x wr=>∃(i:Nat) (a:Option Addr) (n c:Nat),i<=l.length/\c1=.slice a n c/\x=.int .i64 i/\Hid (aS wr (.slice a n c) ((l.take i).filter fun e=>decide (to<e.x))/\Fr [] w wr/\(∀q,(Value.slice a n c).ownBlock=some q->w.heap.size<=q)/\n=((l.take i).filter fun e=>decide (to<e.x)).length)) (fun _ x _=>l.length-(intOf x).toNat)
 case atStart=>exact⟨0,none,0,0,zB _,rfl,rfl,qB ⟨aS.nil _,Fr.refl _ _,fun q hq=>(by cases hq),rfl⟩⟩
 case round=>
  obtain⟨i,ao,no,co,hi,rfl,rfl,HR⟩:=hrel;rename World=>wr
  by_cases hlt:i<l.length
  {
  obtain⟨b1,c1', e1,hx1,hx2,hx3,r1⟩:=H.out.at hlt;simp only[qY,true_and]at e1;obtain⟨rfl,rfl⟩:=e1;clear hx1 hx2 hx3;have hi1:(i:Int)<l.length:=by omega
  have hi0:(0:Int)<=i:=by omega
  have htk:l.take (i+1)=l.take i++[l[i]'hlt]:=by rw[List.take_add_one,qT hlt];rfl
  have hst:(l.take (i+1)).filter (fun e=>decide (to<e.x))=(l.take i).filter (fun e=>decide (to<e.x))++(if to<(l[i]'hlt).x then [l[i]'hlt] else []):=by {
  rw[htk,List.filter_append];congr 1
  by_cases hh:to<(l[i]'hlt).x<;>simp[hh]};have hnl:((l.take i).filter (fun e=>decide (to<e.x))).length<=i:=zQ (List.length_filter_le _ _) (by rw[List.length_take];omega);generalize l[i]'hlt=x at *;obtain⟨ds,hds⟩:∃ds,ds=(l.take i).filter (fun e=>decide (to<e.x)):=⟨_,rfl⟩;rw[<-hds]at HR hst hnl;clear hds htk;obtain⟨x0,x1,x2,x3,x4,x5,x6⟩:=r1;have x0:=HR.out.2.1.cell x0 (by simp);have x1:=HR.out.2.1.cell x1 (by simp);have x2:=HR.out.2.1.cell x2 (by simp);have x3:=HR.out.2.1.cell x3 (by simp);have x4:=HR.out.2.1.cell x4 (by simp);have x5:=HR.out.2.1.cell x5 (by simp);have x6:=HR.out.2.1.cell x6 (by simp);by_cases hx:to<x.x
  {
  have d1:decide (x.x>to)=true:=qO hx;rw[qI hx]at hst;have hno:no=ds.length:=HR.out.2.2.2;have hno2:no<=16384:=by omega
  have hown:World.ownsRow (wr.alloc (.cells #[.int .i64 x.slot,.int .u64 x.seq,.int .u64 x.u,.int .u64 x.v,.int .i64 x.wt,.int .i64 x.t,.int .i64 x.x] 45)) 0 45 7 (.slice ao no co) no (rowV ds):=by {
  have:=HR.out.1.fr0 ((Fr.refl [] wr).alloc (.cells #[.int .i64 x.slot,.int .u64 x.seq,.int .u64 x.u,.int .u64 x.v,.int .i64 x.wt,.int .i64 x.t,.int .i64 x.x] 45));unfold aS at this;rw[<-hno]at this;exact this};have HOwn:=qB hown;have Hst:=qB (zR hst hno);clear hst hno hown hnl hx;go_wp2_with (at_builtin;refine iD rfl _ _ 37 rfl 45 oS 7 56 (by kernel_rfl) (by kernel_rfl) rfl (by decide) (.slice ao no co) no (rowV ds) rfl HOwn.out wr.heap.size 45 [.int .i64 x.slot,.int .u64 x.seq,.int .u64 x.u,.int .u64 x.v,.int .i64 x.wt,.int .i64 x.t,.int .i64 x.x] rfl (Blk.new wr _ _) rfl (by simp[Value.oneCell']) (by omega) (by decide) ?_;intro g cap w4 hown4 hgrow4 hg4)
  have HN:Hid (aS w4 (.slice (some ⟨g,0,none⟩) (no+1) cap) ((l.take (i+1)).filter fun e=>decide (to<e.x))/\Fr [] w w4/\(∀q,(Value.slice (some ⟨g,0,none⟩) (no+1) cap).ownBlock=some q->w.heap.size<=q)/\no+1=((l.take (i+1)).filter fun e=>decide (to<e.x)).length):=qB (by
    rw[Hst.out.1];have hs:=HR.out.2.1.size;refine⟨?_,(HR.out.2.1.alloc _).grown hgrow4 (fun k e=>.inr (HR.out.2.2.1 k e)),fun q hq=>?_,by rw[zO,Hst.out.2];rfl⟩
    · unfold aS
      rw[zO,<-Hst.out.2,rZ];exact hown4
    · have e : g = q := by simpa [Value.ownBlock] using hq
      subst e;rcases hg4 with e|e
      · exact HR.out.2.2.1 g e
      · simp at e;omega)
  clear hown4 hgrow4 hg4 HOwn x0 x1 x2 x3 x4 x5 x6;go_wp2_with fail
  go_roundw
  case rel=>exact⟨i+1,_,_,_,by omega,rfl,by go_num,HN⟩
  case measure=>simp[intOf];omega}
  {
  have d1:decide (x.x>to)=false:=qK (by omega);rw[qH hx,List.append_nil]at hst;have HN:Hid (aS wr (.slice ao no co) ((l.take (i+1)).filter fun e=>decide (to<e.x))/\Fr [] w wr/\(∀q,(Value.slice ao no co).ownBlock=some q->w.heap.size<=q)/\no=((l.take (i+1)).filter fun e=>decide (to<e.x)).length):=qB (by
    rw[hst];exact HR.out)
  clear hst hnl hx HR;go_wp2_with fail
  go_roundw
  case rel=>exact⟨i+1,_,_,_,by omega,rfl,by go_num,HN⟩
  case measure=>simp[intOf];omega}}
  {
  obtain rfl:i=l.length:=by omega
  go_wp2
  go_ret;have:=HR.out;rw[List.take_length]at this;exact⟨_,rfl,this.1,this.2.1,this.2.2.1⟩}
def wd(x:Nat):Nat->Nat
  | 0=>x%4294967296
  | 1=>x/4294967296
  | _=>0
def wdC(x:Nat):List Value:=[.int .u64 (wd x 0:Nat),.int .u64 (wd x 1:Nat),.int .u64 0,.int .u64 0,.int .u64 0,.int .u64 0]
theorem aRI(x:Nat){i:Nat}(hi:i<6):(wdC x)[i]? =some (.int .u64 (wd x i:Nat)):=by
 match i,hi with
 | 0,_=>rfl
 | 1,_=>rfl
 | 2,_=>rfl
 | 3,_=>rfl
 | 4,_=>rfl
 | 5,_=>rfl
def cry(x y:Nat):Nat->Nat
  | 0=>0
  | i+1=>(wd x i+wd y i+cry x y i)/4294967296
def dig(x y i:Nat):Nat:=(wd x i+wd y i+cry x y i)%4294967296
def wR(x y i:Nat):List Value:=(List.range 6).map fun j=>.int .u64 ((if j<i then dig x y j else 0:Nat):Int)
theorem aRJ(x y:Nat){i:Nat}(hi:i<6):(wR x y i).set i (.int .u64 (dig x y i:Nat))=wR x y (i+1):=by
 match i,hi with
 | 0,_=>rfl
 | 1,_=>rfl
 | 2,_=>rfl
 | 3,_=>rfl
 | 4,_=>rfl
 | 5,_=>rfl
theorem aRK(x y i:Nat):(wR x y i).length=6:=by simp[wR]
theorem aAF{x:Nat}(hx:x<=9223372036854775807)(i:Nat):wd x i<4294967296:=by
 match i with
 | 0=>exact Nat.mod_lt _ (by omega)
 | 1=>show x/4294967296<_;omega
 | n+2=>show 0<_;omega
theorem aRL{x y:Nat}(hx:x<=9223372036854775807)(hy:y<=9223372036854775807):∀i,cry x y i<=1
  | 0=>zB _
  | i+1=>by
    have h1:=aAF hx i;have h2:=aAF hy i;have h3:=aRL hx hy i;show(wd x i+wd y i+cry x y i)/4294967296<=1
    omega
theorem aWH{x y:Nat}(hx:x<=9223372036854775807)(hy:y<=9223372036854775807):dig x y 1*4294967296+dig x y 0=x+y/\dig x y 2=0/\dig x y 3=0/\dig x y 4=0/\dig x y 5=0:=by
 have e0:cry x y 1=(x%4294967296+y%4294967296+0)/4294967296:=rfl;have d0:dig x y 0=(x%4294967296+y%4294967296+0)%4294967296:=rfl;have d1:dig x y 1=(x/4294967296+y/4294967296+cry x y 1)%4294967296:=rfl;have e1:cry x y 2=(x/4294967296+y/4294967296+cry x y 1)/4294967296:=rfl;have h2:cry x y 2=0:=by rw[e1,e0];omega
 have h3:cry x y 3=0:=by show(0+0+cry x y 2)/4294967296=0;rw[h2]
 have h4:cry x y 4=0:=by show(0+0+cry x y 3)/4294967296=0;rw[h3]
 have h5:cry x y 5=0:=by show(0+0+cry x y 4)/4294967296=0;rw[h4]
 refine⟨by rw[d1,d0,e0];omega,?_,?_,?_,?_⟩
 · show(0+0+cry x y 2)%4294967296=0;rw[h2]
 · show(0+0+cry x y 3)%4294967296=0;rw[h3]
 · show(0+0+cry x y 4)%4294967296=0;rw[h4]
 · show(0+0+cry x y 5)%4294967296=0;rw[h5]
theorem bAP{x y:Nat}(hx:x<=9223372036854775807)(hy:y<=9223372036854775807)(w:World):
    Calls Tryz.prog 169 #[.agg (wdC x).toArray,.agg (wdC y).toArray] w fun e w' =>e=.returned (.agg (wR x y 6).toArray)/\Fr [] w w' :=by
 have key:Calls Tryz.prog 169 #[.agg #[.int .u64 (wd x 0:Nat),.int .u64 (wd x 1:Nat),.int .u64 0,.int .u64 0,.int .u64 0,.int .u64 0],.agg #[.int .u64 (wd y 0:Nat),.int .u64 (wd y 1:Nat),.int .u64 0,.int .u64 0,.int .u64 0,.int .u64 0]] w fun e w' =>e=.returned (.agg (wR x y 6).toArray)/\Fr [] w w' :=by {
 obtain⟨w0,hw0⟩:∃w0,w0=(((w.alloc (.cells #[.int .u64 (wd x 0:Nat),.int .u64 (wd x 1:Nat),.int .u64 0,.int .u64 0,.int .u64 0,.int .u64 0] 183)).alloc (.cells #[.int .u64 (wd y 0:Nat),.int .u64 (wd y 1:Nat),.int .u64 0,.int .u64 0,.int .u64 0,.int .u64 0] 183)).alloc (.cells #[.int .u64 0,.int .u64 0,.int .u64 0,.int .u64 0,.int .u64 0,.int .u64 0] 183)).alloc (.cells #[.int .u64 0,.int .u64 0,.int .u64 0,.int .u64 0,.int .u64 0,.int .u64 0] 183):=⟨_,rfl⟩;have ha:Blk w0 w.heap.size 183 (wdC x):=by rw[hw0];exact(((Blk.new w (wdC x) _).alloc _).alloc _).alloc _
 have hb:Blk w0 (w.heap.size+1) 183 (wdC y):=by {
 rw[hw0];have:=((Blk.new (w.alloc (.cells #[.int .u64 (wd x 0:Nat),.int .u64 (wd x 1:Nat),.int .u64 0,.int .u64 0,.int .u64 0,.int .u64 0] 183)) (wdC y) 183).alloc (.cells #[.int .u64 0,.int .u64 0,.int .u64 0,.int .u64 0,.int .u64 0,.int .u64 0] 183)).alloc (.cells #[.int .u64 0,.int .u64 0,.int .u64 0,.int .u64 0,.int .u64 0,.int .u64 0] 183);simp only[World.size_alloc]at this;exact this};have hr:Blk w0 (w.heap.size+1+1) 183 [.int .u64 0,.int .u64 0,.int .u64 0,.int .u64 0,.int .u64 0,.int .u64 0]:=by {
 rw[hw0];have:=(Blk.new ((w.alloc (.cells #[.int .u64 (wd x 0:Nat),.int .u64 (wd x 1:Nat),.int .u64 0,.int .u64 0,.int .u64 0,.int .u64 0] 183)).alloc (.cells #[.int .u64 (wd y 0:Nat),.int .u64 (wd y 1:Nat),.int .u64 0,.int .u64 0,.int .u64 0,.int .u64 0] 183)) [.int .u64 0,.int .u64 0,.int .u64 0,.int .u64 0,.int .u64 0,.int .u64 0] 183).alloc (.cells #[.int .u64 0,.int .u64 0,.int .u64 0,.int .u64 0,.int .u64 0,.int .u64 0] 183);simp only[World.size_alloc]at this;exact this};have ho:Blk w0 (w.heap.size+1+1+1) 183 (wR x y 0):=by {
 rw[hw0];have:=Blk.new (((w.alloc (.cells #[.int .u64 (wd x 0:Nat),.int .u64 (wd x 1:Nat),.int .u64 0,.int .u64 0,.int .u64 0,.int .u64 0] 183)).alloc (.cells #[.int .u64 (wd y 0:Nat),.int .u64 (wd y 1:Nat),.int .u64 0,.int .u64 0,.int .u64 0,.int .u64 0] 183)).alloc (.cells #[.int .u64 0,.int .u64 0,.int .u64 0,.int .u64 0,.int .u64 0,.int .u64 0] 183)) (wR x y 0) 183;simp only[World.size_alloc]at this;exact this};have hF0:Fr [] w w0:=by rw[hw0];exact((((Fr.refl [] w).alloc _).alloc _).alloc _).alloc _
 obtain⟨ba,hba⟩:∃ba,ba=w.heap.size:=⟨_,rfl⟩;have HW0:=qB hw0;go_enter Tryz.func169,Tryz.ntmps169
 clear hw0;go_wp2
 rw[<-HW0.out,<-hba];rw[<-hba]at ha hb hr ho;have HA:=qB (zR ha (zR hb (zR hr (zR hF0 hba))));clear ha hb hr hF0 hba HW0;go_loopw [6,7] (fun c1 c2 wr=>∃(i:Nat),i<=6/\c1=.int .u64 (cry x y i:Nat)/\c2=.int .i64 i/\Hid (Blk wr (ba+1+1+1) 183 (wR x y i)/\Fr [ba+1+1+1] w0 wr)) (fun _ c _=>6-(intOf c).toNat)
 case atStart=>exact⟨0,by omega,rfl,rfl,qB ⟨ho,Fr.refl _ _⟩⟩
 case round=>
  obtain⟨i,hi,rfl,rfl,HR⟩:=hrel;clear ho;rename World=>wr
  by_cases hi6:i<6
  {
  have hii:(i:Int)<6:=by omega
  have hi0:(0:Int)<=i:=by omega
  have ca:=(HR.out.2.blk HA.out.1 (by simp;omega)).cell i;have cb:=(HR.out.2.blk HA.out.2.1 (by simp)).cell i;rw[aRI x hi6]at ca;rw[aRI y hi6]at cb;have l1:=aAF hx i;have l2:=aAF hy i;have l3:=aRL hx hy i;have hset:=aRJ x y hi6;have hcs:cry x y (i+1)=(wd x i+wd y i+cry x y i)/4294967296:=rfl;have hdg:dig x y i=(wd x i+wd y i+cry x y i)%4294967296:=rfl;rw[hdg]at hset;clear hdg;have Hset:=qB (zR hset hcs);clear hset hcs;generalize wd x i=a at *;generalize wd y i=b at *;generalize cry x y i=c at *;have hw1:IntKind.u64.wrap ((a:Int)+b)=((a+b:Nat):Int):=by simp[IntKind.wrap,IntKind.bits,IntKind.signed];omega
  have hw2:IntKind.u64.wrap (((a+b:Nat):Int)+c)=((a+b+c:Nat):Int):=by simp[IntKind.wrap,IntKind.bits,IntKind.signed];omega
  obtain⟨s,hs⟩:∃s,s=a+b+c:=⟨_,rfl⟩;have hw0:IntKind.u64.wrap ((a:Int)+b+c)=(s:Int):=by rw[hs];simp[IntKind.wrap,IntKind.bits,IntKind.signed];omega
  have hsl:s<=8589934592:=by omega
  rw[<-hs]at hw2 Hset;have hw3:IntKind.u64.wrap ((s:Int).tmod 4294967296)=((s%4294967296:Nat):Int):=by rw[Int.tmod_eq_emod_of_nonneg (by omega)];simp[IntKind.wrap,IntKind.bits,IntKind.signed];omega
  have hw4:IntKind.u64.wrap ((s:Int).tdiv 4294967296)=((s/4294967296:Nat):Int):=by rw[Int.tdiv_eq_ediv_of_nonneg (by omega)];simp[IntKind.wrap,IntKind.bits,IntKind.signed];omega
  have hm3:((s:Int)%4294967296)=((s%4294967296:Nat):Int):=by omega
  have hm4:((s:Int)/4294967296)=((s/4294967296:Nat):Int):=by omega
  have ht3:(s:Int).tmod 4294967296=((s%4294967296:Nat):Int):=by rw[Int.tmod_eq_emod_of_nonneg (by omega)];omega
  have ht4:(s:Int).tdiv 4294967296=((s/4294967296:Nat):Int):=by rw[Int.tdiv_eq_ediv_of_nonneg (by omega)];omega
  clear hs l1 l2 l3;obtain⟨d,hd⟩:∃d,d=s%4294967296:=⟨_,rfl⟩;obtain⟨k,hk⟩:∃k,k=s/4294967296:=⟨_,rfl⟩;rw[<-hd]at hw3 hm3 ht3 Hset;rw[<-hk]at hw4 hm4 ht4 Hset;clear hd hk;go_wp2
  go_quiet (fail)
  have HR2:=qB (zR (HR.out.1.drewN nq) (HR.out.2.drewN nq));have co:=HR2.out.1.cell i;have fo:=HR2.out.1.frozen i;have hex:∃u,(wR x y i)[i]? =some u:=⟨_,qT (by rw[aRK];exact hi6)⟩;obtain⟨u,hu⟩:=hex;rw[hu]at co;clear hu ca cb HR;generalize wr.drewN nq=ws at *;go_wp2_with fail
  go_roundw
  case rel=>
   refine⟨i+1,by omega,by rw[Hset.out.2],by go_num,qB ⟨?_,HR2.out.2.setCell _ _ (.inl (by simp))⟩⟩;rw[<-Hset.out.1];exact HR2.out.1.set i _
  case measure=>simp[intOf];omega}
  {
  obtain rfl:i=6:=by omega
  have hb6:=HR.out.1;have o0:=hb6.cell 0;have o1:=hb6.cell 1;have o2:=hb6.cell 2;have o3:=hb6.cell 3;have o4:=hb6.cell 4;have o5:=hb6.cell 5;have hrr:=HR.out.2.blk HA.out.2.2.1 (by simp);have r0:=hrr.cell 0;have r1:=hrr.cell 1;have r2:=hrr.cell 2;have r3:=hrr.cell 3;have r4:=hrr.cell 4;have r5:=hrr.cell 5;have f0:=hrr.frozen 0;have f1:=hrr.frozen 1;have f2:=hrr.frozen 2;have f3:=hrr.frozen 3;have f4:=hrr.frozen 4;have f5:=hrr.frozen 5;have d0:wR x y 6=[.int .u64 (dig x y 0:Nat),.int .u64 (dig x y 1:Nat),.int .u64 (dig x y 2:Nat),.int .u64 (dig x y 3:Nat),.int .u64 (dig x y 4:Nat),.int .u64 (dig x y 5:Nat)]:=rfl;rw[d0]at o0 o1 o2 o3 o4 o5;simp only[zS,zT]at o0 o1 o2 o3 o4 o5 r0 r1 r2 r3 r4 r5;have hs0:=((((((hrr.set 0 (.int .u64 (dig x y 0:Nat))).set 1 (.int .u64 (dig x y 1:Nat))).set 2 (.int .u64 (dig x y 2:Nat))).set 3 (.int .u64 (dig x y 3:Nat))).set 4 (.int .u64 (dig x y 4:Nat))).set 5 (.int .u64 (dig x y 5:Nat)));have s0:=hs0.cell 0;have s1:=hs0.cell 1;have s2:=hs0.cell 2;have s3:=hs0.cell 3;have s4:=hs0.cell 4;have s5:=hs0.cell 5;simp only[zS,zT,zH,zD]at s0 s1 s2 s3 s4 s5;have hFe:Fr [] w wr:=HA.out.2.2.2.1.trans HR.out.2 (fun b hb=>.inr (by rw[qP.1 hb,<-HA.out.2.2.2.2];omega));have hbl:∀v:Value,∀i w', Fr [] w w' -> Fr [] w (w'.setCell ⟨ba+1+1,i,none⟩ v):=fun v i w' h=>h.setCell _ _ (.inr (by rw[<-HA.out.2.2.2.2];show ba<=ba+1+1;omega));have HFe:=qB (hbl (.int .u64 (dig x y 5:Nat)) 5 _ (hbl (.int .u64 (dig x y 4:Nat)) 4 _ (hbl (.int .u64 (dig x y 3:Nat)) 3 _ (hbl (.int .u64 (dig x y 2:Nat)) 2 _ (hbl (.int .u64 (dig x y 1:Nat)) 1 _ (hbl (.int .u64 (dig x y 0:Nat)) 0 _ hFe))))));clear hb6 hrr d0 hs0 hFe hbl HR HA;go_wp2
  exact bodyPost_ret (v:=.agg #[.int .u64 (dig x y 0:Nat),.int .u64 (dig x y 1:Nat),.int .u64 (dig x y 2:Nat),.int .u64 (dig x y 3:Nat),.int .u64 (dig x y 4:Nat),.int .u64 (dig x y 5:Nat)]) (by simp[results,Tryz.results169,go_sem,s0,s1,s2,s3,s4,s5]) rfl ⟨rfl,HFe.out⟩}};exact key
section
variable {P:Program} {ops:Array Oper} {md:Region.Mode} (G:Nat->Sem Go.Next->Value->Prop) (must:Nat->Bool)
def sOp(ops:Array Oper)(i:Nat)(K:Act->Prop)(a:Act):Prop:=
  match ops[i]? with
  | none=>K a
  | some o=>if Region.wanted o (yielded ops a.tmps) then ∃v,G i (execOp a.eval o) v/\K (a.put o.dst v) else must i=false/\K (a.put o.dst undef)
def wS(ops:Array Oper)(Q:Act->Prop):Nat->List Oper->Act->Prop
  | _,[],a=>Q a
  | k,o::rest,a=>if Region.wanted o (yielded ops a.tmps) then ∃v,G k (execOp a.eval o) v/\wS ops Q (k+1) rest (a.put o.dst v) else must k=false/\wS ops Q (k+1) rest (a.put o.dst undef)
def aMK(md:Region.Mode)(ops:Array Oper)(Q:Act->Prop):Nat->Array Bool->Act->Prop
  | 0,listed,a=>Region.ready md ops listed=[]/\Q a
  | fuel+1,listed,a=>
    (Region.ready md ops listed=[]->Q a)/\∀i∈Region.ready md ops listed,sOp G must ops i (aMK md ops Q fuel (listed.setIfInBounds i true)) a
variable {G must}
def fM(G:Nat->Sem Go.Next->Value->Prop)(must:Nat->Bool)(ops:Array Oper)(i:Nat)(o:Oper)(v:Value)(a:Act):Prop:=
  (Region.wanted o (yielded ops a.tmps)=true/\G i (execOp a.eval o) v)∨(Region.wanted o (yielded ops a.tmps)=false/\must i=false/\v=undef)
theorem fM.op{i:Nat}{o:Oper}{v:Value}{a:Act}(hi:ops[i]? =some o)(hy:fM G must ops i o v a){K:Act->Prop}(h:K (a.put o.dst v)):sOp G must ops i K a:=by
 unfold sOp;simp only[hi];rcases hy with⟨hw,hv⟩|⟨hw,hm,rfl⟩
 · rw[qI hw];exact⟨v,hv,h⟩
 · rw[qH (by simp[hw])];exact⟨hm,h⟩
theorem fM.same{i:Nat}{o:Oper}{v:Value}{a a' :Act}(hy:fM G must ops i o v a)(he:execOp a'.eval o=execOp a.eval o)
    (hw:Region.wanted o (yielded ops a'.tmps)=Region.wanted o (yielded ops a.tmps)):fM G must ops i o v a' :=by
 unfold fM at *;rw[he,hw];exact hy
theorem aRM{i:Nat}{a:Act}{K K' :Act->Prop}(h:∀a,K a->K' a)(hh:sOp G must ops i K a):sOp G must ops i K' a:=by
 unfold sOp at *;cases ho:ops[i]? with
 | none=>simp only[ho]at hh ⊢;exact h _ hh
 | some o=>{
 simp only[ho]at hh ⊢;by_cases hw:Region.wanted o (yielded ops a.tmps)=true
 · rw[qI hw]at *;obtain⟨v,h1,h2⟩:=hh;exact⟨v,h1,h _ h2⟩
 · rw[qH hw]at *;exact⟨hh.1,h _ hh.2⟩}
theorem xS{i:Nat}{o:Oper}{a:Act}{K:Act->Prop}(hi:ops[i]? =some o)(h:sOp G must ops i K a):∃v,fM G must ops i o v a/\K (a.put o.dst v):=by
 unfold sOp at h;simp only[hi]at h;by_cases hw:Region.wanted o (yielded ops a.tmps)=true
 {
 rw[qI hw]at h;obtain⟨v,h1,h2⟩:=h;exact⟨v,.inl ⟨hw,h1⟩,h2⟩}
 {
 rw[qH hw]at h;exact⟨undef,.inr ⟨by simpa using hw,h.1,rfl⟩,h.2⟩}
theorem aWI{i j:Nat}{oi oj:Oper}{v:Value}(hj:ops[j]? =some oj)(hap:oi.apart ops oj=true)
    (hsi:∀cs b,oi.op≠.select cs b) (hsj:∀cs b,oj.op≠.select cs b) {K:Act->Prop} {a:Act}
    (hy:fM G must ops i oi v a) (h:sOp G must ops j K (a.put oi.dst v)):
    sOp G must ops j (fun a' =>fM G must ops i oi v a' /\ K (a'.put oi.dst v)) a:=by
 obtain⟨h1,h2,h3⟩:=Oper.apart_spec hap;have keep:∀(a:Act),fM G must ops i oi v a->∀u,fM G must ops i oi v (a.put oj.dst u):=fun a hy u=>
   hy.same (execOp_put oi hsi a oj.dst u h3) (wanted_put oi a oj.dst u h3)
 unfold sOp at *;simp only[hj]at *;rw[wanted_put oj a oi.dst v h1]at h;by_cases hw:Region.wanted oj (yielded ops a.tmps)=true
 {
 rw[qI hw]at *;obtain⟨u,hu,hn⟩:=h;rw[execOp_put oj hsj a oi.dst v h1]at hu;exact⟨u,hu,keep a hy u,by rw[<-Act.put_comm a v u h2];exact hn⟩}
 {
 rw[qH hw]at *;exact⟨h.1,keep a hy _,by rw[<-Act.put_comm a v undef h2];exact h.2⟩}
theorem aHR{Q:Act->Prop}{i:Nat}{oi:Oper}{v:Value}(hi:ops[i]? =some oi)(hsel:∀(j:Nat) (o:Oper) cs b,ops[j]? =some o->o.op≠.select cs b):
    ∀(fuel:Nat) (listed:Array Bool) (a:Act),
      (∀j oj,ops[j]? =some oj->j≠i->listed.getD j true=false->(∀e∈oj.after,Region.binds md e=true->e.on≠i)->oi.apart ops oj=true) ->
      i∈Region.ready md ops listed->fM G must ops i oi v a ->
      aMK G must md ops Q fuel (listed.setIfInBounds i true) (a.put oi.dst v)->aMK G must md ops Q (fuel+1) listed a:=by
  intro fuel;induction fuel with
  | zero=>
    intro listed a _ hr hy H;refine⟨fun h=>(by rw[h]at hr;cases hr),fun j hj=>?_⟩;by_cases hji:j=i
    · subst hji;exact hy.op hi H
    · have := ready_mono hj hji
      rw[H.1]at this;cases this
  | succ fuel ih=>
    intro listed a hfree hr hy H;refine⟨fun h=>(by rw[h]at hr;cases hr),fun j hj=>?_⟩;by_cases hji:j=i
    · subst hji;exact hy.op hi H
    · have h1 := H.2 j (ready_mono hj hji)
      obtain⟨hjun,oj,hoj,hall⟩:=mem_ready.1 hj;have hnot:∀e∈oj.after,Region.binds md e=true->e.on≠i:=fun e he hb heq=>by
        have h1:=hall e he hb;have h0:=(mem_ready.1 hr).1;rw[heq]at h1;rcases Nat.lt_or_ge i listed.size with h' | h'
        · simp[h']at h0 h1;rw[h0]at h1;cases h1
        · simp[Array.getElem?_eq_none h']at h1
      have h2:=aWI hoj (hfree j oj hoj hji hjun hnot) (fun cs b=>hsel i oi cs b hi) (fun cs b=>hsel j oj cs b hoj) hy h1
      have hfree' :∀k ok,ops[k]? =some ok->k≠i->(listed.setIfInBounds j true).getD k true=false ->
          (∀e∈ok.after,Region.binds md e=true->e.on≠i)->oi.apart ops ok=true:=fun k ok hk hki hun hno=>by
        refine hfree k ok hk hki ?_ hno;by_cases hjk:j=k
        · subst hjk;exact hjun
        · rw[getD_set_ne true hjk]at hun;exact hun
      refine aRM (fun a' h3=>ih (listed.setIfInBounds j true) a' hfree' (ready_mono hr (Ne.symm hji)) h3.1 ?_) h2;rw[Array.setIfInBounds_comm _ _ hji];exact h3.2
theorem aFC{Q:Act->Prop}(hs:Region.noSelect ops=true):∀(l:List Oper) (k:Nat) (listed:Array Bool) (a:Act),(∀j,l[j]? =ops[k+j]?) ->
    Region.lexFrom md ops l.length k listed=true->wS G must ops Q k l a->aMK G must md ops Q l.length listed a
  | [],_,_,_,_,hB,h=>⟨by simpa[Region.lexFrom] using hB,h⟩
  | o::l,k,listed,a,hl,hB,h=>by
    have h0:ops[k]? =some o:=by simpa using (hl 0).symm
    simp only[zI,Region.lexFrom,zG]at hB;obtain⟨⟨hr,hf⟩,hB'⟩:=hB;have hst:sOp G must ops k (wS G must ops Q (k+1) l) a:=by unfold sOp;simp only[h0];exact h
    obtain⟨v,hy,hK⟩:=xS h0 hst
    exact aHR h0 (Region.noSelect_spec hs) l.length listed a (Region.free_spec h0 hf) (by simpa using hr) hy
      (aFC hs l (k+1) _ _ (fun j=>by have:=hl (j+1);simpa[Nat.add_assoc,Nat.add_comm 1 j] using this) hB' hK)
end
def aFD(P:Program)(cs:List Nat)(C:Nat->World->Prop)(i:Nat)(s:Sem Go.Next)(v:Value):Prop:=
  if i∈cs then ∀w,C (cs.idxOf i) w->fB P (C (cs.idxOf i+1)) v (s.run P w) else ∀q w,C q w->Oper.quietUpon P (C q) w v (s.run P w)
section
variable {P:Program} {ops:Array Oper} {md:Region.Mode} {C:Nat->World->Prop} {cs:List Nat}
theorem aFE(hrow:tN md ops cs=true)(hb:fU md ops=true){Q:Act->Prop}{Q' :Exit->Act->World->Prop}(hQ:∀a w,C cs.length w->Q a->Q' .normal a w):∀(fuel:Nat) (listed:Array Bool) (a:Act) (w:World),listed.size=ops.size ->
    tF md ops listed->C (cnt cs listed) w->aMK (aFD P cs C) (fun i=>decide (i∈cs)) md ops Q fuel listed a->wpAny P md ops Q' fuel listed a w:=by
 have hend:∀listed:Array Bool,listed.size=ops.size->Region.ready md ops listed=[]->cnt cs listed=cs.length:=by {
 intro listed hs h0;unfold cnt;rw[List.countP_eq_length];intro c hc;exact kA hs hb h0 c (aGH hrow c hc)};have hnd:cs.Nodup:=(lD hrow).imp (fun h=>Nat.ne_of_lt h);intro fuel;induction fuel with
 | zero=>{
 intro listed a w hs _ hp h;exact⟨h.1,hQ _ _ (by rw[hend listed hs h.1]at hp;exact hp) h.2⟩}
 | succ fuel ih=>{
 intro listed a w hs hsh hp h;refine⟨fun h0=>hQ _ _ (by rw[hend listed hs h0]at hp;exact hp) (h.1 h0),fun i hi=>?_⟩;have hg:=h.2 i hi;obtain⟨hun,oi,hoi,_⟩:=mem_ready.1 hi;have hil:i<ops.size:=(qU.1 hoi).1;have hs' :(listed.setIfInBounds i true).size=ops.size:=by simp[hs]
 have hl0:listed.getD i false=false:=by simp[hs,hil]at hun ⊢;exact hun
 have next:∀a' w', C (cnt cs (listed.setIfInBounds i true)) w' -> aMK (aFD P cs C) (fun i=>decide (i∈cs)) md ops Q fuel (listed.setIfInBounds i true) a' -> wpAny P md ops Q' fuel (listed.setIfInBounds i true) a' w' :=
   fun a' w' hp' hg' =>ih _ a' w' hs' (hsh.set hi) hp' hg'
 unfold sOp at hg;unfold wpOp;simp only[hoi]at hg ⊢;by_cases hmem:i∈cs
 {
 have hcs:=aIF (L:=listed) (by omega) hl0 hnd hmem;have hidx:cs.idxOf i=cnt cs listed:=by {
 have hlt:=List.idxOf_lt_length_of_mem hmem;have hget:cs[cs.idxOf i]? =some i:=by rw[qT hlt,List.getElem_idxOf]
 have h1:=gS hsh hrow _ _ hget;rw[hl0]at h1;have hge:cnt cs listed<=cs.idxOf i:=by {
 apply qZ;intro hx;have:=h1.2 (by omega);cases this};have h2:=gS (hsh.set hi) hrow _ _ hget;rw[hcs]at h2;have h3:(listed.setIfInBounds i true).getD i false=true:=by simp[hs,hil]
 have:=h2.1 h3;omega};by_cases hw:Region.wanted oi (yielded ops a.tmps)=true
 {
 rw[qI hw]at hg ⊢;obtain⟨v,hv,hk⟩:=hg;unfold aFD at hv;rw[qI hmem,hidx]at hv;exact .inl (oO (fun w' hc' =>next _ w' (by rw[hcs];exact hc') hk) (hv w hp))}
 {
 rw[qH hw]at hg;exact absurd hmem (of_decide_eq_false hg.1)}}
 {
 have hcs:=yH (L:=listed) hmem;by_cases hw:Region.wanted oi (yielded ops a.tmps)=true
 {
 rw[qI hw]at hg ⊢;obtain⟨v,hv,hk⟩:=hg;unfold aFD at hv;left
 rw[qH hmem]at hv;exact oN hp (fun w' hc' =>next _ w' (by rw[hcs];exact hc') hk) (hv _ w hp)}
 {
 rw[qH hw]at hg ⊢;exact next _ w (by rw[hcs];exact hp) hg.2}}}
structure SW (P:Program) (ops:Array Oper) (cs:List Nat) (C:Nat->World->Prop) (Q:Act->Prop) (k:Nat) (l:List Oper) (a:Act):Prop where
  out:wS (aFD P cs C) (fun i=>decide (i∈cs)) ops Q k l a
theorem aML(cs:List Nat){id:Nat}{Q:Exit->Act->World->Prop}{a:Act}{w:World}{l:List Oper}(C:Nat->World->Prop)(hm:P.follows .mixedOrders=true)(hB:Region.lexB .any l.toArray=true)(hk:(fU .any l.toArray&&tN .any l.toArray cs)=true)
    (hC:C 0 w.drew) (h:SW P l.toArray cs C (fun a' =>∀w', C cs.length w' -> Q .normal a' w') 0 l a):(Code.region id l.toArray true).wp P Q a w:=by
 simp only[Region.lexB,zG]at hB;rw[zG]at hk;refine wp_region_any hm (aFE (Q:=fun a' =>∀w', C cs.length w' -> Q .normal a' w') (C:=C) (cs:=cs) hk.2 hk.1 (fun _ w' hw' h=>h w' hw') _ _ _ _ (by simp) ?_ ?_ ?_)
 · intro j oj _ hl;rw[eE]at hl;cases hl
 {
 have:cnt cs (Array.replicate l.toArray.size false)=0:=by unfold cnt;rw[List.countP_eq_zero];intro c _;rw[eE];simp
 rw[this];exact hC}
 {
 have:=aFC (G:=aFD P cs C) (must:=fun i=>decide (i∈cs)) (md:=.any) hB.1 l 0 (Array.replicate l.toArray.size false) a (by simp) (by simpa using hB.2) h.out;simpa using this}
variable {Q:Act->Prop} {k:Nat} {o:Oper} {rest:List Oper} {a:Act}
theorem wT(hk:decide (k∈cs)=false)(hw:Region.wanted o (yielded ops a.tmps)=true)(v:Value)
    (h0:∀q w,C q w->Oper.quietUpon P (C q) w v ((execOp a.eval o).run P w)) (h:SW P ops cs C Q (k+1) rest (a.put o.dst v)):SW P ops cs C Q k (o::rest) a:=by
 refine⟨?_⟩;unfold wS;rw[qI hw];refine⟨v,?_,h.out⟩;unfold aFD;rw[qH (of_decide_eq_false hk)];exact h0
theorem tX(hk:decide (k∈cs)=false)(hw:Region.wanted o (yielded ops a.tmps)=true)
    (h:∀K:Act->Prop,Hid (∀a,SW P ops cs C Q (k+1) rest a->K a)->Oper.pure_ P o a K):SW P ops cs C Q k (o::rest) a:=by
 obtain⟨v,h1,h2⟩:=h _ (qB fun a h=>h);refine wT hk hw v (fun q w _=>?_) h2;have:=h1 w;unfold Oper.quietUpon;unfold Oper.quietAt at *;revert this;generalize (execOp a.eval o).run P w=r;intro this;cases r with
 | halt x w' =>exact this.elim
 | ok x w' =>{
 cases x with
 | value u=>exact⟨this.1,this.2⟩
 | skip=>exact⟨this.1,this.2⟩
 | _=>exact this.elim}
theorem aWJ(q:Nat)(hk:(decide (k∈cs)&&decide (cs.idxOf k=q))=true)(hw:Region.wanted o (yielded ops a.tmps)=true)(v:Value)
    (h0:∀w,C q w->fB P (C (q+1)) v ((execOp a.eval o).run P w)) (h:SW P ops cs C Q (k+1) rest (a.put o.dst v)):SW P ops cs C Q k (o::rest) a:=by
 rw[zG]at hk;refine⟨?_⟩;unfold wS;rw[qI hw];refine⟨v,?_,h.out⟩;unfold aFD;rw[qI (of_decide_eq_true hk.1),of_decide_eq_true hk.2];exact h0
theorem bAQ(h:Q a):SW P ops cs C Q k [] a:=⟨h⟩
end
theorem aRN{x:Nat}(hx:x<=9223372036854775807)(w:World):
    Calls Tryz.prog 131 #[.int .i64 x] w fun e w' =>e=.returned (.agg #[.bool false,.int .u64 (wd x 0:Nat),.int .u64 (wd x 1:Nat),.int .u64 0,.int .u64 0,.int .u64 0,.int .u64 0])/\Fr [] w w' :=by
 have hw1:IntKind.u64.wrap (x:Int)=x:=by simp[IntKind.wrap,IntKind.bits,IntKind.signed];omega
 have hd0:decide ((x:Int)<0)=false:=qK (by omega);have ht3:(x:Int).tmod 4294967296=((wd x 0:Nat):Int):=by rw[Int.tmod_eq_emod_of_nonneg (by omega)];show _=((x%4294967296:Nat):Int);omega
 have ht4:(x:Int).tdiv 4294967296=((wd x 1:Nat):Int):=by rw[Int.tdiv_eq_ediv_of_nonneg (by omega)];show _=((x/4294967296:Nat):Int);omega
 have h0:=aAF hx 0;have h1:=aAF hx 1;have hm3:(x:Int)%4294967296=((wd x 0:Nat):Int):=by show _=((x%4294967296:Nat):Int);omega
 have hm4:(x:Int)/4294967296=((wd x 1:Nat):Int):=by show _=((x/4294967296:Nat):Int);omega
 generalize wd x 0=a at *;generalize wd x 1=b at *;have hw3:IntKind.u64.wrap (a:Int)=a:=by simp[IntKind.wrap,IntKind.bits,IntKind.signed];omega
 have hw4:IntKind.u64.wrap (b:Int)=b:=by simp[IntKind.wrap,IntKind.bits,IntKind.signed];omega
 clear h0 h1;go_enter Tryz.func131,Tryz.ntmps131
 go_wp2
 have hb:=(Blk.new w [.bool false,.int .u64 a,.int .u64 b,.int .u64 0,.int .u64 0,.int .u64 0,.int .u64 0] 185).alloc (.cells #[.bool false,.int .u64 a,.int .u64 b,.int .u64 0,.int .u64 0,.int .u64 0,.int .u64 0] 185);have r0:=hb.cell 0;have r1:=hb.cell 1;have r2:=hb.cell 2;have r3:=hb.cell 3;have r4:=hb.cell 4;have r5:=hb.cell 5;have r6:=hb.cell 6;simp only[zS,zT]at r0 r1 r2 r3 r4 r5 r6;exact bodyPost_ret (v:=.agg #[.bool false,.int .u64 a,.int .u64 b,.int .u64 0,.int .u64 0,.int .u64 0,.int .u64 0]) (by simp[results,Tryz.results131,go_sem,r0,r1,r2,r3,r4,r5,r6]) rfl ⟨rfl,((Fr.refl [] w).alloc _).alloc _⟩
theorem bAR{x y:Nat}(hx:x<=9223372036854775807)(hy:y<=9223372036854775807)(w:World):
    Calls Tryz.prog 130 #[.agg #[.bool false,.int .u64 (wd x 0:Nat),.int .u64 (wd x 1:Nat),.int .u64 0,.int .u64 0,.int .u64 0,.int .u64 0],.agg #[.bool false,.int .u64 (wd y 0:Nat),.int .u64 (wd y 1:Nat),.int .u64 0,.int .u64 0,.int .u64 0,.int .u64 0]] w fun e w' =>e=.returned (.agg #[.bool false,.int .u64 (dig x y 0:Nat),.int .u64 (dig x y 1:Nat),.int .u64 (dig x y 2:Nat),.int .u64 (dig x y 3:Nat),.int .u64 (dig x y 4:Nat),.int .u64 (dig x y 5:Nat)])/\Fr [] w w' :=by
 obtain⟨w3,hw3⟩:∃w3,w3=((w.alloc (.cells #[.bool false,.int .u64 (wd x 0:Nat),.int .u64 (wd x 1:Nat),.int .u64 0,.int .u64 0,.int .u64 0,.int .u64 0] 185)).alloc (.cells #[.bool false,.int .u64 (wd y 0:Nat),.int .u64 (wd y 1:Nat),.int .u64 0,.int .u64 0,.int .u64 0,.int .u64 0] 185)).alloc (.cells #[.bool false,.int .u64 0,.int .u64 0,.int .u64 0,.int .u64 0,.int .u64 0,.int .u64 0] 185):=⟨_,rfl⟩;have ha:Blk w3 w.heap.size 185 [.bool false,.int .u64 (wd x 0:Nat),.int .u64 (wd x 1:Nat),.int .u64 0,.int .u64 0,.int .u64 0,.int .u64 0]:=by rw[hw3];exact((Blk.new w _ _).alloc _).alloc _
 have hb:Blk w3 (w.heap.size+1) 185 [.bool false,.int .u64 (wd y 0:Nat),.int .u64 (wd y 1:Nat),.int .u64 0,.int .u64 0,.int .u64 0,.int .u64 0]:=by {
 rw[hw3];have:=(Blk.new (w.alloc (.cells #[.bool false,.int .u64 (wd x 0:Nat),.int .u64 (wd x 1:Nat),.int .u64 0,.int .u64 0,.int .u64 0,.int .u64 0] 185)) [.bool false,.int .u64 (wd y 0:Nat),.int .u64 (wd y 1:Nat),.int .u64 0,.int .u64 0,.int .u64 0,.int .u64 0] 185).alloc (.cells #[.bool false,.int .u64 0,.int .u64 0,.int .u64 0,.int .u64 0,.int .u64 0,.int .u64 0] 185);simp only[World.size_alloc]at this;exact this};have hr:Blk w3 (w.heap.size+1+1) 185 [.bool false,.int .u64 0,.int .u64 0,.int .u64 0,.int .u64 0,.int .u64 0,.int .u64 0]:=by {
 rw[hw3];have:=Blk.new ((w.alloc (.cells #[.bool false,.int .u64 (wd x 0:Nat),.int .u64 (wd x 1:Nat),.int .u64 0,.int .u64 0,.int .u64 0,.int .u64 0] 185)).alloc (.cells #[.bool false,.int .u64 (wd y 0:Nat),.int .u64 (wd y 1:Nat),.int .u64 0,.int .u64 0,.int .u64 0,.int .u64 0] 185)) [.bool false,.int .u64 0,.int .u64 0,.int .u64 0,.int .u64 0,.int .u64 0,.int .u64 0] 185;simp only[World.size_alloc]at this;exact this};have hF0:Fr [] w w3:=by rw[hw3];exact(((Fr.refl [] w).alloc _).alloc _).alloc _
 have a0:=ha.cell 0;have a1:=ha.cell 1;have a2:=ha.cell 2;have a3:=ha.cell 3;have a4:=ha.cell 4;have a5:=ha.cell 5;have a6:=ha.cell 6;have b0:=hb.cell 0;have b1:=hb.cell 1;have b2:=hb.cell 2;have b3:=hb.cell 3;have b4:=hb.cell 4;have b5:=hb.cell 5;have b6:=hb.cell 6;simp only[zS,zT]at a0 a1 a2 a3 a4 a5 a6 b0 b1 b2 b3 b4 b5 b6;have HM:=qB (fun w=>bAP hx hy w);have HW3:=qB hw3;rw[hw3]at a0 b0;clear hw3;go_enter Tryz.func130,Tryz.ntmps130
 go_wp2_with fail
 rw[<-HW3.out];rw[<-HW3.out]at a0 b0;obtain⟨ba,hba⟩:∃ba,ba=w.heap.size:=⟨_,rfl⟩;rw[<-hba]at a0 a1 a2 a3 a4 a5 a6 b0 b1 b2 b3 b4 b5 b6 hr ⊢;obtain⟨br,hbr⟩:∃br,br=ba+1+1:=⟨_,rfl⟩;rw[<-hbr]at hr ⊢;have HNe:=qB (show ba∉[br]/\ba+1∉[br] from⟨fun h=>by have:=qP.1 h;omega,fun h=>by have:=qP.1 h;omega⟩);have H3:=qB (zR hr (zR hF0 (zR hba hbr)));obtain⟨CX,hCX⟩:∃CX:Nat->World->Prop,CX=fun q w' =>match q with
   | 0=>Fr [br] w3 w' /\ Blk w' br 185 [.bool false,.int .u64 0,.int .u64 0,.int .u64 0,.int .u64 0,.int .u64 0,.int .u64 0]
   | _=>Fr [br] w3 w' /\ Blk w' br 185 [.bool false,.int .u64 (dig x y 0:Nat),.int .u64 (dig x y 1:Nat),.int .u64 (dig x y 2:Nat),.int .u64 (dig x y 3:Nat),.int .u64 (dig x y 4:Nat),.int .u64 (dig x y 5:Nat)]:=⟨_,rfl⟩
 have HCF:=qB (show ∀q w', CX q w' -> Fr [br] w3 w' from fun q w' h=>by
   rw[hCX]at h;match q,h with
   | 0,h=>exact h.1
   | n+1,h=>exact h.1)
 have HB0:=qB (show ∀w', CX 0 w' -> Fr [br] w3 w' /\ Blk w' br 185 [.bool false,.int .u64 0,.int .u64 0,.int .u64 0,.int .u64 0,.int .u64 0,.int .u64 0] from fun w' h=>by rw[hCX]at h;exact h);have HB1:=qB (show ∀w', CX 1 w' -> Fr [br] w3 w' /\ Blk w' br 185 [.bool false,.int .u64 (dig x y 0:Nat),.int .u64 (dig x y 1:Nat),.int .u64 (dig x y 2:Nat),.int .u64 (dig x y 3:Nat),.int .u64 (dig x y 4:Nat),.int .u64 (dig x y 5:Nat)] from fun w' h=>by rw[hCX]at h;exact h);have HC0:=qB (show CX 0 w3.drew by rw[hCX];exact⟨(Fr.refl _ w3).drew,hr.drew⟩);have HMr:=qB (show ∀q w', CX q w' -> Calls Tryz.prog 169 #[.agg #[.int .u64 (wd x 0:Nat),.int .u64 (wd x 1:Nat),.int .u64 0,.int .u64 0,.int .u64 0,.int .u64 0],.agg #[.int .u64 (wd y 0:Nat),.int .u64 (wd y 1:Nat),.int .u64 0,.int .u64 0,.int .u64 0,.int .u64 0]] w' fun e w'' =>e=.returned (.agg #[.int .u64 (dig x y 0:Nat),.int .u64 (dig x y 1:Nat),.int .u64 (dig x y 2:Nat),.int .u64 (dig x y 3:Nat),.int .u64 (dig x y 4:Nat),.int .u64 (dig x y 5:Nat)])/\CX q w'' from fun q w' h=>(HM.out w').mono fun e w'' k=>⟨k.1,by
   rw[hCX]at h ⊢;match q,h with
   | 0,h=>exact⟨h.1.trans k.2 (by simp),k.2.blk h.2 (by simp)⟩
   | n+1,h=>exact⟨h.1.trans k.2 (by simp),k.2.blk h.2 (by simp)⟩⟩)
 have HSt:=qB (show ∀w', CX 0 w' -> CX 1 (((((((w'.setCell ⟨br,0,none⟩ (.bool false)).setCell ⟨br,1,none⟩ (.int .u64 (dig x y 0:Nat))).setCell ⟨br,2,none⟩ (.int .u64 (dig x y 1:Nat))).setCell ⟨br,3,none⟩ (.int .u64 (dig x y 2:Nat))).setCell ⟨br,4,none⟩ (.int .u64 (dig x y 3:Nat))).setCell ⟨br,5,none⟩ (.int .u64 (dig x y 4:Nat))).setCell ⟨br,6,none⟩ (.int .u64 (dig x y 5:Nat))) from fun w' h=>by
   rw[hCX]at h ⊢;obtain⟨h1,h2⟩:=h;exact⟨(((((((h1.setCell ⟨br,0,none⟩ (.bool false) (.inl (by simp))).setCell ⟨br,1,none⟩ (.int .u64 (dig x y 0:Nat)) (.inl (by simp))).setCell ⟨br,2,none⟩ (.int .u64 (dig x y 1:Nat)) (.inl (by simp))).setCell ⟨br,3,none⟩ (.int .u64 (dig x y 2:Nat)) (.inl (by simp))).setCell ⟨br,4,none⟩ (.int .u64 (dig x y 3:Nat)) (.inl (by simp))).setCell ⟨br,5,none⟩ (.int .u64 (dig x y 4:Nat)) (.inl (by simp))).setCell ⟨br,6,none⟩ (.int .u64 (dig x y 5:Nat)) (.inl (by simp))),((((((h2.set 0 (.bool false)).set 1 (.int .u64 (dig x y 0:Nat))).set 2 (.int .u64 (dig x y 1:Nat))).set 3 (.int .u64 (dig x y 2:Nat))).set 4 (.int .u64 (dig x y 3:Nat))).set 5 (.int .u64 (dig x y 4:Nat))).set 6 (.int .u64 (dig x y 5:Nat))⟩)
 clear hr hF0 hba hbr hCX ha hb HM HW3;refine aML [8] CX (by kernel_rfl) (by kernel_rfl) (by kernel_rfl) HC0.out ?_;iterate 1 (refine tX (by decide) (by kernel_rfl) (fun KK hK=>?_);go_simp;refine hK.out _ ?_;clear hK KK)
 refine wT (by decide) (by kernel_rfl) (.bool false) (fun q w' hw' =>?_) ?_
 {
 have c0:=(HCF.out q w' hw').cell a0 HNe.out.1;have c1:=(HCF.out q w' hw').cell a1 HNe.out.1;have c2:=(HCF.out q w' hw').cell a2 HNe.out.1;have c3:=(HCF.out q w' hw').cell a3 HNe.out.1;have c4:=(HCF.out q w' hw').cell a4 HNe.out.1;have c5:=(HCF.out q w' hw').cell a5 HNe.out.1;have c6:=(HCF.out q w' hw').cell a6 HNe.out.1;go_simp;first|done|exact hw' | exact⟨rfl,hw'⟩};iterate 1 (refine tX (by decide) (by kernel_rfl) (fun KK hK=>?_);go_simp;refine hK.out _ ?_;clear hK KK)
 refine wT (by decide) (by kernel_rfl) (.agg #[.int .u64 (wd x 0:Nat),.int .u64 (wd x 1:Nat),.int .u64 0,.int .u64 0,.int .u64 0,.int .u64 0]) (fun q w' hw' =>?_) ?_
 {
 have c0:=(HCF.out q w' hw').cell a0 HNe.out.1;have c1:=(HCF.out q w' hw').cell a1 HNe.out.1;have c2:=(HCF.out q w' hw').cell a2 HNe.out.1;have c3:=(HCF.out q w' hw').cell a3 HNe.out.1;have c4:=(HCF.out q w' hw').cell a4 HNe.out.1;have c5:=(HCF.out q w' hw').cell a5 HNe.out.1;have c6:=(HCF.out q w' hw').cell a6 HNe.out.1;go_simp;first|done|exact hw' | exact⟨rfl,hw'⟩};iterate 1 (refine tX (by decide) (by kernel_rfl) (fun KK hK=>?_);go_simp;refine hK.out _ ?_;clear hK KK)
 refine wT (by decide) (by kernel_rfl) (.agg #[.int .u64 (wd y 0:Nat),.int .u64 (wd y 1:Nat),.int .u64 0,.int .u64 0,.int .u64 0,.int .u64 0]) (fun q w' hw' =>?_) ?_
 {
 have c0:=(HCF.out q w' hw').cell b0 HNe.out.2;have c1:=(HCF.out q w' hw').cell b1 HNe.out.2;have c2:=(HCF.out q w' hw').cell b2 HNe.out.2;have c3:=(HCF.out q w' hw').cell b3 HNe.out.2;have c4:=(HCF.out q w' hw').cell b4 HNe.out.2;have c5:=(HCF.out q w' hw').cell b5 HNe.out.2;have c6:=(HCF.out q w' hw').cell b6 HNe.out.2;go_simp;first|done|exact hw' | exact⟨rfl,hw'⟩};refine wT (by decide) (by kernel_rfl) (.agg #[.int .u64 (dig x y 0:Nat),.int .u64 (dig x y 1:Nat),.int .u64 (dig x y 2:Nat),.int .u64 (dig x y 3:Nat),.int .u64 (dig x y 4:Nat),.int .u64 (dig x y 5:Nat)]) (fun q w' hw' =>?_) ?_
 {
 go_simp;exact HMr.out q w' hw'};iterate 1 (refine tX (by decide) (by kernel_rfl) (fun KK hK=>?_);go_simp;refine hK.out _ ?_;clear hK KK)
 refine aWJ 0 (by decide) (by kernel_rfl) (undef) (fun w' hw' =>?_) ?_
 {
 obtain⟨hF,hbx⟩:=HB0.out w' hw';have e0:=hbx.cell 0;have z0:=hbx.frozen 0;have e1:=hbx.cell 1;have z1:=hbx.frozen 1;have e2:=hbx.cell 2;have z2:=hbx.frozen 2;have e3:=hbx.cell 3;have z3:=hbx.frozen 3;have e4:=hbx.cell 4;have z4:=hbx.frozen 4;have e5:=hbx.cell 5;have z5:=hbx.frozen 5;have e6:=hbx.cell 6;have z6:=hbx.frozen 6;simp only[zS,zT]at e0 e1 e2 e3 e4 e5 e6;unfold fB;go_simp;exact HSt.out w' hw'};refine bAQ ?_;intro w6 hC6;obtain⟨hF6,hb6⟩:=HB1.out w6 hC6;have r0:=hb6.cell 0;have r1:=hb6.cell 1;have r2:=hb6.cell 2;have r3:=hb6.cell 3;have r4:=hb6.cell 4;have r5:=hb6.cell 5;have r6:=hb6.cell 6;simp only[zS,zT]at r0 r1 r2 r3 r4 r5 r6;have HFe:=qB (H3.out.2.1.trans hF6 (fun b hb=>.inr (by rw[qP.1 hb,H3.out.2.2.2,<-H3.out.2.2.1];omega)));clear a0 a1 a2 a3 a4 a5 a6 b0 b1 b2 b3 b4 b5 b6 hC6 hF6 hb6 HSt HMr HC0 HB0 HB1 HCF H3;go_wp2
 exact bodyPost_ret (v:=.agg #[.bool false,.int .u64 (dig x y 0:Nat),.int .u64 (dig x y 1:Nat),.int .u64 (dig x y 2:Nat),.int .u64 (dig x y 3:Nat),.int .u64 (dig x y 4:Nat),.int .u64 (dig x y 5:Nat)]) (by simp[results,Tryz.results130,go_sem,r0,r1,r2,r3,r4,r5,r6]) rfl ⟨rfl,HFe.out⟩
theorem bCK{x y:Nat}(hx:x<=9223372036854775807)(hy:y<=9223372036854775807)(w:World):
    Calls Tryz.prog 168 #[.agg #[.bool false,.int .u64 (dig x y 0:Nat),.int .u64 (dig x y 1:Nat),.int .u64 (dig x y 2:Nat),.int .u64 (dig x y 3:Nat),.int .u64 (dig x y 4:Nat),.int .u64 (dig x y 5:Nat)]] w fun e w' =>e=.returned (.tuple #[.int .i64 (gL x y),.bool (decide (x+y<=9223372036854775807))])/\Fr [] w w' :=by
 obtain⟨h1,h2,h3,h4,h5⟩:=aWH hx hy;rw[h2,h3,h4,h5];have l0:dig x y 0<4294967296:=Nat.mod_lt _ (by omega);have l1:dig x y 1<4294967296:=Nat.mod_lt _ (by omega);clear h2 h3 h4 h5;generalize dig x y 0=a at *;generalize dig x y 1=b at *;obtain⟨s,hs⟩:∃s,s=x+y:=⟨_,rfl⟩;rw[<-hs]at h1 ⊢;have hw1:IntKind.u64.wrap ((b:Int)*4294967296+a)=(s:Int):=by rw[<-h1];simp[IntKind.wrap,IntKind.bits,IntKind.signed];omega
 have hw2:IntKind.u64.wrap ((b:Int)*4294967296)=(b:Int)*4294967296:=by simp[IntKind.wrap,IntKind.bits,IntKind.signed];omega
 have hb:=Blk.new w [.bool false,.int .u64 a,.int .u64 b,.int .u64 0,.int .u64 0,.int .u64 0,.int .u64 0] 185;have r0:=hb.cell 0;have r1:=hb.cell 1;have r2:=hb.cell 2;have r3:=hb.cell 3;have r4:=hb.cell 4;have r5:=hb.cell 5;have r6:=hb.cell 6;simp only[zS,zT]at r0 r1 r2 r3 r4 r5 r6;have HF:=qB ((Fr.refl [] w).alloc (.cells #[.bool false,.int .u64 a,.int .u64 b,.int .u64 0,.int .u64 0,.int .u64 0,.int .u64 0] 185));have hsum:((x:Int)+y)=(s:Int):=by omega
 by_cases hle:s<=9223372036854775807
 {
 have e1:gL x y=(s:Int):=by unfold gL;rw[qI (by omega)];exact hsum
 have e2:decide (s<=9223372036854775807)=true:=qO hle;rw[e1,e2];have d1:decide ((s:Int)>9223372036854775807)=false:=qK (by omega);have hw3:IntKind.i64.wrap (s:Int)=s:=by simp[IntKind.wrap,IntKind.bits,IntKind.signed];omega
 clear e1 e2 hsum hle hs h1 hb;go_enter Tryz.func168,Tryz.ntmps168
 go_wp2
 go_ret2;exact⟨rfl,HF.out⟩}
 {
 have e1:gL x y=0:=by unfold gL;exact qH (by omega)
 have e2:decide (s<=9223372036854775807)=false:=qK hle;rw[e1,e2];have d1:decide ((s:Int)>9223372036854775807)=true:=qO (by omega);clear e1 e2 hsum hle hs h1 hb;go_enter Tryz.func168,Tryz.ntmps168
 go_wp2
 go_ret2;exact⟨rfl,HF.out⟩}
theorem bCL{x y:Nat}(hx:x<=9223372036854775807)(hy:y<=9223372036854775807)(w:World):
    Calls Tryz.prog 129 #[.agg #[.bool false,.int .u64 (dig x y 0:Nat),.int .u64 (dig x y 1:Nat),.int .u64 (dig x y 2:Nat),.int .u64 (dig x y 3:Nat),.int .u64 (dig x y 4:Nat),.int .u64 (dig x y 5:Nat)]] w fun e w' =>e=.returned (.tuple #[.int .i64 (gL x y),.int .i64 (eQ x y)])/\Fr [] w w' :=by
 have HI:=qB (fun w=>bCK hx hy w);have hb:=Blk.new w [.bool false,.int .u64 (dig x y 0:Nat),.int .u64 (dig x y 1:Nat),.int .u64 (dig x y 2:Nat),.int .u64 (dig x y 3:Nat),.int .u64 (dig x y 4:Nat),.int .u64 (dig x y 5:Nat)] 185;have r0:=hb.cell 0;have r1:=hb.cell 1;have r2:=hb.cell 2;have r3:=hb.cell 3;have r4:=hb.cell 4;have r5:=hb.cell 5;have r6:=hb.cell 6;simp only[zS,zT]at r0 r1 r2 r3 r4 r5 r6;have HF:=qB ((Fr.refl [] w).alloc (.cells #[.bool false,.int .u64 (dig x y 0:Nat),.int .u64 (dig x y 1:Nat),.int .u64 (dig x y 2:Nat),.int .u64 (dig x y 3:Nat),.int .u64 (dig x y 4:Nat),.int .u64 (dig x y 5:Nat)] 185));clear hb;by_cases hle:x+y<=9223372036854775807
 {
 have e2:decide (x+y<=9223372036854775807)=true:=qO hle;have e3:eQ x y=0:=by unfold eQ;exact qI (by omega)
 rw[e2]at HI;rw[e3];clear e2 e3 hle;generalize gL x y=sv at *;go_enter Tryz.func129,Tryz.ntmps129
 go_wp2_with fail
 refine(HI.out _).mono ?_;rintro _ w2 ⟨rfl,hF⟩;have HF2:=qB (HF.out.trans' hF);clear hF;go_wp2
 go_ret2;exact⟨rfl,HF2.out⟩}
 {
 have e2:decide (x+y<=9223372036854775807)=false:=qK hle;have e3:eQ x y=7:=by unfold eQ;exact qH (by omega)
 have e1:gL x y=0:=by unfold gL;exact qH (by omega)
 rw[e2,e1]at HI;rw[e3,e1];clear e1 e2 e3 hle;go_enter Tryz.func129,Tryz.ntmps129
 go_wp2_with fail
 refine(HI.out _).mono ?_;rintro _ w2 ⟨rfl,hF⟩;have HF2:=qB (HF.out.trans' hF);clear hF;go_wp2
 go_ret2;exact⟨rfl,HF2.out⟩}
theorem tY{x y:Int}(hx0:0<=x)(hx:x<=9223372036854775807)(hy0:0<=y)(hy:y<=9223372036854775807)(w:World):
    Calls Tryz.prog 78 #[.int .i64 x,.int .i64 y] w fun e w' =>e=.returned (.tuple #[.int .i64 (gL x y),.int .i64 (eQ x y)])/\Fr [] w w' :=by
 obtain⟨x,rfl⟩:=Int.eq_ofNat_of_zero_le hx0;obtain⟨y,rfl⟩:=Int.eq_ofNat_of_zero_le hy0;have H1:=qB (fun w=>aRN (x:=x) (by omega) w);have H2:=qB (fun w=>aRN (x:=y) (by omega) w);have H3:=qB (fun w=>bAR (x:=x) (y:=y) (by omega) (by omega) w);have H4:=qB (fun w=>bCL (x:=x) (y:=y) (by omega) (by omega) w);clear hx0 hx hy0 hy;generalize gL x y=sv at *;generalize eQ x y=sc at *;go_enter Tryz.func78,Tryz.ntmps78
 go_wp2_with fail
 refine(H1.out _).mono ?_;rintro _ w1 ⟨rfl,hF⟩;have HF1:=qB hF;clear hF;go_wp2_with fail
 refine(H2.out _).mono ?_;rintro _ w2 ⟨rfl,hF⟩;have HF2:=qB (HF1.out.trans' hF);clear hF;go_wp2_with fail
 refine(H3.out _).mono ?_;rintro _ w3 ⟨rfl,hF⟩;have HF3:=qB (HF2.out.trans' hF);clear hF;go_wp2_with fail
 refine(H4.out _).mono ?_;rintro _ w4 ⟨rfl,hF⟩;have HF4:=qB (HF3.out.trans' hF);clear hF;go_wp2
 go_ret2;exact⟨rfl,HF4.out⟩
def rfC(o:Ob)(v:Value):List Value:=[.bool true,.int .i64 o.m,.int .i64 o.E,.int .i64 o.V,.int .i64 o.D,.int .i64 o.now,v,.int .u64 o.last,.int .u64 o.gone]
def RfAt(w:World)(pr:Nat)(o:Ob)(K:List Nat):Prop:=∃a c,Blk w pr 115 (rfC o (.slice a o.L.length c))/\aS w (.slice a o.L.length c) o.L/\(∀q,(Value.slice a o.L.length c).ownBlock=some q->q≠pr)/\K=pr::(Value.slice a o.L.length c).ownBlock.toList
def thF(p:Nat)(o:Ob):Th:=⟨fun w K=>RfAt w p o K,
  fun⟨a,c,h1,h2,h3,e⟩ q hq=>by
    rw[e]at hq;rcases qF.1 hq with rfl|hq
    · exact h1.lt
    · exact h2.lt (by simpa using hq),
  fun⟨a,c,h1,h2,h3,e⟩ hf hs=>⟨a,c,hf.blk h1 (hs _ (by simp[e])),h2.fr hf (fun q hq=>hs q (by rw[e];simp[hq])),h3,e⟩⟩
section
variable {W wr w w' :World} {p:Nat} {o:Ob} {ts:List Th} {a:Option Addr} {c n:Nat}
theorem oL(h:Blk w p 115 (rfC o (.slice a n c))):Calls Tryz.prog 117 #[aN p] w fun e w' =>e=.returned (.bool true)/\w' =w:=by
 have c0:=h.cell 0;simp only[rfC,zS]at c0;clear h;go_enter Tryz.func117,Tryz.ntmps117
 go_wp2
 go_ret;exact⟨rfl,rfl⟩
theorem bAS(h:Wd W wr (thF p o::ts)):Calls Tryz.prog 64 #[aN p] wr fun e w' =>e=.returned (.int .i64 o.now)/\w' =wr:=by
 obtain⟨K,a,c,h1,_⟩:=h.get;have HV:=qB (oL h1);have c5:=h1.cell 5;simp only[rfC,zS,zT]at c5;clear h1 h;go_enter Tryz.func64,Tryz.ntmps64
 go_wp2_with fail
 refine HV.out.mono ?_;rintro _ w ⟨rfl,rfl⟩;go_wp2
 go_ret;exact⟨rfl,rfl⟩
theorem aFF(h:Wd W wr (thF p o::ts)):Calls Tryz.prog 62 #[aN p] wr fun e w' =>e=.returned (.tuple #[.int .u64 o.last,.int .u64 o.gone])/\Fr [] wr w' :=by
 obtain⟨K,a,c,h1,_⟩:=h.get;have HV:=qB (oL h1);have c7:=h1.cell 7;have c8:=h1.cell 8;simp only[rfC,zS,zT]at c7 c8;clear h1 h;go_enter Tryz.func62,Tryz.ntmps62
 go_wp2_with fail
 refine HV.out.mono ?_;rintro _ w ⟨rfl,rfl⟩;go_wp2_with fail
 go_quiet (fail)
 go_wp2
 go_ret2;exact⟨rfl,(Fr.refl _ _).drewN _⟩
theorem aHS(h:Wd W wr (thF p o::ts))(hs:o.last+o.gone<18446744073709551616):Calls Tryz.prog 63 #[aN p] wr fun e w' =>e=.returned (.int .u64 (o.last+o.gone:Nat))/\Fr [] wr w' :=by
 have HA:=qB (aFF h);have hw:IntKind.u64.wrap ((o.last:Int)+o.gone)=((o.last+o.gone:Nat):Int):=by simp[IntKind.wrap,IntKind.bits,IntKind.signed];omega
 clear h hs;go_enter Tryz.func63,Tryz.ntmps63
 go_wp2_with fail
 refine HA.out.mono ?_;rintro _ w2 ⟨rfl,hF⟩;have HF:=qB hF;clear hF;go_wp2
 go_ret;exact⟨rfl,HF.out⟩
theorem aMM(h:Wd W wr (thF p o::ts)):Calls Tryz.prog 65 #[aN p] wr fun e w' =>e=.returned (.agg #[.int .i64 o.m,.int .i64 o.E,.int .i64 o.V,.int .i64 o.D])/\Fr [] wr w' :=by
 obtain⟨K,a,c,h1,_⟩:=(h.fr0 ((Fr.refl [] wr).alloc (.cells #[.int .i64 0,.int .i64 0,.int .i64 0,.int .i64 0] 55))).get;have HV:=qB (oL h1);have c1:=h1.cell 1;have c2:=h1.cell 2;have c3:=h1.cell 3;have c4:=h1.cell 4;have hb:=Blk.new wr [.int .i64 o.m,.int .i64 o.E,.int .i64 o.V,.int .i64 o.D] 55;have r0:=hb.cell 0;have r1:=hb.cell 1;have r2:=hb.cell 2;have r3:=hb.cell 3;simp only[rfC,zS,zT]at c1 c2 c3 c4 r0 r1 r2 r3;have HF:=qB ((Fr.refl [] wr).alloc (.cells #[.int .i64 o.m,.int .i64 o.E,.int .i64 o.V,.int .i64 o.D] 55));clear h h1 hb;go_enter Tryz.func65,Tryz.ntmps65
 go_wp2_with fail
 refine HV.out.mono ?_;rintro _ _ ⟨rfl,rfl⟩;go_wp2
 exact bodyPost_ret (v:=.agg #[.int .i64 o.m,.int .i64 o.E,.int .i64 o.V,.int .i64 o.D]) (by simp[results,Tryz.results65,go_sem,r0,r1,r2,r3]) rfl ⟨rfl,HF.out⟩
theorem bAT(h:Wd W wr (thF p o::ts))(hl:o.L.length<=16384):Calls Tryz.prog 67 #[aN p] wr fun e w' =>∃v,e=.returned v/\Wd W w' (thU v (bD o.L)::thF p o::ts):=by
 obtain⟨K,a,c,h1,h2,_⟩:=h.get;have HV:=qB (oL h1);have HI:=qB (wQ h2 hl);have c6:=h1.cell 6;simp only[rfC,zS,zT]at c6;have HW:=qB h;clear h h1 h2;go_enter Tryz.func67,Tryz.ntmps67
 go_wp2_with fail
 refine HV.out.mono ?_;rintro _ _ ⟨rfl,rfl⟩;go_wp2_with fail
 refine HI.out.mono ?_;rintro _ w2 ⟨v,rfl,k1,k2,k3⟩;have HN:=qB (show Wd W w2 (thU v (bD o.L)::thF p o::ts) from HW.out.new k2 ⟨k1,rfl⟩ (fun q hq=>k3 q (by simpa using hq)));clear k1 k2 k3;go_wp2
 go_ret;exact⟨v,rfl,HN.out⟩
theorem aHT(l:List Lv):∀u∈rowV l,u.oneCell' =true:=uV l
theorem aJV(h:Wd W wr (thF p o::ts))(hl:o.L.length<=16384):Calls Tryz.prog 66 #[aN p] wr fun e w' =>∃a c,e=.returned (.slice a o.L.length c)/\Wd W w' (thV (.slice a o.L.length c) o.L::thF p o::ts):=by
  obtain⟨K,a,c,h1,h2,_⟩:=h.get;have HV:=qB (oL h1);have c6:=h1.cell 6;simp only[rfC,zS,zT]at c6;have HW:=qB h;have HR:=qB (h2.fr0 ((Fr.refl [] wr).alloc (.cells #[] 45)));obtain⟨n,hn⟩:∃n,n=o.L.length:=⟨_,rfl⟩;rw[<-hn]at c6 HR hl ⊢;have Hn:=qB hn;clear h h1 h2 hn;go_enter Tryz.func66,Tryz.ntmps66
  go_wp2_with fail
  refine HV.out.mono ?_;rintro _ w ⟨rfl,rfl⟩;have c6:=((Fr.refl [] w).alloc (.cells #[] 45)).cell c6 (by simp)
  have HM:=qB (show ∀(v1:Value) (w1:World),w1.ownsRow 0 45 7 v1 n (rowV o.L)->Fr [w.heap.size] (w.alloc (.cells #[] 45)) w1->(∀q,v1.ownBlock=some q->q=w.heap.size∨(w.alloc (.cells #[] 45)).heap.size<=q) ->
      Wd W w1 (thV v1 o.L::thF p o::ts) from fun v1 w1 hown1 hF1 hq1=>by
    have hs0:(w.alloc (.cells #[] 45)).heap.size=w.heap.size+1:=by simp
    have hF:Fr [] w w1:=((Fr.refl [] w).alloc _).trans hF1 (fun b hb=>.inr (Nat.le_of_eq (qP.1 hb).symm));have hr:aS w1 v1 o.L:=by unfold aS;rw[<-Hn.out];exact hown1
    refine HW.out.new hF ⟨hr,rfl⟩ (fun q hq=>?_);rcases hq1 q (by simpa using hq) with e|e<;>omega)
  have HOw:=qB (show World.ownsRow (w.alloc (.cells #[] 45)) 0 45 7 (.slice a n c) n (rowV o.L) by
    have:=HR.out;unfold aS at this;rw[<-Hn.out]at this;exact this)
  go_wp2_with (at_builtin;refine oK rfl _ _ 37 rfl 45 oS 7 56 (by kernel_rfl) (by kernel_rfl) rfl (by decide) w.heap.size rfl (Blk.new w [] _) (.slice a n c) n (rowV o.L) rfl HOw.out (aHT o.L) (by unfold maxLen;omega) (by omega) ?_;intro v1 w1 hown1 hF1 hq1;have HN:=qB (HM.out v1 w1 hown1 hF1 hq1);obtain⟨a1,c1,rfl⟩:=aJ hown1;clear hown1 hF1 hq1 HM HOw)
  go_wp2
  go_ret;exact⟨a1,c1,rfl,HN.out⟩
end
section
variable {W wr w w' :World} {p:Nat} {o:Ob} {ts:List Th} {a:Option Addr} {c n:Nat}
theorem Ob.lenE(hok:o.Ok):o.L.length<=16384:=by have:=hok.leE;have:=hok.mE;omega
theorem aJW(h:Wd W wr (thF p o::ts))(hok:o.Ok)(to:Int)(ht2:to<=9223372036854775807):
    Calls Tryz.prog 72 #[aN p,.int .i64 to] wr fun e w' =>e=.returned (.int .i64 (cN o.m o.now to))/\Wd W w' (thF p (o.tickS to)::ts):=by
 obtain⟨K,⟨a,c,h1,h2,h3,rfl⟩,hs⟩:=h.open;have HV:=qB (oL h1);have c1:=h1.cell 1;have c5:=h1.cell 5;have c6:=h1.cell 6;simp only[rfC,zS,zT]at c1 c5 c6;by_cases hlt:to<o.now
 {
 have e1:cN o.m o.now to=10:=by unfold cN;exact qI hlt
 have e2:o.tickS to=o:=by unfold Ob.tickS;rw[e1];exact qH (by omega)
 rw[e1,e2];have d1:decide (to<o.now)=true:=qO hlt;have HW:=qB h;clear h hs h1 h2 h3 e1 e2 hlt;go_enter Tryz.func72,Tryz.ntmps72
 go_wp2_with fail
 refine HV.out.mono ?_;rintro _ _ ⟨rfl,rfl⟩;go_wp2
 go_ret;exact⟨rfl,HW.out⟩}
 {
 have d1:decide (to<o.now)=false:=qK hlt;have HA:=qB (tY (x:=to) (y:=o.m) (by have:=hok.n0;omega) ht2 (by have:=hok.m1;omega) hok.m2 wr);by_cases hov:to+o.m<=9223372036854775807
 {
 have e0:eQ to o.m=0:=qI hov;have e1:cN o.m o.now to=0:=by unfold cN;rw[qH hlt];exact e0
 have e2:o.tickS to=o.tick to:=by unfold Ob.tickS;exact qI e1
 rw[e0]at HA;rw[e1,e2];have HL:=qB (fun(w' :World) (hf:Fr [] wr w')=>aJU (h2.fr0 hf) (Ob.lenE hok) to);have HB:=qB (zR h1 (zR h2 h3));have HS:=qB (fun(w' :World) (t' :Th) (k:Stp wr w' (p::(Value.slice a o.L.length c).ownBlock.toList) t')=>hs k);obtain⟨n,hn⟩:∃n,n=o.L.length:=⟨_,rfl⟩;rw[<-hn]at c6;have hll:=Ob.lenE hok;have hlast:=hok.last;have hmax:=hok.max;rw[<-hn]at hll hlast;have hfl:(o.left to).length<=n:=by rw[hn];exact List.length_filter_le _ _
 have Hn:=qB (zR hn (zR hlast hmax));clear h hs h1 h2 h3 e0 e1 e2 hlt hov hn hlast hmax;generalize gL to o.m=sv at *;go_enter Tryz.func72,Tryz.ntmps72
 go_wp2_with fail
 refine HV.out.mono ?_;rintro _ wr ⟨rfl,rfl⟩;go_wp2_with fail
 refine HA.out.mono ?_;rintro _ w2 ⟨rfl,hF2⟩;have c6:=hF2.cell c6 (by simp);have HL2:=qB (HL.out w2 hF2);rw[<-Hn.out.1]at HL2;have HF2:=qB hF2;clear hF2 HL HA HV c1 c5;go_wp2_with fail
 refine HL2.out.mono ?_;rintro _ w3 ⟨v3,rfl,hr3,hF3,hq3⟩;obtain⟨a3,c3,rfl⟩:=hr3.slice;obtain⟨m3,hm3⟩:∃m3,m3=(o.left to).length:=⟨_,rfl⟩;rw[show(o.L.filter fun e=>decide (to<e.x)).length=(o.left to).length from rfl,<-hm3]at hr3 hq3 ⊢;rw[<-hm3]at hfl;have hF03:=HF2.out.trans' hF3;have hb3:=hF03.blk HB.out.1 (by simp);have hq3:∀q,(Value.slice a3 m3 c3).ownBlock=some q->wr.heap.size<=q:=fun q hq=>zQ HF2.out.size (hq3 q hq);have H3:=qB (zR hr3 (zR hF03 (zR hq3 (zR hb3 hm3))));have c6:=hb3.cell 6;have c8:=hb3.cell 8;have z8:=hb3.frozen 8;simp only[rfC,zS,zT]at c6 c8;rw[<-Hn.out.1]at c6;have hw1:IntKind.i64.wrap ((n:Int)-m3)=((n-m3:Nat):Int):=by simp[IntKind.wrap,IntKind.bits,IntKind.signed];omega
 have hw2:IntKind.u64.wrap (((n-m3:Nat):Int))=((n-m3:Nat):Int):=by simp[IntKind.wrap,IntKind.bits,IntKind.signed];omega
 have hgl:o.gone+(n-m3)<=9223372036854775807:=by have h1:=Hn.out.2.1;have h2:=Hn.out.2.2;omega
 have hw3:IntKind.u64.wrap ((o.gone:Int)+((n-m3:Nat):Int))=((o.gone+(n-m3):Nat):Int):=by simp[IntKind.wrap,IntKind.bits,IntKind.signed];omega
 clear hr3 hF03 hb3 hF3 hq3 hm3 HF2 HL2 hgl;obtain⟨d,hd⟩:∃d,d=n-m3:=⟨_,rfl⟩;rw[<-hd]at hw1 hw2 hw3;obtain⟨g', hg'⟩:∃g', g' =o.gone+d:=⟨_,rfl⟩;rw[<-hg']at hw3;have Hd:=qB (zR hd hg');clear hd hg';go_wp2_with fail
 refine bA 17 (fun w' =>Fr [p] w3 w' /\ Blk w' p 115 (rfC { o with gone:=g' } (.slice a n c))) (by kernel_rfl) (by kernel_rfl) (by kernel_rfl) ?_;iterate 17 (refine bM (by decide) (fun K hK=>?_);go_simp;refine hK _ ?_;clear hK K)
 refine aO rfl undef (fun w' hw' =>?_) ?_
 {
 obtain⟨nq,rfl⟩:=hw';go_simp;refine⟨((Fr.refl _ w3).drewN nq).setCell _ _ (.inl (by simp)),?_⟩;have:=(H3.out.2.2.2.1.drewN nq).set 8 (.int .u64 g');rw[<-Hn.out.1]at this;exact this};refine bN ?_;rintro w4 ⟨hF4,hb4⟩;have x6:=hb4.cell 6;have y6:=hb4.frozen 6;have hb5:=hb4.set 6 (.slice a3 m3 c3);have x5:=hb5.cell 5;have y5:=hb5.frozen 5;have hb6:=hb5.set 5 (.int .i64 to);simp only[rfC,zS,zT,zH,zD]at x6 x5 hb6;have H6:=qB (zR hF4 hb6);clear hF4 hb4 hb5 hb6 c6 c8 z8 hw1 hw2 hw3;go_wp2
 go_ret;obtain⟨hr3,hF03,hq3,hb3,hm3⟩:=H3.out;have hFe:Fr [p] w3 ((w4.setCell ⟨p,6,none⟩ (.slice a3 m3 c3)).setCell ⟨p,5,none⟩ (.int .i64 to)):=(H6.out.1.setCell _ _ (.inl (by simp))).setCell _ _ (.inl (by simp));have hlt:=HB.out.1.lt;have hs1:=hF03.size;have hml:(o.tick to).L.length=m3:=hm3.symm;refine⟨rfl,HS.out _ _ ⟨p::(Value.slice a3 (o.tick to).L.length c3).ownBlock.toList,⟨a3,c3,?_,?_,?_,rfl⟩,?_,?_⟩⟩
 {
 have e:rfC (o.tick to) (.slice a3 (o.tick to).L.length c3)=[.bool true,.int .i64 o.m,.int .i64 o.E,.int .i64 o.V,.int .i64 o.D,.int .i64 to,.slice a3 m3 c3,.int .u64 o.last,.int .u64 g']:=by rw[Hd.out.2,Hd.out.1,hm3,Hn.out.1];rfl
 rw[e];exact H6.out.2}
 {
 have:aS w3 (.slice a3 (o.tick to).L.length c3) (o.tick to).L:=by rw[hml];exact hr3
 exact this.fr hFe (fun q hq hm=>by
   have e:=qP.1 hm;have:=hq3 q (by rw[<-hml];exact hq);omega)}
 {
 intro q hq e;have:=hq3 q (by rw[<-hml];exact hq);omega}
 · exact(hF03.mono (by simp)).trans hFe (fun b hb=>.inl (by rw[qP.1 hb];simp))
 {
 intro q hq;rcases qF.1 hq with rfl|hq
 · exact .inl (by simp)
 · exact .inr (hq3 q (by rw[<-hml];simpa using hq))}}
 {
 have e0:eQ to o.m=7:=qH hov;have e1:cN o.m o.now to=7:=by unfold cN;rw[qH hlt];exact e0
 have e2:o.tickS to=o:=by unfold Ob.tickS;rw[e1];exact qH (by omega)
 rw[e0]at HA;rw[e1,e2];have HW:=qB h;clear h hs h1 h2 h3 e0 e1 e2 hlt hov c6;generalize gL to o.m=sv at *;go_enter Tryz.func72,Tryz.ntmps72
 go_wp2_with fail
 refine HV.out.mono ?_;rintro _ _ ⟨rfl,rfl⟩;go_wp2_with fail
 refine HA.out.mono ?_;rintro _ w2 ⟨rfl,hF⟩;have HW2:=qB (HW.out.fr0 hF);clear hF HW HA;go_wp2
 go_ret;exact⟨rfl,HW2.out⟩}}
end
theorem aRO{w:World}{v x:Value}{l m:List Lv}(hv:aS w v l)(hx:aS w x m)(hn:l.length+m.length<=65536)(ty:TypeId):
    ∃v' w', (Builtin.append_ #[37,37] ty #[v,x]).run Tryz.prog w=.ok v' w' /\ aS w' v' (l++m)/\Fr v.ownBlock.toList w w' /\ ∀q,v'.ownBlock=some q->v.ownBlock=some q∨w.heap.size<=q:=by
 obtain⟨i0,hi,hz0,hz1,hz2⟩:=info_parts Tryz.info45;have hx' :=hx;have hxl:=hx.1;rcases hx.2 with⟨rfl,h0⟩|⟨gx,cap,cur,rfl,_,hgx,hnc,hcm,hcs,htake⟩
 {
 obtain rfl:m=[]:=List.eq_nil_of_length_eq_zero h0;refine⟨v,w,run_append_owned_none w 0 37 ty 45 i0 7 Tryz.underlying37 hi v l.length (rowV l) hv,by rw[List.append_nil];exact hv,Fr.refl _ _,fun q e=>.inl e⟩}
 {
 obtain⟨v', w', hr,h2,h3,_,h5⟩:=run_append_own_at (P:=Tryz.prog) w 0 37 ty 45 i0 oS 7 56 Tryz.underlying37 hi hz0 hz1 hz2 rfl (by decide) v l.length (rowV l) hv ⟨gx,0,none⟩ m.length cap (rowV m) (mN m) (hx'.cells (g:=gx) rfl) (uV m) (by unfold maxLen;omega) (by omega) (zB _);refine⟨v', w', hr,?_,⟨h3.os,h3.tape,h3.output,h3.size,fun k hk hm=>h3.block k hk (fun e=>hm (by simp[e]))⟩,fun q hq=>?_⟩
 {
 unfold aS;rw[zO,aNN];exact h2}
 {
 rcases h5 with h5|h5
 · rw[<-h5];exact .inl hq
 · rw[hq]at h5;simp at h5;exact .inr (by omega)}}
theorem aHU{w:World}{o:Oper}{a:Act}{K:Value->World->Prop}(s x:Operand)
    (ho:o.op=.call { callee:=.builtin .append,args:=#[s,x],argTypes:=#[37,37] }) {v y:Value} {l m:List Lv} (hs:a.eval s=v) (hx:a.eval x=y) (hv:aS w v l) (hy:aS w y m) (hn:l.length+m.length<=65536)
    (h:∀v' w', aS w' v' (l++m)->Fr v.ownBlock.toList w w' -> (∀q,v'.ownBlock=some q->v.ownBlock=some q∨w.heap.size<=q)->K v' w'):gC Tryz.prog K ((execOp a.eval o).run Tryz.prog w):=by
 obtain⟨v', w', hr,h1,h2,h3⟩:=aRO hv hy hn o.type;unfold execOp;simp only[ho,resolve,invoke,builtin,Sem.run_bind,Sem.run_pure,Result.andThen_ok,List.map_toArray,List.map_cons,List.map_nil,hs,hx,hr];exact h v' w' h1 h2 h3
theorem aS.mt(w:World):aS (w.alloc (.cells #[] 45)) (.slice (some ⟨w.heap.size,0,none⟩) 0 0) []:=
  ⟨by simp[rowV],.inr ⟨w.heap.size,0,#[],rfl,zB _,Blk.new w [] 45,qS _,zB _,by simp,by simp[rowV]⟩⟩
theorem aS.one(w:World)(x:Lv):aS (w.alloc (.cells (lvC x).toArray 45)) (.slice (some ⟨w.heap.size,0,none⟩) 1 1) [x]:=
  ⟨by simp[rowV,lvC],.inr ⟨w.heap.size,1,(lvC x).toArray,rfl,zB _,Blk.new w (lvC x) 45,qS _,by decide,by simp[lvC],by simp[rowV,lvC]⟩⟩
def nI(w0 w:World)(f:Nat->Value)(g:Nat->Option (List Lv)):Prop:=
  Fr [] w0 w/\(∀k c,g k=some c->aS w (f k) c/\∀q,(f k).ownBlock=some q->w0.heap.size<=q) /\
    ∀j k c d,j≠k->g j=some c->g k=some d->∀q,(f j).ownBlock=some q->(f k).ownBlock≠some q
section
variable {w0 w w' :World} {f:Nat->Value} {g g' :Nat->Option (List Lv)} {i:Nat} {v:Value} {c:List Lv}
theorem nI.pass(h:nI w0 w f g)(hf:Fr [] w w')(hg:∀k c,g' k=some c->k≠i/\g k=some c):nI w0 w' (cM f i v) g' :=by
 obtain⟨h1,h2,h3⟩:=h;refine⟨h1.trans' hf,fun k c hk=>?_,fun j k c d hjk hj hk=>?_⟩
 {
 obtain⟨k1,k2⟩:=hg k c hk;rw[aT _ _ k1];exact⟨(h2 k c k2).1.fr0 hf,(h2 k c k2).2⟩}
 {
 obtain⟨j1,j2⟩:=hg j c hj;obtain⟨k1,k2⟩:=hg k d hk;rw[aT _ _ j1,aT _ _ k1];exact h3 j k c d hjk j2 k2}
theorem nI.new(h:nI w0 w f g)(hf:Fr [] w w')(hr:aS w' v c)(ho:∀q,v.ownBlock=some q->w.heap.size<=q)
    (hg:∀k c', g' k=some c' -> (k=i/\c' =c)∨(k≠i/\g k=some c')):nI w0 w' (cM f i v) g' :=by
 obtain⟨h1,h2,h3⟩:=h;have hs:=h1.size;have hlt:∀{k d q},g k=some d->(f k).ownBlock=some q->q<w.heap.size:=fun hk hq=>(h2 _ _ hk).1.lt hq;refine⟨h1.trans' hf,fun k c' hk=>?_,fun j k c' d hjk hj hk q hqj hqk=>?_⟩
 {
 rcases hg k c' hk with⟨rfl,rfl⟩|⟨k1,k2⟩
 · rw[dK];exact⟨hr,fun q hq=>zQ hs (ho q hq)⟩
 · rw[aT _ _ k1];exact⟨(h2 k c' k2).1.fr0 hf,(h2 k c' k2).2⟩}
 {
 rcases hg j c' hj with⟨rfl,rfl⟩|⟨j1,j2⟩
 {
 rcases hg k d hk with⟨rfl,rfl⟩|⟨k1,k2⟩
 · exact hjk rfl
 {
 rw[dK]at hqj;rw[aT _ _ k1]at hqk;have:=ho q hqj;have:=hlt k2 hqk;omega}}
 {
 rcases hg k d hk with⟨rfl,rfl⟩|⟨k1,k2⟩
 {
 rw[dK]at hqk;rw[aT _ _ j1]at hqj;have:=ho q hqk;have:=hlt j2 hqj;omega}
 {
 rw[aT _ _ j1]at hqj;rw[aT _ _ k1]at hqk;exact h3 j k c' d hjk j2 k2 q hqj hqk}}}
theorem nI.app{j0:Nat}{l:List Lv}(h:nI w0 w f g)(hj:g j0=some l)(hf:Fr (f j0).ownBlock.toList w w')(hr:aS w' v c)(ho:∀q,v.ownBlock=some q->(f j0).ownBlock=some q∨w.heap.size<=q)
    (hg:∀k c', g' k=some c' -> (k=i/\c' =c)∨(k≠i/\k≠j0/\g k=some c')):nI w0 w' (cM f i v) g' :=by
 obtain⟨h1,h2,h3⟩:=h;have hs:=h1.size;have hlt:∀{k d q},g k=some d->(f k).ownBlock=some q->q<w.heap.size:=fun hk hq=>(h2 _ _ hk).1.lt hq;refine⟨h1.trans hf (fun b hb=>.inr ((h2 j0 l hj).2 b (by simpa using hb))),fun k c' hk=>?_,fun j k c' d hjk hj' hk q hqj hqk=>?_⟩
 {
 rcases hg k c' hk with⟨rfl,rfl⟩|⟨k1,k3,k2⟩
 {
 rw[dK];exact⟨hr,fun q hq=>(ho q hq).elim (fun e=>(h2 j0 l hj).2 q e) (fun e=>zQ hs e)⟩}
 {
 rw[aT _ _ k1];exact⟨(h2 k c' k2).1.fr hf (fun q hq hm=>h3 k j0 c' l k3 k2 hj q hq (by simpa using hm)),(h2 k c' k2).2⟩}}
 {
 rcases hg j c' hj' with⟨rfl,rfl⟩|⟨j1,j3,j2⟩
 {
 rcases hg k d hk with⟨rfl,rfl⟩|⟨k1,k3,k2⟩
 · exact hjk rfl
 {
 rw[dK]at hqj;rw[aT _ _ k1]at hqk;rcases ho q hqj with e|e
 · exact h3 k j0 d l k3 k2 hj q hqk e
 · have:=hlt k2 hqk;omega}}
 {
 rcases hg k d hk with⟨rfl,rfl⟩|⟨k1,k3,k2⟩
 {
 rw[dK]at hqk;rw[aT _ _ j1]at hqj;rcases ho q hqk with e|e
 · exact h3 j j0 c' l j3 j2 hj q hqj e
 · have:=hlt j2 hqj;omega}
 {
 rw[aT _ _ j1]at hqj;rw[aT _ _ k1]at hqk;exact h3 j k c' d hjk j2 k2 q hqj hqk}}}
end
def lS(G:Nat->Value->Prop)(g:(Nat->Bool)->Nat->Option (List Lv))(w0:World)(f:Nat->Value)(L:Nat->Bool)(w:World):Prop:=(∀k,L k=true->G k (f k))/\nI w0 w f (g L)
section
variable {G:Nat->Value->Prop} {g:(Nat->Bool)->Nat->Option (List Lv)} {w0 w w' :World} {f:Nat->Value} {L:Nat->Bool} {i:Nat} {v:Value} {c:List Lv}
theorem wU(h:∀k,L k=true->G k (f k))(hG:G i v):∀k,cM L i true k=true->G k (cM f i v k):=fun k hk=>by
 by_cases e:k=i
 · subst e;rw[dK];exact hG
 · rw[aT _ _ e]at hk ⊢;exact h k hk
theorem lS.pass(h:lS G g w0 f L w)(hG:G i v)(hf:Fr [] w w')(hg:∀k c,g (cM L i true) k=some c->k≠i/\g L k=some c):lS G g w0 (cM f i v) (cM L i true) w' :=⟨wU h.1 hG,h.2.pass hf hg⟩
theorem lS.new(h:lS G g w0 f L w)(hG:G i v)(hf:Fr [] w w')(hr:aS w' v c)(ho:∀q,v.ownBlock=some q->w.heap.size<=q)
    (hg:∀k c', g (cM L i true) k=some c' -> (k=i/\c' =c)∨(k≠i/\g L k=some c')):lS G g w0 (cM f i v) (cM L i true) w' :=⟨wU h.1 hG,h.2.new hf hr ho hg⟩
theorem lS.app{j0:Nat}{l:List Lv}(h:lS G g w0 f L w)(hG:G i v)(hj:g L j0=some l)(hf:Fr (f j0).ownBlock.toList w w')(hr:aS w' v c)(ho:∀q,v.ownBlock=some q->(f j0).ownBlock=some q∨w.heap.size<=q)
    (hg:∀k c', g (cM L i true) k=some c' -> (k=i/\c' =c)∨(k≠i/\k≠j0/\g L k=some c')):lS G g w0 (cM f i v) (cM L i true) w' :=⟨wU h.1 hG,h.2.app hj hf hr ho hg⟩
theorem lS.row(h:lS G g w0 f L w){k:Nat}(hk:g L k=some c):aS w (f k) c:=(h.2.2.1 k c hk).1
theorem lS.fr(h:lS G g w0 f L w):Fr [] w0 w:=h.2.1
end
theorem bJ{md:Region.Mode}{o:Oper}{L:Nat->Bool}(h:∀j∈iH md o,L j=true)(j:Nat)(hj:(iH md o).contains j=true):L j=true:=h j (by simpa using hj)
theorem lS.start{G:Nat->Value->Prop}{g:(Nat->Bool)->Nat->Option (List Lv)}(w:World)(h:∀k,g (fun _=>false) k=none):lS G g w (fun _=>undef) (fun _=>false) w.drew:=
  ⟨fun k hk=>(by cases hk),show nI w w.drew _ _ from⟨(Fr.refl [] w).drew,fun k c hk=>(by rw[h k]at hk;cases hk),fun j k c d _ hj=>(by rw[h j]at hj;cases hj)⟩⟩
theorem bO{b:Act}{d:Nat}{v:Value}(h:b.tmps[d]? =some v):∀h:d<b.tmps.size,b.tmps[d]'h=v:=fun hd=>by rw[Array.getElem?_eq_getElem hd]at h;exact Option.some.inj h
theorem sR{b:Act}{d:Nat}{v:Value}(h:b.tmps[d]? =some v):b.eval (.tmp d)=v:=by simp[Act.eval,h]
theorem aRP{n len cap:Nat}:∀q,(Value.slice (some ⟨n,0,none⟩) len cap).ownBlock=some q->n<=q:=fun q hq=>by
 simp[Value.ownBlock]at hq;omega
def Clo(ops:Array Oper)(L:Nat->Bool):Prop:=∀k o,ops[k]? =some o->L k=true->∀j∈iH .any o,L j=true
def aWK(ops:Array Oper)(I:(Nat->Value)->(Nat->Bool)->World->Prop)(f:Nat->Value)(L:Nat->Bool)(w:World):Prop:=Clo ops L/\I f L w
def aCK(ops:Array Oper):Nat->Nat->List Nat
  | 0,k=>[k]
  | n+1,k=>k::match ops[k]? with|none=>[]|some o=>(iH .any o).flatMap (aCK ops n)
theorem Clo.reach{ops:Array Oper}{L:Nat->Bool}(h:Clo ops L):∀n k,L k=true->∀j∈aCK ops n k,L j=true
  | 0,k,hk,j,hj=>by rw[qP.1 hj];exact hk
  | n+1,k,hk,j,hj=>by
    rcases qF.1 hj with rfl|hj
    · exact hk
    · cases ho:ops[k]? with
      | none=>rw[ho]at hj;cases hj
      | some o=>
        rw[ho]at hj;obtain⟨i,hi,hj⟩:=List.mem_flatMap.1 hj;exact h.reach n i (h k o ho hk i hi) j hj
theorem Clo.none{ops:Array Oper}:Clo ops fun _=>false:=fun _ _ _ h=>(by cases h)
theorem Clo.step{ops:Array Oper}{L:Nat->Bool}(h:Clo ops L){k:Nat}{o:Oper}(ho:ops[k]? =some o)(hd:∀j∈iH .any o,L j=true):Clo ops (cM L k true):=fun i o' ho' hi j hj=>by
 have up:∀m,L m=true->cM L k true m=true:=fun m hm=>by
   by_cases e:m=k
   · subst e;exact dK ..
   · rw[aT _ _ e];exact hm
 by_cases e:i=k
 {
 subst e;obtain rfl:=Option.some.inj (ho.symm.trans ho');exact up _ (hd j hj)}
 {
 rw[aT _ _ e]at hi;exact up _ (h i o' ho' hi j hj)}
theorem rM{P:Program}{K K' :Value->World->Prop}(h:∀v w,K v w->K' v w){r:Result Go.Next}(hr:gC P K r):gC P K' r:=by
 cases r with
 | halt x w' =>exact hr.elim
 | ok x w' =>{
 cases x with
 | value u=>exact h _ _ hr
 | skip=>exact h _ _ hr
 | enter f args=>exact Calls.mono hr fun e w'' ⟨v,he,hw''⟩=>⟨v,he,h _ _ hw''⟩
 | _=>exact hr.elim}
theorem aM{P:Program}{ops:Array Oper}{I:(Nat->Value)->(Nat->Bool)->World->Prop}{f:Nat->Value}{k:Nat}{o:Oper}{a:Act}(ho:ops[k]? =some o)(hg:o.guard=none)
    (h:∀L w,Clo ops L->(∀j∈iH .any o,L j=true)->L k=false->I f L w->gC P (fun v w' =>I (cM f k v) (cM L k true) w') ((execOp a.eval o).run P w)):sT P ops .any (aWK ops I) f k o a:=
  aCQ hg fun L w hd hn hI=>rM (fun _ _ hk=>⟨hI.1.step ho hd,hk⟩) (h L w hI.1 hd hn hI.2)
theorem tE{P:Program}{id:Nat}{Q:Exit->Act->World->Prop}{a:Act}{w:World}{l:List Oper}(I:(Nat->Value)->(Nat->Bool)->World->Prop)(hm:P.follows .mixedOrders=true)(hB:aMZ .any l.toArray=true)
    (h0:I (fun _=>undef) (fun _=>false) w.drew) (hstep:∀f,rQ P l.toArray .any (aWK l.toArray I) f a 0 l)
    (hend:∀f L w', (∀k,k<l.length->L k=true)->I f L w' -> Q .normal (aFQ f 0 l a) w'):(Code.region id l.toArray true).wp P Q a w:=
  aCP (aWK l.toArray I) hm hB ⟨Clo.none,h0⟩ hstep fun f L w' hL hI=>hend f L w' hL hI.2
end Go.Proofs.YtgmnemndjjmgkaaGreat
