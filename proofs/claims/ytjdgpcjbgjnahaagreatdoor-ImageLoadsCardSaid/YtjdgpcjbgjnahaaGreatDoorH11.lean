/- A row of bytes, as a thing. -/
import Derived.Test.YtjdgpcjbgjnahaaGreatDoorH10
import Derived.Test.YtjdgpcjbgjnahaaGreatDoorH1
import Derived.Test.YtjdgpcjbgjnahaaGreatDoorH3
import Derived.Laws.BitsLemmas
set_option maxRecDepth 10000
set_option maxHeartbeats 3200000
set_option linter.unusedSimpArgs false
set_option linter.unusedVariables false
/- A window that is restored: the plain law; Clock.Live; New and from, refused. -/
namespace Go.Proofs.YtjdgpcjbgjnahaaGreatDoor
open Go.RowKit
def jC(m now t:Int):Bool:=decide (t<=now/\t+m<=9223372036854775807/\now<t+m)
theorem aOQ{w:World}{pc:Nat}{m now:Int}(h:Clk w pc m now)(t:Int)(ht:-9223372036854775808<=t)(ht2:t<=9223372036854775807):
    Calls Tryz.prog 89 #[jS pc,.int .i64 t] w fun e w' =>e=.returned (.bool (jC m now t))/\Fr [] w w' :=by
 have HV:=qA (oG h);have HA:=qA (xT h.m1 h.m2 t ht ht2 w);have c0:=h.hd.cell 0;have c1:=h.hd.cell 1;simp only[zJ,zK]at c0 c1;clear h;by_cases h1:t<=now
 {
 have d1:decide (t>now)=false:=qF (by omega);by_cases h2:t+m<=9223372036854775807
 {
 have e1:gJ t m=0:=qD h2;have e2:gK t m=t+m:=qD h2;rw[e1,e2]at HA;have e3:jC m now t=decide (now<t+m):=decide_eq_decide.2 ⟨fun h=>h.2.2,fun h=>⟨h1,h2,h⟩⟩;rw[e3];clear e1 e2 e3 h1 h2;generalize t+m=x at *;go_enter Tryz.func89,Tryz.ntmps89
 go_wp2_with fail
 refine HV.out.mono ?_;rintro _ w ⟨rfl,rfl⟩;go_wp2_with fail
 refine HA.out.mono ?_;rintro _ w ⟨rfl,rfl⟩;go_wp2
 go_ret;exact⟨rfl,Fr.refl _ _⟩}
 {
 have e1:gJ t m=7:=qC h2;rw[e1]at HA;have e3:jC m now t=false:=qF fun h=>h2 h.2.1;rw[e3];clear e1 e3 h1 h2;generalize gK t m=x at *;go_enter Tryz.func89,Tryz.ntmps89
 go_wp2_with fail
 refine HV.out.mono ?_;rintro _ w ⟨rfl,rfl⟩;go_wp2_with fail
 refine HA.out.mono ?_;rintro _ w ⟨rfl,rfl⟩;go_wp2
 go_ret;exact⟨rfl,Fr.refl _ _⟩}}
 {
 have d1:decide (t>now)=true:=qG (by omega);have e3:jC m now t=false:=qF fun h=>h1 h.1;rw[e3];clear h1 e3 HA;go_enter Tryz.func89,Tryz.ntmps89
 go_wp2_with fail
 refine HV.out.mono ?_;rintro _ w ⟨rfl,rfl⟩;go_wp2
 go_ret;exact⟨rfl,Fr.refl _ _⟩}
theorem aKK(m D E V:Int)(g:Nat)(w:World)(h:eZ m E V D=false):
    Calls Tryz.prog 46 #[.agg #[.int .i64 m,.int .i64 E,.int .i64 V,.int .i64 D],.int .u64 g] w fun e w' =>e=.returned (.tuple #[.pointer none,.int .i64 2])/\Fr [] w w' :=by
 have HC:=aCQ m E V D (w.alloc (.cells #[.int .i64 m,.int .i64 E,.int .i64 V,.int .i64 D] 31));rw[h]at HC;have HC:=qA HC;have hb:=Blk.new w [.int .i64 m,.int .i64 E,.int .i64 V,.int .i64 D] 31;have x0:=hb.cell 0;have x1:=hb.cell 1;have x2:=hb.cell 2;have x3:=hb.cell 3;simp only[zJ,zK]at x0 x1 x2 x3;clear hb h;go_enter Tryz.func46,Tryz.ntmps46
 go_wp2_with fail
 refine HC.out.mono ?_;rintro _ w1 ⟨rfl,hF⟩;have HF:=qA (((Fr.refl [] w).alloc _).trans' hF);clear hF x0 x1 x2 x3;go_wp2
 go_ret2;exact⟨rfl,HF.out⟩
def Wm.putT(W:Wm)(u v:Nat)(wt t:Int)(a b:Nat):Wm:={ W with s:=W.s.ins u v wt t (t+W.m),Q:=fun j=>if j=W.s.slot then some (t+W.m) else W.Q j,G:=fun j=>if j=W.s.slot then some (a,b,t+W.m) else W.G j }
theorem Wm.putT_ok{W:Wm}(h:W.Ok){u v:Nat}(hu:u<18446744073709551616)(hv:v<18446744073709551616)(wt t:Int)(h0:0<=t)(h1:t<=W.now)(h2:W.now<t+W.m)(hlt:∀e∈W.s.L,e.t<=t)(hc:W.s.chk u v=0)(hl:W.s.last<9223372036854775807){a b:Nat}
    (ha:(W.s.ins u v wt t (t+W.m)).M.find u=some a) (hb:(W.s.ins u v wt t (t+W.m)).M.find v=some b):(W.putT u v wt t a b).Ok:=by
 have hL:(W.putT u v wt t a b).s.L=W.s.L++[W.s.edge u v wt t (t+W.m)]:=rfl;refine⟨Sm.ok_ins h.ok hu hv hc (by omega) wt t (t+W.m),h.hV,h.hE,h.lk.ins h.ok hu hv hc wt t (t+W.m) ha hb,fun e he=>?_,?_,fun i hi=>?_,?_,?_,h.m1,h.m2,h.n0,h.n1⟩
 {
 rw[hL,qE,qH]at he;rcases he with he|rfl
 · exact h.x e he
 · exact⟨rfl,h0,h1,h2⟩}
 {
 rw[hL,List.pairwise_append];exact⟨h.mono,by simp,fun d hd e he=>by
   rw[qH]at he;subst he;exact hlt d hd⟩}
 {
 have hi' :i<(W.s.L++[W.s.edge u v wt t (t+W.m)]).length:=hi;show((W.s.L++[W.s.edge u v wt t (t+W.m)])[i]'hi').seq=W.gone+i+1
 rw[List.getElem_append];split
 · exact h.num i _
 {
 have:i=W.s.L.length:=by simp at hi'; omega
 subst this;simp only[Nat.sub_self,List.getElem_singleton];show W.s.last+1=_
 rw[h.last]}}
 {
 show W.s.last+1=W.gone+(W.s.L++[W.s.edge u v wt t (t+W.m)]).length
 rw[h.last];simp;omega}
 {
 show W.s.last+1<=_
 omega}
def Ob.putT(o:Ob)(u v:Nat)(wt t:Int):Ob:={ o with L:=o.L++[⟨0,o.last+1,u,v,wt,t,t+o.m⟩],last:=o.last+1 }
theorem aOR{W:Wm}(u v:Nat)(wt t:Int)(a b:Nat):(W.putT u v wt t a b).ob=W.ob.putT u v wt t:=by
 show Ob.mk _ _ _ _ _ ((W.s.L++[W.s.edge u v wt t (t+W.m)]).map cQ) (W.s.last+1) _=_
 rw[List.map_append];rfl
def Ob.chkO(o:Ob)(u v:Nat):Nat:=if u=v then 9 else if o.E<=o.L.length then 12 else if o.V<(Ob.idsUV o.L u v).length then 11 else 0
theorem aES{W:Wm}(h:W.Ok)(u v:Nat):W.s.chk u v=W.ob.chkO u v:=by
 by_cases hne:u=v
 · unfold Sm.chk Ob.chkO;rw[qD hne,qD hne]
 · rw[aRP h u v hne];unfold Ob.chkO;rw[qC hne];rfl
abbrev R4:=Nat×Nat×Int×Int
def Ob.resOk(o:Ob)(last:Int)(r:R4):Bool:=decide (last<=r.2.2.2)&&(jC o.m o.now r.2.2.2&&decide (o.chkO r.1 r.2.1=0))
def Ob.resL:Ob->Int->List R4->Option Ob
  | o,_,[]=>some o
  | o,last,r::rs=>if o.resOk last r=true then(o.putT r.1 r.2.1 r.2.2.1 r.2.2.2).resL r.2.2.2 rs else none
def Ob.at(m:Int)(E V:Nat)(D:Int)(now:Int)(g:Nat):Ob:=⟨m,E,V,D,now,[],g,g⟩
def eU(m E V D now:Int)(g:Nat)(l:List R4):Option Ob:=
  if g<=9223372036854775807/\eZ m E V D=true/\(l.length:Int)<=E/\l.length<=9223372036854775807-g/\mI m 0 now=0 then(Ob.at m E.toNat V.toNat D now g).resL 0 l else none
def jU:List Nat:=[83,69,69,80,1]
def aX(x:Int):Nat:=(x%18446744073709551616).toNat
def aI(x:Nat):Int:=if x<9223372036854775808 then x else(x:Int)-18446744073709551616
theorem jV(x:Int):aX x<18446744073709551616:=by unfold aX;omega
theorem gC{x:Int}(h1:-9223372036854775808<=x)(h2:x<=9223372036854775807):aI (aX x)=x:=by unfold aI aX;split<;>omega
theorem aGT{x:Nat}(h:x<18446744073709551616):aX (aI x)=x:=by unfold aI aX;split<;>omega
theorem dX(x:Nat)(h:x<18446744073709551616):-9223372036854775808<=aI x/\aI x<=9223372036854775807:=by unfold aI;split<;>omega
def rL(r:R4):List Nat:=beN 8 r.1++beN 8 r.2.1++beN 8 (aX r.2.2.1)++beN 8 (aX r.2.2.2)
def bT(l:List R4):List Nat:=l.flatMap rL
def jD(m E V D:Int):List Nat:=beN 8 (aX m)++beN 8 (aX E)++beN 8 (aX V)++beN 8 (aX D)
def lvR(e:Lv):R4:=(e.u,e.v,e.wt,e.t)
def nJ(m E V D now:Int)(a g:Nat):List Nat:=jU++jD m E V D++(beN 8 (aX now)++beN 8 a++beN 8 g)
def dY(m E V D now:Int)(a g:Nat)(l:List R4):List Nat:=nJ m E V D now a g++bT l
def uL(l:List Nat):List Nat:=l++beN 4 (crc l)
def Ob.img(o:Ob):List Nat:=uL (dY o.m o.E o.V o.D o.now o.last o.gone (o.L.map lvR))
theorem aAK(r:R4):(rL r).length=32:=by simp only[rL,zF,aN]
theorem vR(l:List R4):(bT l).length=32*l.length:=by
 induction l with
 | nil=>rfl
 | cons r l ih=>show(rL r++bT l).length=_;rw[zF,aAK,ih,qZ];omega
theorem aA(m E V D:Int):(jD m E V D).length=32:=by simp only[jD,zF,aN]
theorem tK(m E V D now:Int)(a g:Nat):(nJ m E V D now a g).length=61:=by simp only[nJ,zF,aA,aN];rfl
theorem jE(m E V D now:Int)(a g:Nat)(l:List R4):(dY m E V D now a g l).length=61+32*l.length:=by rw[dY,zF,tK,vR]
theorem aAL(l:List Nat):(uL l).length=l.length+4:=by rw[uL,zF,aN]
theorem aAM:Byt jU:=by unfold jU Byt;decide
theorem aKL(r:R4):Byt (rL r):=((dV _ _).app (dV _ _)).app (dV _ _) |>.app (dV _ _)
theorem aGU(l:List R4):Byt (bT l):=fun b hb=>by
 obtain⟨r,_,h⟩:=List.mem_flatMap.1 hb;exact aKL r b h
theorem aGV(m E V D:Int):Byt (jD m E V D):=((dV _ _).app (dV _ _)).app (dV _ _) |>.app (dV _ _)
theorem aCR(m E V D now:Int)(a g:Nat):Byt (nJ m E V D now a g):=(aAM.app (aGV _ _ _ _)).app (((dV _ _).app (dV _ _)).app (dV _ _))
theorem pM(m E V D now:Int)(a g:Nat)(l:List R4):Byt (dY m E V D now a g l):=(aCR _ _ _ _ _ _ _).app (aGU l)
theorem aKM{l:List Nat}(h:Byt l):Byt (uL l):=h.app (dV _ _)
def sub(b:List Nat)(i n:Nat):List Nat:=(b.drop i).take n
def bK:Nat->List Nat->List R4
  | 0,_=>[]
  | n+1,b=>(aC (sub b 0 8),aC (sub b 8 8),aI (aC (sub b 16 8)),aI (aC (sub b 24 8)))::bK n (b.drop 32)
def bX(b:List Nat):Int×Option Ob:=
  if b.length<65∨b.take 5≠jU then(15,none)
  else if aC (b.drop (b.length-4))≠crc (b.take (b.length-4)) then(17,none)
  else
    let a:=aC (sub b 45 8)
    let g:=aC (sub b 53 8)
    if a<g∨(b.length-65)%32≠0∨(b.length-65)/32≠a-g then(15,none)
    else
      match eU (aI (aC (sub b 5 8))) (aI (aC (sub b 13 8))) (aI (aC (sub b 21 8))) (aI (aC (sub b 29 8))) (aI (aC (sub b 37 8))) g (bK (a-g) (b.drop 61)) with
      | none=>(2,none)
      | some o=>(0,some o)
def RcW(w:World)(a:Option Addr)(l:List R4):Prop:=
  ∀i (hi:i<l.length),∃b off,a=some ⟨b,off,none⟩/\b<w.heap.size/\w.cell? ⟨b,off+i*4,none⟩=some (.int .u64 l[i].1)/\w.cell? ⟨b,off+i*4+1,none⟩=some (.int .u64 l[i].2.1) /\
    w.cell? ⟨b,off+i*4+2,none⟩=some (.int .i64 l[i].2.2.1)/\w.cell? ⟨b,off+i*4+3,none⟩=some (.int .i64 l[i].2.2.2)
def R4.ok(r:R4):Prop:=r.1<18446744073709551616/\r.2.1<18446744073709551616/\ -9223372036854775808<=r.2.2.2/\r.2.2.2<=9223372036854775807
def RsI(w wr:World)(p:Nat)(last:Int)(l:List R4)(R:Option Ob):Prop:=∃X K,kD wr p X K/\Fr [] w wr/\(∀q∈K,w.heap.size<=q)/\(∀e∈X.s.L,e.t<=last)/\0<=last/\X.s.L.length+l.length<=X.E/\X.s.last+l.length<=9223372036854775807/\X.ob.resL last l=R
def RsE(w w' :World)(R:Option Ob)(e:Ending):Prop:=match R with
  | none=>e=.returned (.tuple #[.pointer none,.int .i64 2])/\Fr [] w w'
  | some o=>∃p X K,e=.returned (.tuple #[eA p,.int .i64 0])/\X.ob=o/\kD w' p X K/\Fr [] w w' /\ ∀q∈K,w.heap.size<=q
theorem aRR(m E V D now:Int)(g:Nat)(a:Option Addr)(cap:Nat)(l:List R4)(w:World)(hg:g<18446744073709551616)(hn1:-9223372036854775808<=now)(hn2:now<=9223372036854775807)(hm2:m<=9223372036854775807)
    (hl:l.length<=9223372036854775807) (hrow:RcW w a l) (hok:∀r∈l,r.ok):
    Calls Tryz.prog 53 #[.agg #[.int .i64 m,.int .i64 E,.int .i64 V,.int .i64 D],.int .i64 now,.int .u64 g,.slice a l.length cap] w fun e w' =>RsE w w' (eU m E V D now g l) e:=by
 have hbx:=Blk.new w [.int .i64 m,.int .i64 E,.int .i64 V,.int .i64 D] 31;have hF1:Fr [] w (w.alloc (.cells #[.int .i64 m,.int .i64 E,.int .i64 V,.int .i64 D] 31)):=(Fr.refl [] w).alloc _;obtain⟨w1,hw1⟩:∃w1,w1=w.alloc (.cells #[.int .i64 m,.int .i64 E,.int .i64 V,.int .i64 D] 31):=⟨_,rfl⟩;rw[show w.alloc (.cells [.int .i64 m,.int .i64 E,.int .i64 V,.int .i64 D].toArray 31)=w.alloc (.cells #[.int .i64 m,.int .i64 E,.int .i64 V,.int .i64 D] 31) from rfl,<-hw1]at hbx;rw[<-hw1]at hF1;have HBx:=qA (zI hbx hF1);have x0:=hbx.cell 0;have x1:=hbx.cell 1;have x2:=hbx.cell 2;have x3:=hbx.cell 3;simp only[zJ,zK]at x0 x1 x2 x3;rw[hw1]at x0 x1 x2 x3;have HL:=qA (zI hrow hok);clear hbx hF1 hrow hok;by_cases hg1:g<=9223372036854775807
 {
 have d1:decide ((g:Int)>9223372036854775807)=false:=qF (by omega);cases hcf:eZ m E V D with
 | false=>{
 have hR:eU m E V D now g l=none:=qC (by rw[hcf];simp);rw[hR];have HFr:=aKK m D E V g w1 hcf;rw[hw1]at HFr;have HFr:=qA HFr;have HW1:=qA hw1;clear hR hcf hw1;go_enter Tryz.func53,Tryz.ntmps53
 go_wp2_with fail
 refine HFr.out.mono ?_;rintro _ w2 ⟨rfl,hF⟩;rw[<-HW1.out]at hF;have HF:=qA (HBx.out.2.trans' hF);clear hF x0 x1 x2 x3 HFr;go_wp2
 go_ret2;exact⟨rfl,HF.out⟩}
 | true=>{
 obtain⟨c1,c2,c3,c4,c5,c6,c7⟩:=cO.1 hcf;obtain⟨E,rfl⟩:=Int.eq_ofNat_of_zero_le (show 0<=E by omega);obtain⟨V,rfl⟩:=Int.eq_ofNat_of_zero_le (show 0<=V by omega);have hfr:=aEQ m D E V g w1 c1 hm2 (by omega) (by omega) (by omega) (by omega) c6 c7 hg1;rw[hw1]at hfr;have HFr:=qA hfr;have HW1:=qA hw1;clear hfr hw1;by_cases hlE:l.length<=E/\l.length<=9223372036854775807-g
 {
 have d2:decide ((l.length:Int)>E)=false:=qF (by omega);have d2n:decide (E<l.length)=false:=qF (by omega);have d3n:decide (9223372036854775807-(g:Int)<l.length)=false:=qF (by omega);have hw2:IntKind.u64.wrap (l.length:Int)=l.length:=by simp[IntKind.wrap,IntKind.bits,IntKind.signed];omega
 have hw3:IntKind.u64.wrap (9223372036854775807-(g:Int))=9223372036854775807-(g:Int):=by simp[IntKind.wrap,IntKind.bits,IntKind.signed];omega
 have d3:decide ((l.length:Int)>9223372036854775807-(g:Int))=false:=qF (by omega);by_cases hch:mI m 0 now=0
 {
 have hR:eU m E V D now g l=(Ob.at m E V D now g).resL 0 l:=by {
 unfold eU;rw[qD ⟨hg1,hcf,by omega,hlE.2,hch⟩];rfl};obtain⟨R,hRR⟩:∃R,R=(Ob.at m E V D now g).resL 0 l:=⟨_,rfl⟩;rw[hR,<-hRR];have HRR:=qA hRR;clear hRR;have HPl:=qA (zI hch (zI hlE.1 hlE.2));clear hR hcf hch hlE c1 c2 c3 c4 c5 c6 c7;go_enter Tryz.func53,Tryz.ntmps53
 go_wp2_with fail
 refine HFr.out.mono ?_;rintro _ w2 ⟨p,rfl,K,hK,hF2,hnK⟩;rw[<-HW1.out]at hF2 hnK;have hb2:=hF2.blk HBx.out.1 (by simp);have x1:=hb2.cell 1;simp only[zJ,zK]at x1;have HF2:=qA (zI (HBx.out.2.trans' hF2) (show ∀q∈K,w.heap.size<=q from fun q hq=>zH HBx.out.2.size (hnK q hq)));obtain⟨hokX,pc,ps,px,pf,nq,Ks,lx,Lf,cl,hB,hKe⟩:=hK;have c4:=hB.hd.cell 4;simp only[zJ,zK]at c4;have HAd:=qA (aJX hB.clk now hn1 hn2 HPl.out.1);have HB:=qA (zI hokX (zI hB hKe));clear hF2 hnK hb2 hB hKe hokX x0 x2 x3 HFr HW1;go_wp2_with fail
 refine HAd.out.mono ?_;rintro _ w3 ⟨rfl,hclk,hF3⟩;have hI:RsI w w3 p 0 l R:=by {
 rw[HRR.out];obtain⟨q1,q2⟩:=aEO HPl.out.1;obtain⟨hokX,hB,rfl⟩:=HB.out;have hB3:=hB.setClk hclk hF3;refine⟨{ (Wm.new m E V D g) with now:=now },eE p pc Ks lx Lf,⟨?_,pc,ps,px,pf,nq,Ks,lx,Lf,cl,hB3,rfl⟩,HF2.out.1.trans hF3 (fun b hb=>?_),HF2.out.2,fun e he=>(by cases he),Int.le_refl _,by show 0+_<=E;have:=HPl.out.2.1;omega,by show g+_<=_;have:=HPl.out.2.2;omega,rfl⟩
 · exact⟨hokX.ok,hokX.hV,hokX.hE,hokX.lk,fun e he=>(by cases he),List.Pairwise.nil,fun i hi=>absurd hi (Nat.not_lt_zero _),hokX.last,hokX.max,hokX.m1,hokX.m2,q1,q2⟩
 {
 have e:b=pc:=by simpa using hb
 exact .inr (by rw[e];exact HF2.out.2 pc (by simp[eE]))}};have HI:=qA hI;clear hclk hF3 hI HB HAd c4 x1 HF2;clear HRR;go_wp2_with fail
 go_loopw [12,48] (fun c1 c2 wr=>∃(i:Nat) (last:Int),i<=l.length/\c1=.int .i64 last/\c2=.int .i64 i/\Hid (RsI w wr p last (l.drop i) R)) (fun _ c _=>l.length-(intOf c).toNat)
 case atStart=>exact⟨0,0,qS _,rfl,rfl,HI⟩
 case round=>
  obtain⟨i,last,hi,rfl,rfl,HR⟩:=hrel;clear HI;rename World=>wr
  by_cases hil:i<l.length
  {
  have hii:(i:Int)<l.length:=by omega
  have hi0:(0:Int)<=i:=by omega
  obtain⟨X,K,⟨hokX,pc,ps,px,pf,nq,Ks,lx,Lf,cl,hB,rfl⟩,hF,hnK,hle,hl0,hle1,hle2,hres⟩:=HR.out;rw[List.drop_eq_getElem_cons hil]at hres hle1 hle2;have hrok:=HL.out.2 _ (List.getElem_mem hil);obtain⟨b,off,rfl,hbw,z0,z1,z2,z3⟩:=HL.out.1 i hil;generalize l[i]'hil=r at *;obtain⟨u,v,wt,t⟩:=r;obtain⟨k1,k2,k3,k4⟩:=hrok;simp only at k1 k2 k3 k4 z0 z1 z2 z3;have z0:=hF.cell z0 (by simp);have z1:=hF.cell z1 (by simp);have z2:=hF.cell z2 (by simp);have z3:=hF.cell z3 (by simp);have hby:=Blk.new wr [.int .u64 u,.int .u64 v,.int .i64 wt,.int .i64 t] 72;have hFa:Fr [] wr (wr.alloc (.cells #[.int .u64 u,.int .u64 v,.int .i64 wt,.int .i64 t] 72)):=(Fr.refl [] wr).alloc _;have hBa:=hB.fr0 hFa;obtain⟨wa,hwa⟩:∃wa,wa=wr.alloc (.cells #[.int .u64 u,.int .u64 v,.int .i64 wt,.int .i64 t] 72):=⟨_,rfl⟩;rw[show wr.alloc (.cells [.int .u64 u,.int .u64 v,.int .i64 wt,.int .i64 t].toArray 72)=wr.alloc (.cells #[.int .u64 u,.int .u64 v,.int .i64 wt,.int .i64 t] 72) from rfl,<-hwa]at hby;rw[<-hwa]at hFa hBa;have y0:=hby.cell 0;have y1:=hby.cell 1;have y2:=hby.cell 2;have y3:=hby.cell 3;have c4:=hBa.hd.cell 4;have c5:=hBa.hd.cell 5;simp only[zJ,zK]at y0 y1 y2 y3 c4 c5;have hLive:∀w', Fr [] wa w' -> Calls Tryz.prog 89 #[jS pc,.int .i64 t] w' fun e w'' =>e=.returned (.bool (jC X.m X.now t))/\Fr [] wa w'' :=fun w' h=>(aOQ (hBa.clk.fr0 h) t k3 k4).mono fun _ _ k=>⟨k.1,h.trans' k.2⟩;have hChk:∀w', Fr [] wa w' -> Calls Tryz.prog 90 #[iM ps,aBW u v wt t] w' fun e w'' =>e=.returned (.int .i64 (X.s.chk u v))/\Fr [] wa w'' :=fun w' h=>(yU (hBa.st.fr0 h) u v k1 k2 wt t).mono fun _ _ k=>⟨k.1,h.trans' k.2⟩;have HX:=qA (zI hokX (zI hBa (zI (hF.trans' hFa) (zI hnK (zI hle (zI hl0 (zI hle1 (zI hle2 hres))))))));clear hokX hB hBa hF hnK hle hl0 hle1 hle2 hres hby hbw;have hunf:∀{b:Bool},X.ob.resOk last (u,v,wt,t)=b->(if b=true then(X.ob.putT u v wt t).resL t (l.drop (i+1)) else none)=R:=fun {b} hb=>by
    rw[<-hb];exact HX.out.2.2.2.2.2.2.2.2
  by_cases hlt:t<last
  {
  have d5:decide (t<last)=true:=qG hlt;have hRn:R=none:=by {
  have:=hunf (b:=false) (by unfold Ob.resOk;rw[qF (show ¬last<=t by omega)];rfl);exact this.symm};subst hRn;clear hlt hunf;have HLive:=qA hLive;have HChk:=qA hChk;have Hwa:=qA hwa;clear hLive hChk hwa;go_wp2_with fail
  rw[<-Hwa.out];refine eH (fun w' =>Fr [] wa w') (by kernel_rfl) (by kernel_rfl) ((Fr.refl [] wa).drew) ?_;iterate 1 (refine aJ (by kernel_rfl) (fun KK hK=>?_);go_simp;refine hK.out _ ?_;clear hK KK)
  refine bO (by kernel_rfl) (.int .i64 t) (fun w' hw' =>?_) ?_
  {
  have y3:=hw'.cell y3 (by simp);go_simp;first|done|exact hw' | exact⟨rfl,hw'⟩};iterate 3 (refine aJ (by kernel_rfl) (fun KK hK=>?_);go_simp;refine hK.out _ ?_;clear hK KK)
  iterate 8 (refine rM (by kernel_rfl) ?_)
  iterate 2 (refine aJ (by kernel_rfl) (fun KK hK=>?_);go_simp;refine hK.out _ ?_;clear hK KK)
  iterate 7 (refine rM (by kernel_rfl) ?_)
  iterate 1 (refine aJ (by kernel_rfl) (fun KK hK=>?_);go_simp;refine hK.out _ ?_;clear hK KK)
  refine jN ?_;intro w6 hF6;have HF6:=qA (HX.out.2.2.1.trans' hF6);clear hF6 y0 y1 y2 y3 c4 c5 z0 z1 z2 z3 HX HR;go_wp2
  go_ret2;exact⟨rfl,HF6.out⟩}
  {
  have d5:decide (t<last)=false:=qF hlt;cases hlv:jC X.m X.now t with
  | false=>{
  have hRn:R=none:=by {
  have:=hunf (b:=false) (by unfold Ob.resOk;rw[show jC X.ob.m X.ob.now t=false from hlv];simp);exact this.symm};subst hRn;rw[hlv]at hLive;clear hlt hunf hlv;have HLive:=qA hLive;have HChk:=qA hChk;have Hwa:=qA hwa;clear hLive hChk hwa;go_wp2_with fail
  rw[<-Hwa.out];refine eH (fun w' =>Fr [] wa w') (by kernel_rfl) (by kernel_rfl) ((Fr.refl [] wa).drew) ?_;iterate 1 (refine aJ (by kernel_rfl) (fun KK hK=>?_);go_simp;refine hK.out _ ?_;clear hK KK)
  refine bO (by kernel_rfl) (.int .i64 t) (fun w' hw' =>?_) ?_
  {
  have y3:=hw'.cell y3 (by simp);go_simp;first|done|exact hw' | exact⟨rfl,hw'⟩};iterate 3 (refine aJ (by kernel_rfl) (fun KK hK=>?_);go_simp;refine hK.out _ ?_;clear hK KK)
  iterate 3 (refine aJ (by kernel_rfl) (fun KK hK=>?_);go_simp;refine hK.out _ ?_;clear hK KK)
  refine bO (by kernel_rfl) (jS pc) (fun w' hw' =>?_) ?_
  {
  have c4:=hw'.cell c4 (by simp);go_simp;first|done|exact hw' | exact⟨rfl,hw'⟩};iterate 1 (refine aJ (by kernel_rfl) (fun KK hK=>?_);go_simp;refine hK.out _ ?_;clear hK KK)
  refine bO (by kernel_rfl) (.int .i64 t) (fun w' hw' =>?_) ?_
  {
  have y3:=hw'.cell y3 (by simp);go_simp;first|done|exact hw' | exact⟨rfl,hw'⟩};refine bO (by kernel_rfl) (.bool false) (fun w' hw' =>?_) ?_
  {
  go_simp;exact HLive.out _ hw'};iterate 1 (refine aJ (by kernel_rfl) (fun KK hK=>?_);go_simp;refine hK.out _ ?_;clear hK KK)
  iterate 2 (refine aJ (by kernel_rfl) (fun KK hK=>?_);go_simp;refine hK.out _ ?_;clear hK KK)
  iterate 7 (refine rM (by kernel_rfl) ?_)
  iterate 1 (refine aJ (by kernel_rfl) (fun KK hK=>?_);go_simp;refine hK.out _ ?_;clear hK KK)
  refine jN ?_;intro w6 hF6;have HF6:=qA (HX.out.2.2.1.trans' hF6);clear hF6 y0 y1 y2 y3 c4 c5 z0 z1 z2 z3 HX HR;go_wp2
  go_ret2;exact⟨rfl,HF6.out⟩}
  | true=>{
  obtain⟨cc,hcc⟩:∃cc:Int,cc=(X.s.chk u v:Nat):=⟨_,rfl⟩;rw[hlv]at hLive;rw[<-hcc]at hChk;by_cases hc0:X.s.chk u v=0
  {
  have hcc0:cc=0:=by rw[hcc,hc0];rfl
  subst hcc0;have hR2:=hunf (b:=true) (by
    unfold Ob.resOk;rw[show jC X.ob.m X.ob.now t=true from hlv,qG (show last<=t by omega),qG (show X.ob.chkO u v=0 by rw[<-aES HX.out.1];exact hc0)];rfl)
  rw[qD rfl]at hR2;have hlv' :=of_decide_eq_true hlv;have hN:=vO HX.out.2.1 HX.out.1.lk HX.out.1.ok HX.out.1.hV HX.out.1.hE u v k1 k2 wt t (by have:=HX.out.2.2.2.2.2.1;omega) hlv'.2.1 hc0;have HG:=qA (zI hlv' (zI hc0 (zI hR2 (zI (Int.not_lt.1 hlt) (zI k1 k2)))));clear hlt hunf hlv hc0 hR2 hlv' hcc hN;have HLive:=qA hLive;have HChk:=qA hChk;have Hwa:=qA hwa;clear hLive hChk hwa;go_wp2_with fail
  rw[<-Hwa.out];refine eH (fun w' =>Fr [] wa w') (by kernel_rfl) (by kernel_rfl) ((Fr.refl [] wa).drew) ?_;iterate 1 (refine aJ (by kernel_rfl) (fun KK hK=>?_);go_simp;refine hK.out _ ?_;clear hK KK)
  refine bO (by kernel_rfl) (.int .i64 t) (fun w' hw' =>?_) ?_
  {
  have y3:=hw'.cell y3 (by simp);go_simp;first|done|exact hw' | exact⟨rfl,hw'⟩};iterate 3 (refine aJ (by kernel_rfl) (fun KK hK=>?_);go_simp;refine hK.out _ ?_;clear hK KK)
  iterate 3 (refine aJ (by kernel_rfl) (fun KK hK=>?_);go_simp;refine hK.out _ ?_;clear hK KK)
  refine bO (by kernel_rfl) (jS pc) (fun w' hw' =>?_) ?_
  {
  have c4:=hw'.cell c4 (by simp);go_simp;first|done|exact hw' | exact⟨rfl,hw'⟩};iterate 1 (refine aJ (by kernel_rfl) (fun KK hK=>?_);go_simp;refine hK.out _ ?_;clear hK KK)
  refine bO (by kernel_rfl) (.int .i64 t) (fun w' hw' =>?_) ?_
  {
  have y3:=hw'.cell y3 (by simp);go_simp;first|done|exact hw' | exact⟨rfl,hw'⟩};refine bO (by kernel_rfl) (.bool true) (fun w' hw' =>?_) ?_
  {
  go_simp;exact HLive.out _ hw'};iterate 1 (refine aJ (by kernel_rfl) (fun KK hK=>?_);go_simp;refine hK.out _ ?_;clear hK KK)
  iterate 2 (refine aJ (by kernel_rfl) (fun KK hK=>?_);go_simp;refine hK.out _ ?_;clear hK KK)
  iterate 3 (refine aJ (by kernel_rfl) (fun KK hK=>?_);go_simp;refine hK.out _ ?_;clear hK KK)
  refine bO (by kernel_rfl) (iM ps) (fun w' hw' =>?_) ?_
  {
  have c5:=hw'.cell c5 (by simp);go_simp;first|done|exact hw' | exact⟨rfl,hw'⟩};refine bO (by kernel_rfl) (aBW u v wt t) (fun w' hw' =>?_) ?_
  {
  have y0:=hw'.cell y0 (by simp);have y1:=hw'.cell y1 (by simp);have y2:=hw'.cell y2 (by simp);have y3:=hw'.cell y3 (by simp);go_simp;first|done|exact hw' | exact⟨rfl,hw'⟩};refine bO (by kernel_rfl) (.int .i64 0) (fun w' hw' =>?_) ?_
  {
  go_simp;exact HChk.out _ hw'};iterate 1 (refine aJ (by kernel_rfl) (fun KK hK=>?_);go_simp;refine hK.out _ ?_;clear hK KK)
  iterate 1 (refine aJ (by kernel_rfl) (fun KK hK=>?_);go_simp;refine hK.out _ ?_;clear hK KK)
  refine jN ?_;intro w6 hF6;have hBw:=HX.out.2.1.fr0 hF6;have y0:=hF6.cell y0 (by simp);have y1:=hF6.cell y1 (by simp);have y2:=hF6.cell y2 (by simp);have y3:=hF6.cell y3 (by simp);have HN:=qA (vO hBw HX.out.1.lk HX.out.1.ok HX.out.1.hV HX.out.1.hE u v k1 k2 wt t (by have:=HX.out.2.2.2.2.2.1;have:=HG.out.2.2.2.1;omega) HG.out.1.2.1 HG.out.2.1 (by have h:=HX.out.2.2.2.2.2.2.2.1;simp only[qZ]at h;show X.s.last+1<=_;omega) (by have h:=HX.out.2.2.2.2.2.2.2.1;simp only[qZ]at h;show X.s.last+1<=_;omega));have HF6:=qA hF6;clear hF6 c4 c5 z0 z1 z2 z3 hBw HR;go_wp2_with fail
  refine HN.out.mono ?_;rintro _ w7 ⟨rfl,ea,eb,Ks7,lx7,Lf7,ha,hb,hI7⟩;have HNew:Hid (RsI w w7 p t (l.drop (i+1)) R):=qA (by
    obtain⟨hokX,hBa,hFw,hnK,hle,hl0,hle1,hle2,_⟩:=HX.out;obtain⟨hlv', hc0,hR2,hlt,k1,k2⟩:=HG.out;obtain⟨⟨cl7,hB7⟩,hF7,hn7,_⟩:=hI7;simp only[qZ]at hle1 hle2;have hs1:=hFw.size;have hs2:=HF6.out.size;have hwp:({ (X.wp nq) with s:=(X.wp nq).s.ins u v wt t (t+(X.wp nq).m),Q:=fun j=>if j=(X.wp nq).s.slot then some (t+(X.wp nq).m) else(X.wp nq).Q j,nq:=(X.wp nq).nq+1,G:=fun j=>if j=(X.wp nq).s.slot then some (ea,eb,t+(X.wp nq).m) else(X.wp nq).G j,added:=(X.wp nq).added+1 }:Wp)=(X.putT u v wt t ea eb).wp (nq+1):=by
      simp[Wm.wp,Wm.putT,Sm.ins];exact⟨rfl,rfl⟩
    rw[hwp]at hB7;refine⟨X.putT u v wt t ea eb,eE p pc Ks7 lx7 Lf7,⟨Wm.putT_ok hokX k1 k2 wt t (by omega) hlv'.1 hlv'.2.2 (fun e he=>by have:=hle e he;omega) hc0 (by omega) ha hb,pc,ps,px,pf,nq+1,Ks7,lx7,Lf7,cl7,hB7,rfl⟩,(hFw.trans' HF6.out).trans hF7 (fun b hb=>.inr (hnK b hb)),fun q hq=>?_,fun e he=>?_,by omega,?_,?_,?_⟩
    · rcases hn7 q hq with h | h
      · exact hnK q h
      · omega
    · have he' : e ∈ X.s.L ++ [X.s.edge u v wt t (t + X.m)] := he
      rw[qE,qH]at he';rcases he' with he' | rfl
      · have:=hle e he'; omega
      · exact Int.le_refl _
    · show (X.s.L ++ [X.s.edge u v wt t (t + X.m)]).length + _ <= X.E
      rw[zF];simp only[qZ,List.length_nil];omega
    · show X.s.last + 1 + _ <= _
      omega
    · rw[aOR];exact hR2)
  clear hI7 ha hb HN y0 y1 y2 y3 HX HG;go_wp2_with fail
  go_roundw
  case rel=>exact⟨i+1,t,by omega,rfl,by go_num,HNew⟩
  case measure=>simp[intOf];omega}
  {
  have hRn:R=none:=by {
  have:=hunf (b:=false) (by unfold Ob.resOk;rw[qF (show ¬X.ob.chkO u v=0 by rw[<-aES HX.out.1];exact hc0)];simp);exact this.symm};subst hRn;have d6:(cc != 0)=true:=by rw[hcc];simp;omega
  clear hlt hunf hlv hc0 hcc;have HLive:=qA hLive;have HChk:=qA hChk;have Hwa:=qA hwa;clear hLive hChk hwa;go_wp2_with fail
  rw[<-Hwa.out];refine eH (fun w' =>Fr [] wa w') (by kernel_rfl) (by kernel_rfl) ((Fr.refl [] wa).drew) ?_;iterate 1 (refine aJ (by kernel_rfl) (fun KK hK=>?_);go_simp;refine hK.out _ ?_;clear hK KK)
  refine bO (by kernel_rfl) (.int .i64 t) (fun w' hw' =>?_) ?_
  {
  have y3:=hw'.cell y3 (by simp);go_simp;first|done|exact hw' | exact⟨rfl,hw'⟩};iterate 3 (refine aJ (by kernel_rfl) (fun KK hK=>?_);go_simp;refine hK.out _ ?_;clear hK KK)
  iterate 3 (refine aJ (by kernel_rfl) (fun KK hK=>?_);go_simp;refine hK.out _ ?_;clear hK KK)
  refine bO (by kernel_rfl) (jS pc) (fun w' hw' =>?_) ?_
  {
  have c4:=hw'.cell c4 (by simp);go_simp;first|done|exact hw' | exact⟨rfl,hw'⟩};iterate 1 (refine aJ (by kernel_rfl) (fun KK hK=>?_);go_simp;refine hK.out _ ?_;clear hK KK)
  refine bO (by kernel_rfl) (.int .i64 t) (fun w' hw' =>?_) ?_
  {
  have y3:=hw'.cell y3 (by simp);go_simp;first|done|exact hw' | exact⟨rfl,hw'⟩};refine bO (by kernel_rfl) (.bool true) (fun w' hw' =>?_) ?_
  {
  go_simp;exact HLive.out _ hw'};iterate 1 (refine aJ (by kernel_rfl) (fun KK hK=>?_);go_simp;refine hK.out _ ?_;clear hK KK)
  iterate 2 (refine aJ (by kernel_rfl) (fun KK hK=>?_);go_simp;refine hK.out _ ?_;clear hK KK)
  iterate 3 (refine aJ (by kernel_rfl) (fun KK hK=>?_);go_simp;refine hK.out _ ?_;clear hK KK)
  refine bO (by kernel_rfl) (iM ps) (fun w' hw' =>?_) ?_
  {
  have c5:=hw'.cell c5 (by simp);go_simp;first|done|exact hw' | exact⟨rfl,hw'⟩};refine bO (by kernel_rfl) (aBW u v wt t) (fun w' hw' =>?_) ?_
  {
  have y0:=hw'.cell y0 (by simp);have y1:=hw'.cell y1 (by simp);have y2:=hw'.cell y2 (by simp);have y3:=hw'.cell y3 (by simp);go_simp;first|done|exact hw' | exact⟨rfl,hw'⟩};refine bO (by kernel_rfl) (.int .i64 cc) (fun w' hw' =>?_) ?_
  {
  go_simp;exact HChk.out _ hw'};iterate 1 (refine aJ (by kernel_rfl) (fun KK hK=>?_);go_simp;refine hK.out _ ?_;clear hK KK)
  iterate 1 (refine aJ (by kernel_rfl) (fun KK hK=>?_);go_simp;refine hK.out _ ?_;clear hK KK)
  refine jN ?_;intro w6 hF6;have HF6:=qA (HX.out.2.2.1.trans' hF6);clear hF6 y0 y1 y2 y3 c4 c5 z0 z1 z2 z3 HX HR;go_wp2
  go_ret2;exact⟨rfl,HF6.out⟩}}}}
  {
  obtain rfl:i=l.length:=by omega
  obtain⟨X,K,hX,hF,hnK,hle,hl0,hle1,hle2,hres⟩:=HR.out;rw[List.drop_eq_nil_of_le (qK _)]at hres;have hRn:R=some X.ob:=hres.symm;subst hRn;have HX:=qA (zI hX (zI hF hnK));clear hX hF hnK hle hl0 hle1 hle2 hres HR;go_wp2
  go_ret2;exact⟨p,X,K,rfl,rfl,HX.out⟩}}
 {
 have hR:eU m E V D now g l=none:=qC (fun h=>hch h.2.2.2.2);rw[hR];obtain⟨cc,hcc⟩:∃cc,cc=mI m 0 now:=⟨_,rfl⟩;have d6:(cc != 0)=true:=by rw[hcc];simp[hch]
 have HC:=qA (zI hcc hch);clear hR hcf hlE c1 c2 c3 c4 c5 c6 c7 hcc hch;go_enter Tryz.func53,Tryz.ntmps53
 go_wp2_with fail
 refine HFr.out.mono ?_;rintro _ w2 ⟨p,rfl,K,hK,hF2,hnK⟩;rw[<-HW1.out]at hF2 hnK;have hb2:=hF2.blk HBx.out.1 (by simp);have x1:=hb2.cell 1;simp only[zJ,zK]at x1;have HF2:=qA (HBx.out.2.trans' hF2);obtain⟨hokX,pc,ps,px,pf,nq,Ks,lx,Lf,cl,hB,hKe⟩:=hK;have c4:=hB.hd.cell 4;simp only[zJ,zK]at c4;have hAd:=aOD hB.clk now hn1 hn2 HC.out.2;rw[show mI (Wm.wp (Wm.new m E V D g) nq).m (Wm.wp (Wm.new m E V D g) nq).now now=cc from HC.out.1.symm]at hAd;have HAd:=qA hAd;clear hF2 hnK hb2 hB hKe hokX x0 x2 x3 HFr HW1 hAd;go_wp2_with fail
 refine HAd.out.mono ?_;rintro _ w3 ⟨rfl,rfl⟩;clear c4 x1 HAd;go_wp2
 go_ret2;exact⟨rfl,HF2.out⟩}}
 {
 have hR:eU m E V D now g l=none:=qC (fun h=>hlE ⟨by omega,h.2.2.2.1⟩);rw[hR];clear hR hcf c1 c2 c4 c5 c6 c7;by_cases hl1:l.length<=E
 {
 have d2:decide ((l.length:Int)>E)=false:=qF (by omega);have d2n:decide (E<l.length)=false:=qF (by omega);have d3n:decide (9223372036854775807-(g:Int)<l.length)=true:=qG (by omega);have d3:decide ((l.length:Int)>9223372036854775807-(g:Int))=true:=qG (by omega);have hw2:IntKind.u64.wrap (l.length:Int)=l.length:=by simp[IntKind.wrap,IntKind.bits,IntKind.signed];omega
 have hw3:IntKind.u64.wrap (9223372036854775807-(g:Int))=9223372036854775807-(g:Int):=by simp[IntKind.wrap,IntKind.bits,IntKind.signed];omega
 clear hlE hl1;go_enter Tryz.func53,Tryz.ntmps53
 go_wp2_with fail
 refine HFr.out.mono ?_;rintro _ w2 ⟨p,rfl,K,hK,hF2,hnK⟩;rw[<-HW1.out]at hF2;have hb2:=hF2.blk HBx.out.1 (by simp);have x1:=hb2.cell 1;simp only[zJ,zK]at x1;have HF2:=qA (HBx.out.2.trans' hF2);clear hF2 hnK hb2 hK x0 x2 x3 HFr HW1;go_wp2
 go_ret2;exact⟨rfl,HF2.out⟩}
 {
 have d2:decide ((l.length:Int)>E)=true:=qG (by omega);have d2n:decide (E<l.length)=true:=qG (by omega);clear hlE hl1;go_enter Tryz.func53,Tryz.ntmps53
 go_wp2_with fail
 refine HFr.out.mono ?_;rintro _ w2 ⟨p,rfl,K,hK,hF2,hnK⟩;rw[<-HW1.out]at hF2;have hb2:=hF2.blk HBx.out.1 (by simp);have x1:=hb2.cell 1;simp only[zJ,zK]at x1;have HF2:=qA (HBx.out.2.trans' hF2);clear hF2 hnK hb2 hK x0 x2 x3 HFr HW1;go_wp2
 go_ret2;exact⟨rfl,HF2.out⟩}}}}
 {
 have hR:eU m E V D now g l=none:=qC (fun h=>hg1 h.1);rw[hR];have d1:decide ((g:Int)>9223372036854775807)=true:=qG (by omega);have HF:=qA HBx.out.2;rw[hw1]at HF;clear hR hg1 hw1 HBx;go_enter Tryz.func53,Tryz.ntmps53
 go_wp2
 go_ret2;exact⟨rfl,HF.out⟩}
structure Og (o:Ob) (k:Nat):Prop where
  ok:o.Ok
  m:o.m=20
  E:o.E=40
  V:o.V=12
  D:o.D=0
  now:o.now<=3*k
  id:∀e∈o.L,e.u<12/\e.v<12
  last:o.last<=k
section
variable {o:Ob} {k:Nat}
end
section
variable {W wr w' :World} {p:Nat} {o:Ob} {ts:List Th}
def ResE(W w' :World)(ts:List Th)(R:Option Ob)(e:Ending):Prop:=match R with
  | none=>e=.returned (.tuple #[.pointer none,.int .i64 2])/\Wd W w' ts
  | some o=>∃p,e=.returned (.tuple #[eA p,.int .i64 0])/\Wd W w' (thO p o::ts)
theorem aRS(h:Wd W wr ts)(m E V D now:Int)(g:Nat)(a:Option Addr)(cap:Nat)(l:List R4)(hg:g<18446744073709551616)(hn1:-9223372036854775808<=now)(hn2:now<=9223372036854775807)(hm2:m<=9223372036854775807)
    (hl:l.length<=9223372036854775807) (hrow:RcW wr a l) (hok:∀r∈l,r.ok):
    Calls Tryz.prog 53 #[.agg #[.int .i64 m,.int .i64 E,.int .i64 V,.int .i64 D],.int .i64 now,.int .u64 g,.slice a l.length cap] wr fun e w' =>ResE W w' ts (eU m E V D now g l) e:=by
 refine(aRR m E V D now g a cap l wr hg hn1 hn2 hm2 hl hrow hok).mono fun e w' k=>?_;cases hR:eU m E V D now g l with
 | none=>rw[hR]at k;exact⟨k.1,h.fr0 k.2⟩
 | some o=>{
 rw[hR]at k;obtain⟨p,X,K,k1,k2,k3,k4,k5⟩:=k;exact⟨p,k1,h.new k4 ⟨X,k2,k3⟩ k5⟩}
end
def rC(r:R4):List Value:=[.int .u64 r.1,.int .u64 r.2.1,.int .i64 r.2.2.1,.int .i64 r.2.2.2]
def rowR(l:List R4):List Value:=l.flatMap rC
theorem aGW(l:List R4)(e:R4):rowR (l++[e])=rowR l++rC e:=by simp[rowR]
theorem aET:∀{l:List R4} {i:Nat} (hi:i<l.length) (j:Nat),j<4->(rowR l)[i*4+j]? =(rC l[i])[j]?
  | e::l,0,_,j,hj=>by
    show(rC e++rowR l)[0*4+j]? =(rC e)[j]?
    rw[List.getElem?_append_left (by simp[rC];omega)];congr 1;omega
  | e::l,i+1,hi,j,hj=>by
    show(rC e++rowR l)[(i+1)*4+j]? =_
    rw[List.getElem?_append_right (by simp[rC];omega)];have:=aET (l:=l) (i:=i) (by simpa using hi) j hj;rw[show(i+1)*4+j-(rC e).length=i*4+j by simp[rC];omega,this];simp
def lH(w:World)(v:Value)(l:List R4):Prop:=w.ownsRow 0 72 4 v l.length (rowR l)
section
variable {w w' :World} {v:Value} {l:List R4}
theorem lH.fr{S:List Nat}(h:lH w v l)(hf:Fr S w w')(hs:∀q,v.ownBlock=some q->q∉S):lH w' v l:=
  aU h (fun q hq=>hf.keep q (cH h hq) (hs q hq))
theorem lH.slice(h:lH w v l):∃a cap,v=.slice a l.length cap:=bH h
theorem lH.nil(w:World):lH w (.slice none 0 0) []:=⟨rfl,.inl ⟨rfl,rfl⟩⟩
theorem lH.lt(h:lH w v l){q:Nat}(hq:v.ownBlock=some q):q<w.heap.size:=cH h hq
theorem lH.at(h:lH w v l){i:Nat}(hi:i<l.length):∃b cap,v=.slice (some ⟨b,0,none⟩) l.length cap/\l.length<=cap/\b<w.heap.size/\(∀j,w.frozen? ⟨b,j,none⟩=false)/\∀j,j<4->w.cell? ⟨b,i*4+j,none⟩=(rC l[i])[j]? :=by
 obtain⟨h1,h2⟩:=h;rcases h2 with⟨rfl,h0⟩|⟨g,cap,cur,rfl,_,hh,hn,hm,hsz,hxs⟩
 · omega
 {
 refine⟨g,cap,rfl,hn,(qM.1 hh).1,fun j=>by simp[World.frozen?,hh],?_⟩;intro j hj;rw[<-aET hi j hj,<-hxs,List.getElem?_take,qD (by omega)];simp[World.cell?,hh]}
theorem lH.rc{a:Option Addr}{cap:Nat}(h:lH w (.slice a l.length cap) l):RcW w a l:=by
 intro i hi;obtain⟨b,cap', ev,_,hb,_,hc⟩:=h.at hi;simp only[qP]at ev;exact⟨b,0,ev.1,hb,by rw[Nat.zero_add];exact hc 0 (by omega),by rw[Nat.zero_add];exact hc 1 (by omega),by rw[Nat.zero_add];exact hc 2 (by omega),by rw[Nat.zero_add];exact hc 3 (by omega)⟩
end
def thR(v:Value)(l:List R4):Th:=⟨fun w K=>lH w v l/\K=v.ownBlock.toList,fun⟨h,e⟩ q hq=>h.lt (by simpa[e] using hq),fun⟨h,e⟩ hf hs=>⟨h.fr hf (fun q hq=>hs q (by simp[e,hq])),e⟩⟩
theorem Wd.rowR{W wr:World}{ts:List Th}{v:Value}{l:List R4}(h:Wd W wr (thR v l::ts)):lH wr v l:=by obtain⟨K,h,_⟩:=h.get;exact h
theorem aKN{L M:List Lv}(h:∀e∈L,e∈M):(bR L).length<=(bR M).length:=
  mM (aCO L) fun x hx=>by
 obtain⟨e,he,hat⟩:=gL.1 hx;exact gL.2 ⟨e,h e he,hat⟩
theorem aCS(L:List Lv)(e:Lv):Ob.idsUV L e.u e.v=bR (L++[e]):=by
 unfold Ob.idsUV bR;rw[List.foldl_append];rfl
theorem fQ{l m r:List Nat}{i n:Nat}(hi:l.length=i)(hn:m.length=n):sub (l++(m++r)) i n=m:=by
 subst hi hn;unfold sub;rw[List.drop_left,List.take_left]
theorem aKO(b:List Nat)(i n k:Nat):sub (b.drop k) i n=sub b (k+i) n:=by unfold sub;rw[List.drop_drop]
def R4.fit(r:R4):Prop:=r.1<18446744073709551616/\r.2.1<18446744073709551616/\(-9223372036854775808<=r.2.2.1/\r.2.2.1<=9223372036854775807)/\ -9223372036854775808<=r.2.2.2/\r.2.2.2<=9223372036854775807
theorem tL{x:Nat}(h:x<18446744073709551616):aC (beN 8 x)=x:=by rw[aBE];exact Nat.mod_eq_of_lt h
theorem rA:∀(l:List R4) (r:List Nat),(∀x∈l,R4.fit x)->bK l.length (bT l++r)=l
  | [],_,_=>rfl
  | x::l,r,h=>by
    obtain⟨h1,h2,h3,h4⟩:=h x List.mem_cons_self;have e:bT (x::l)++r=beN 8 x.1++(beN 8 x.2.1++(beN 8 (aX x.2.2.1)++(beN 8 (aX x.2.2.2)++(bT l++r)))):=by
      show(rL x++bT l)++r=_
      unfold rL;simp only[List.append_assoc]
    have e2:bT (x::l)++r=rL x++(bT l++r):=List.append_assoc ..;have l8:∀y,(beN 8 y).length=8:=aN 8;have q0:sub (bT (x::l)++r) 0 8=beN 8 x.1:=by rw[e];exact fQ (l:=[]) rfl (l8 _)
    have q1:sub (bT (x::l)++r) 8 8=beN 8 x.2.1:=by rw[e];exact fQ (l8 _) (l8 _)
    have q2:sub (bT (x::l)++r) 16 8=beN 8 (aX x.2.2.1):=by
      rw[e,<-List.append_assoc];exact fQ (by rw[zF,l8,l8]) (l8 _)
    have q3:sub (bT (x::l)++r) 24 8=beN 8 (aX x.2.2.2):=by
      rw[e,<-List.append_assoc,<-List.append_assoc];exact fQ (by rw[zF,zF,l8,l8,l8]) (l8 _)
    have q4:(bT (x::l)++r).drop 32=bT l++r:=by rw[e2];exact List.drop_left' (aAK x)
    show(aC (sub (bT (x::l)++r) 0 8),aC (sub (bT (x::l)++r) 8 8),aI (aC (sub (bT (x::l)++r) 16 8)),aI (aC (sub (bT (x::l)++r) 24 8)))::bK l.length ((bT (x::l)++r).drop 32)=x::l
    rw[q0,q1,q2,q3,q4,rA l r (fun y hy=>h y (List.mem_cons_of_mem _ hy)),tL h1,tL h2,tL (jV _),tL (jV _),gC h3.1 h3.2,gC h4.1 h4.2]
theorem aKP{m E V D now:Int}{a g:Nat}{l:List R4}(hm:-9223372036854775808<=m/\m<=9223372036854775807)(hE:-9223372036854775808<=E/\E<=9223372036854775807)(hV:-9223372036854775808<=V/\V<=9223372036854775807)(hD:-9223372036854775808<=D/\D<=9223372036854775807)
    (hn:-9223372036854775808<=now/\now<=9223372036854775807) (ha:a<18446744073709551616) (hg:g<18446744073709551616) (hl:∀x∈l,R4.fit x) (hag:a=g+l.length):
    bX (uL (dY m E V D now a g l))=match eU m E V D now g l with|none=>(2,none)|some o=>(0,some o):=by
 obtain⟨b,hb⟩:∃b,b=uL (dY m E V D now a g l):=⟨_,rfl⟩;have hlen:b.length=65+32*l.length:=by rw[hb,aAL,jE];omega
 have l8:∀y,(beN 8 y).length=8:=aN 8;have e:b=jU++(beN 8 (aX m)++(beN 8 (aX E)++(beN 8 (aX V)++(beN 8 (aX D)++(beN 8 (aX now)++(beN 8 a++(beN 8 g++(bT l++beN 4 (crc (dY m E V D now a g l)))))))))):=by {
 rw[hb];unfold uL;(conv=>lhs;lhs;unfold dY nJ jD);simp only[List.append_assoc]};have h5:b.take 5=jU:=by rw[e];exact List.take_left' rfl
 have q0:sub b 5 8=beN 8 (aX m):=by rw[e];exact fQ rfl (l8 _)
 have q1:sub b 13 8=beN 8 (aX E):=by rw[e,<-List.append_assoc];exact fQ (by rw[zF,l8];rfl) (l8 _)
 have q2:sub b 21 8=beN 8 (aX V):=by rw[e,<-List.append_assoc,<-List.append_assoc];exact fQ (by simp only[zF,l8];rfl) (l8 _)
 have q3:sub b 29 8=beN 8 (aX D):=by rw[e,<-List.append_assoc,<-List.append_assoc,<-List.append_assoc];exact fQ (by simp only[zF,l8];rfl) (l8 _)
 have q4:sub b 37 8=beN 8 (aX now):=by rw[e,<-List.append_assoc,<-List.append_assoc,<-List.append_assoc,<-List.append_assoc];exact fQ (by simp only[zF,l8];rfl) (l8 _)
 have q5:sub b 45 8=beN 8 a:=by rw[e,<-List.append_assoc,<-List.append_assoc,<-List.append_assoc,<-List.append_assoc,<-List.append_assoc];exact fQ (by simp only[zF,l8];rfl) (l8 _)
 have q6:sub b 53 8=beN 8 g:=by rw[e,<-List.append_assoc,<-List.append_assoc,<-List.append_assoc,<-List.append_assoc,<-List.append_assoc,<-List.append_assoc];exact fQ (by simp only[zF,l8];rfl) (l8 _)
 have q7:b.drop 61=bT l++beN 4 (crc (dY m E V D now a g l)):=by rw[hb];unfold uL dY;rw[List.append_assoc];exact List.drop_left' (tK _ _ _ _ _ _ _)
 have q8:b.take (b.length-4)=dY m E V D now a g l:=by rw[hlen,hb];exact List.take_left' (by rw[jE];omega)
 have q9:b.drop (b.length-4)=beN 4 (crc (dY m E V D now a g l)):=by rw[hlen,hb];exact List.drop_left' (by rw[jE];omega)
 have hc:aC (beN 4 (crc (dY m E V D now a g l)))=crc (dY m E V D now a g l):=by rw[aBE];exact Nat.mod_eq_of_lt (rU (pM _ _ _ _ _ _ _ _))
 rw[<-hb];unfold bX;rw[qC (by rw[h5,hlen];simp),qC (by rw[q8,q9,hc];simp)];simp only;rw[q5,q6,q7,q4,q3,q2,q1,q0,tL ha,tL hg,tL (jV _),tL (jV _),tL (jV _),tL (jV _),tL (jV _),gC hm.1 hm.2,gC hE.1 hE.2,gC hV.1 hV.2,gC hD.1 hD.2,gC hn.1 hn.2,hlen];rw[qC (by omega),show a-g=l.length by omega,rA l _ hl];first|done|(cases eU m E V D now g l<;>rfl)
def inI(x:Int):Prop:=-9223372036854775808<=x/\x<=9223372036854775807
structure Ob.Pc (o:Ob):Prop where
  cf:eZ o.m o.E o.V o.D=true
  fit:∀e∈o.L,inI e.wt
theorem aRT{m D:Int}{E V g:Nat}(h:eZ m E V D=true):(Ob.new m E V D g).Pc:=⟨h,fun e he=>by cases he⟩
theorem Ob.img_len(o:Ob):o.img.length=65+32*o.L.length:=by unfold Ob.img;rw[aAL,jE,List.length_map];omega
theorem aAN{b:List Nat}{i n k:Nat}(h:i+n<=k):sub (b.take k) i n=sub b i n:=by
 unfold sub;rw[List.drop_take,List.take_take,Nat.min_eq_left (by omega)]
def gQ(b:List Nat):R4:=(aC (b.take 8),aC ((b.drop 8).take 8),aI (aC (((b.drop 8).drop 8).take 8)),aI (aC ((((b.drop 8).drop 8).drop 8).take 8)))
theorem cW(n:Nat)(b:List Nat):bK (n+1) b=gQ b::bK n (b.drop 32):=by
 unfold gQ;simp only[List.drop_drop];rfl
theorem lI:∀(n:Nat) (b:List Nat),bK (n+1) b=bK n b++[gQ (b.drop (32*n))]
  | 0,b=>by rw[cW];rfl
  | n+1,b=>by
    rw[cW,lI n (b.drop 32),List.drop_drop,cW n b,zC,show 32+32*n=32*(n+1) by omega]
theorem dO:∀(n:Nat) (b:List Nat),(bK n b).length=n
  | 0,_=>rfl
  | n+1,b=>by rw[cW,qZ,dO n]
theorem rB:∀(n:Nat) (b:List Nat) (k:Nat),32*n<=k->bK n (b.take k)=bK n b
  | 0,_,_,_=>rfl
  | n+1,b,k,h=>by
    rw[cW,cW,List.drop_take,rB n (b.drop 32) (k-32) (by omega)];unfold gQ;simp only[List.drop_take,List.take_take];rw[show min 8 k=8 by omega,show min 8 (k-8)=8 by omega,show min 8 (k-8-8)=8 by omega,show min 8 (k-8-8-8)=8 by omega]
theorem aKQ{b:List Nat}(h:Byt b):(gQ b).1<18446744073709551616/\(gQ b).2.1<18446744073709551616/\(-9223372036854775808<=(gQ b).2.2.1/\(gQ b).2.2.1<=9223372036854775807)/\ -9223372036854775808<=(gQ b).2.2.2/\(gQ b).2.2.2<=9223372036854775807:=by
 have h8:∀c:List Nat,Byt c->aC (c.take 8)<18446744073709551616:=fun c hc=>by
   have h1:=fK (hc.take 8);have h2:256 ^ (c.take 8).length<=256 ^ 8:=Nat.pow_le_pow_right (by decide) (by rw[List.length_take];omega);exact Nat.lt_of_lt_of_le h1 h2
 exact⟨h8 _ h,h8 _ (h.drop 8),dX _ (h8 _ ((h.drop 8).drop 8)),dX _ (h8 _ (((h.drop 8).drop 8).drop 8))⟩
theorem nK:∀(n:Nat) {b:List Nat},Byt b->∀r∈bK n b,R4.fit r
  | 0,_,_,_,h=>by cases h
  | n+1,b,hb,r,h=>by
    rw[cW]at h;rcases qB.1 h with rfl|h
    · exact aKQ hb
    · exact nK n (hb.drop 32) r h
def aRU(R:Option Ob):Int×Option Ob:=match R with|none=>(2,none)|some o=>(0,some o)
theorem aAO{l B R:List Nat}{m:Nat}(h65:l.length=m+4)(hm:61<=m)(h5:l.take 5=jU)(hB:B=l.take m)(hR:R=B.drop 37):
    bX l=if aC (l.drop m)≠crc B then((17:Int),(none:Option Ob)) else
      if aC ((R.drop 8).take 8)<aC (((R.drop 8).drop 8).take 8)∨(m-61)%32≠0∨(m-61)/32≠aC ((R.drop 8).take 8)-aC (((R.drop 8).drop 8).take 8) then(15,none) else
        aRU (eU (aI (aC (sub (B.drop 5) 0 8))) (aI (aC (sub (B.drop 5) 8 8))) (aI (aC (sub (B.drop 5) 16 8))) (aI (aC (sub (B.drop 5) 24 8))) (aI (aC (R.take 8))) (aC (((R.drop 8).drop 8).take 8)) (bK (aC ((R.drop 8).take 8)-aC (((R.drop 8).drop 8).take 8)) (((R.drop 8).drop 8).drop 8))):=by
 have q:∀i,i+8<=m->(B.drop i).take 8=sub l i 8:=fun i hi=>by
   rw[hB];exact aAN hi
 have c:∀i,i+13<=m->sub (B.drop 5) i 8=sub l (5+i) 8:=fun i hi=>by rw[aKO,hB];exact aAN (by omega)
 have e0:R.take 8=sub l 37 8:=by rw[hR];exact q 37 (by omega)
 have e1:(R.drop 8).take 8=sub l 45 8:=by rw[hR,List.drop_drop];exact q 45 (by omega)
 have e2:((R.drop 8).drop 8).take 8=sub l 53 8:=by rw[hR,List.drop_drop,List.drop_drop];exact q 53 (by omega)
 have e3:((R.drop 8).drop 8).drop 8=(l.drop 61).take (m-61):=by rw[hR,List.drop_drop,List.drop_drop,List.drop_drop,hB,List.drop_take]
 rw[e0,e1,e2,e3,c 0 (by omega),c 8 (by omega),c 16 (by omega),c 24 (by omega)];unfold bX;rw[qC (by rw[h5,h65];simp;omega),show l.length-4=m by omega,<-hB];by_cases hs:aC (l.drop m)≠crc B
 · rw[qD hs,qD hs]
 {
 rw[qC hs,qC hs];simp only;rw[show l.length-65=m-61 by omega];by_cases hk:aC (sub l 45 8)<aC (sub l 53 8)∨(m-61)%32≠0∨(m-61)/32≠aC (sub l 45 8)-aC (sub l 53 8)
 · rw[qD hk,qD hk]
 {
 rw[qC hk,qC hk,rB _ _ _ (by omega)];unfold aRU;rfl}}
theorem lJ{l:List Nat}(h:l.length<65):bX l=(15,none):=by unfold bX;rw[qD (.inl h)]
theorem lK{l:List Nat}(h:l.take 5≠jU):bX l=(15,none):=by unfold bX;rw[qD (.inr h)]
end Go.Proofs.YtjdgpcjbgjnahaaGreatDoor
namespace Go.Proofs.YtjdgpcjbgjnahaaGreatDoor
open Go Go.RowKit
theorem wrap_u32{n:Nat}(h:n<4294967296):IntKind.u32.wrap (n:Int)=n:=by rw[IntKind.wrap_u32];omega
theorem jW{a b:Nat}(ha:a<4294967296)(hb:b<4294967296):bits .xor .u32 (a:Int) (b:Int)=((a ^^^ b:Nat):Int):=by
 have ha' :a%2 ^ IntKind.u32.bits=a:=Nat.mod_eq_of_lt ha;have hb' :b%2 ^ IntKind.u32.bits=b:=Nat.mod_eq_of_lt hb;have k:(BitVec.ofNat IntKind.u32.bits a ^^^ BitVec.ofNat IntKind.u32.bits b).toNat=a ^^^ b:=by rw[BitVec.toNat_xor,BitVec.toNat_ofNat,BitVec.toNat_ofNat,ha', hb']
 simp only[bits,BitVec.ofInt_natCast];rw[k];exact wrap_u32 (uP ha hb)
theorem aKR{r:Nat}(h:r<4294967296):bits .and .u32 (r:Int) 1=((r%2:Nat):Int):=by
 have k:=bits_mask .u32 32 (by decide) (fun n h0 h1=>by rw[IntKind.wrap_u32];omega) 1 (by decide) (r:Int) (by omega) (by omega);rw[show((2:Int) ^ 1-1)=1 by decide]at k;rw[k];omega
theorem aOS{r:Nat}(h:r<4294967296):bits .xor .u32 ((r/2:Nat):Int) (bits .and .u32 3988292384 (IntKind.u32.wrap (-((r%2:Nat):Int))))=((rT r:Nat):Int):=by
 unfold rT;by_cases h1:r%2=1
 {
 rw[qD h1,h1];have e:bits .and .u32 3988292384 (IntKind.u32.wrap (-((1:Nat):Int)))=((3988292384:Nat):Int):=by decide +kernel
 rw[e];exact jW (by omega) (by decide)}
 {
 have h0:r%2=0:=by omega
 rw[qC h1,h0];have e:bits .and .u32 3988292384 (IntKind.u32.wrap (-((0:Nat):Int)))=((0:Nat):Int):=by decide +kernel
 rw[e,jW (by omega) (by decide),Nat.xor_zero]}
theorem aKS{r:Nat}(h:r<4294967296):bits .xor .u32 ((r:Int)/2) (bits .and .u32 3988292384 (-((r:Int)%2)%4294967296))=((rT r:Nat):Int):=by
 have k:=aOS h;rw[IntKind.wrap_u32,Int.natCast_ediv,Int.natCast_emod]at k;exact k
theorem aOT{r:Nat}(h:r<4294967296):bits .xor .u32 IntKind.u32.max (r:Int)=((r ^^^ 4294967295:Nat):Int):=by
 have k:=jW (a:=4294967295) (b:=r) (by decide) h;rw[Nat.xor_comm]at k;exact k
end Go.Proofs.YtjdgpcjbgjnahaaGreatDoor
namespace Go.Proofs.YtjdgpcjbgjnahaaGreatDoor
open Go.RowKit
def iC(w:World):Prop:=∃a b c d,w.cell? ⟨0,0,none⟩=some (.string a)/\w.cell? ⟨0,1,none⟩=some (.int .i64 1)/\w.cell? ⟨0,2,none⟩=some (.int .i64 9223372036854775807)/\w.cell? ⟨0,3,none⟩=some (.string b)/\w.cell? ⟨0,4,none⟩=some (.int .i64 1)/\w.cell? ⟨0,5,none⟩=some (.int .i64 16384) /\
  w.cell? ⟨0,6,none⟩=some (.string c)/\w.cell? ⟨0,7,none⟩=some (.int .i64 2)/\w.cell? ⟨0,8,none⟩=some (.int .i64 4096)/\w.cell? ⟨0,9,none⟩=some (.string d)/\w.cell? ⟨0,10,none⟩=some (.int .i64 0)/\w.cell? ⟨0,11,none⟩=some (.int .i64 16384)
theorem iC.fr{w w' :World}{S:List Nat}(h:iC w)(hf:Fr S w w')(hs:0∉S):iC w' :=by
 obtain⟨a,b,c,d,h0,h1,h2,h3,h4,h5,h6,h7,h8,h9,h10,h11⟩:=h;exact⟨a,b,c,d,hf.cell h0 hs,hf.cell h1 hs,hf.cell h2 hs,hf.cell h3 hs,hf.cell h4 hs,hf.cell h5 hs,hf.cell h6 hs,hf.cell h7 hs,hf.cell h8 hs,hf.cell h9 hs,hf.cell h10 hs,hf.cell h11 hs⟩
@[go_sem] theorem aTR(a b c d:ByteArray)(w:World):(Instr.index 172 (.agg #[.string a,.int .i64 1,.int .i64 9223372036854775807,.string b,.int .i64 1,.int .i64 16384,.string c,.int .i64 2,.int .i64 4096,.string d,.int .i64 0,.int .i64 16384]) (.int .i64 0)).run Tryz.prog w=.ok (.agg #[.string a,.int .i64 1,.int .i64 9223372036854775807]) w:=by kernel_rfl
@[go_sem] theorem aTS(a b c d:ByteArray)(w:World):(Instr.index 172 (.agg #[.string a,.int .i64 1,.int .i64 9223372036854775807,.string b,.int .i64 1,.int .i64 16384,.string c,.int .i64 2,.int .i64 4096,.string d,.int .i64 0,.int .i64 16384]) (.int .i64 1)).run Tryz.prog w=.ok (.agg #[.string b,.int .i64 1,.int .i64 16384]) w:=by kernel_rfl
@[go_sem] theorem aTT(a b c d:ByteArray)(w:World):(Instr.index 172 (.agg #[.string a,.int .i64 1,.int .i64 9223372036854775807,.string b,.int .i64 1,.int .i64 16384,.string c,.int .i64 2,.int .i64 4096,.string d,.int .i64 0,.int .i64 16384]) (.int .i64 2)).run Tryz.prog w=.ok (.agg #[.string c,.int .i64 2,.int .i64 4096]) w:=by kernel_rfl
@[go_sem] theorem aTU(a b c d:ByteArray)(w:World):(Instr.index 172 (.agg #[.string a,.int .i64 1,.int .i64 9223372036854775807,.string b,.int .i64 1,.int .i64 16384,.string c,.int .i64 2,.int .i64 4096,.string d,.int .i64 0,.int .i64 16384]) (.int .i64 3)).run Tryz.prog w=.ok (.agg #[.string d,.int .i64 0,.int .i64 16384]) w:=by kernel_rfl
def cA(m E V D:Int):Int:=if m<1 then 0 else if E<1∨16384<E then 1 else if V<2∨4096<V then 2 else if D<0∨16384<D then 3 else -1
theorem xY{w:World}(hL:iC w)(m E V D:Int)(hm:m<=9223372036854775807):
    Calls Tryz.prog 74 #[.agg #[.int .i64 m,.int .i64 E,.int .i64 V,.int .i64 D]] w fun e w' =>e=.returned (.int .i64 (cA m E V D))/\Fr [] w w' :=by
 have hb:=Blk.new w [.int .i64 m,.int .i64 E,.int .i64 V,.int .i64 D] 115;have hF:Fr [] w (w.alloc (.cells #[.int .i64 m,.int .i64 E,.int .i64 V,.int .i64 D] 115)):=(Fr.refl [] w).alloc _;obtain⟨a,b,c,d,h0,h1,h2,h3,h4,h5,h6,h7,h8,h9,h10,h11⟩:=hL.fr hF (by simp);have HB:=qA (zI hb hF);clear hb hF hL;go_enter Tryz.func74,Tryz.ntmps74
 go_wp2_with fail
 clear h0 h1 h2 h3 h4 h5 h6 h7 h8 h9 h10 h11;go_loopw [6] (fun i wr=>∃k:Nat,k<=4/\i=.int .i64 k/\Hid (Fr [] (w.alloc (.cells #[.int .i64 m,.int .i64 E,.int .i64 V,.int .i64 D] 115)) wr/\(0<k->1<=m)/\(1<k->1<=E/\E<=16384)/\(2<k->2<=V/\V<=4096)/\(3<k->0<=D/\D<=16384))) (fun i _=>4-(intOf i).toNat)
 case atStart=>exact⟨0,by omega,rfl,qA ⟨Fr.refl _ _,by omega,by omega,by omega,by omega⟩⟩
 case round=>
  obtain⟨k,hk,rfl,HP⟩:=hrel;by_cases hlt:k<4
  {
  have hb:=HP.out.1.blk HB.out.1 (by simp);have r0:=hb.cell 0;have r1:=hb.cell 1;have r2:=hb.cell 2;have r3:=hb.cell 3;simp only[zJ,zK]at r0 r1 r2 r3;have hk4:k=0∨k=1∨k=2∨k=3:=by omega
  rcases hk4 with rfl|rfl|rfl|rfl
  {
  have hF1:Fr [] wr (wr.alloc (.cells #[.string a,.int .i64 1,.int .i64 9223372036854775807] 171)):=(Fr.refl [] wr).alloc _;have hb1:=Blk.new wr [.string a,.int .i64 1,.int .i64 9223372036854775807] 171;have q1:=hb1.cell 1;have q2:=hb1.cell 2;simp only[zJ,zK]at q1 q2;have v0:=hF1.cell r0 (by simp);have HF1:=qA (HP.out.1.trans' hF1);have HG:=qA HP.out.2;clear hF1 hb1 hb r0 r1 r2 r3 HP;rcases(show m<1∨1<=m/\(9223372036854775807<m∨m<=9223372036854775807) by omega) with hd|⟨hd,he|he⟩
  {
  have d1:decide (m<1)=true:=qG hd;have e:cA m E V D=0:=by have hp:=HG.out;unfold cA;repeat (first|rw[qD (by omega)]|rw[qC (by omega)])
  clear HG;go_wp2_with fail
  go_quiet (fail)
  go_wp2_with fail
  go_ret;exact⟨by rw[e];rfl,HB.out.2.trans' (HF1.out.drewN _)⟩}
  · omega
  {
  have d1:decide (m<1)=false:=qF (by omega);have d2:decide (m>9223372036854775807)=false:=qF (by omega);go_wp2_with fail
  go_quiet (fail)
  go_wp2_with fail
  have HN:=qA (HF1.out.drewN nq);have hp:=HG.out;go_roundw
  case rel=>exact⟨1,by omega,rfl,qA ⟨HN.out,by omega,by omega,by omega,by omega⟩⟩
  case measure=>simp[intOf]}}
  {
  have hF1:Fr [] wr (wr.alloc (.cells #[.string b,.int .i64 1,.int .i64 16384] 171)):=(Fr.refl [] wr).alloc _;have hb1:=Blk.new wr [.string b,.int .i64 1,.int .i64 16384] 171;have q1:=hb1.cell 1;have q2:=hb1.cell 2;simp only[zJ,zK]at q1 q2;have v0:=hF1.cell r1 (by simp);have HF1:=qA (HP.out.1.trans' hF1);have HG:=qA HP.out.2;clear hF1 hb1 hb r0 r1 r2 r3 HP;rcases(show E<1∨1<=E/\(16384<E∨E<=16384) by omega) with hd|⟨hd,he|he⟩
  {
  have d1:decide (E<1)=true:=qG hd;have e:cA m E V D=1:=by have hp:=HG.out;unfold cA;repeat (first|rw[qD (by omega)]|rw[qC (by omega)])
  clear HG;go_wp2_with fail
  go_quiet (fail)
  go_wp2_with fail
  go_ret;exact⟨by rw[e];rfl,HB.out.2.trans' (HF1.out.drewN _)⟩}
  {
  have d1:decide (E<1)=false:=qF (by omega);have d2:decide (E>16384)=true:=qG he;have e:cA m E V D=1:=by have hp:=HG.out;unfold cA;repeat (first|rw[qD (by omega)]|rw[qC (by omega)])
  clear HG;go_wp2_with fail
  go_quiet (fail)
  go_wp2_with fail
  go_ret;exact⟨by rw[e];rfl,HB.out.2.trans' (HF1.out.drewN _)⟩}
  {
  have d1:decide (E<1)=false:=qF (by omega);have d2:decide (E>16384)=false:=qF (by omega);go_wp2_with fail
  go_quiet (fail)
  go_wp2_with fail
  have HN:=qA (HF1.out.drewN nq);have hp:=HG.out;go_roundw
  case rel=>exact⟨2,by omega,rfl,qA ⟨HN.out,by omega,by omega,by omega,by omega⟩⟩
  case measure=>simp[intOf]}}
  {
  have hF1:Fr [] wr (wr.alloc (.cells #[.string c,.int .i64 2,.int .i64 4096] 171)):=(Fr.refl [] wr).alloc _;have hb1:=Blk.new wr [.string c,.int .i64 2,.int .i64 4096] 171;have q1:=hb1.cell 1;have q2:=hb1.cell 2;simp only[zJ,zK]at q1 q2;have v0:=hF1.cell r2 (by simp);have HF1:=qA (HP.out.1.trans' hF1);have HG:=qA HP.out.2;clear hF1 hb1 hb r0 r1 r2 r3 HP;rcases(show V<2∨2<=V/\(4096<V∨V<=4096) by omega) with hd|⟨hd,he|he⟩
  {
  have d1:decide (V<2)=true:=qG hd;have e:cA m E V D=2:=by have hp:=HG.out;unfold cA;repeat (first|rw[qD (by omega)]|rw[qC (by omega)])
  clear HG;go_wp2_with fail
  go_quiet (fail)
  go_wp2_with fail
  go_ret;exact⟨by rw[e];rfl,HB.out.2.trans' (HF1.out.drewN _)⟩}
  {
  have d1:decide (V<2)=false:=qF (by omega);have d2:decide (V>4096)=true:=qG he;have e:cA m E V D=2:=by have hp:=HG.out;unfold cA;repeat (first|rw[qD (by omega)]|rw[qC (by omega)])
  clear HG;go_wp2_with fail
  go_quiet (fail)
  go_wp2_with fail
  go_ret;exact⟨by rw[e];rfl,HB.out.2.trans' (HF1.out.drewN _)⟩}
  {
  have d1:decide (V<2)=false:=qF (by omega);have d2:decide (V>4096)=false:=qF (by omega);go_wp2_with fail
  go_quiet (fail)
  go_wp2_with fail
  have HN:=qA (HF1.out.drewN nq);have hp:=HG.out;go_roundw
  case rel=>exact⟨3,by omega,rfl,qA ⟨HN.out,by omega,by omega,by omega,by omega⟩⟩
  case measure=>simp[intOf]}}
  {
  have hF1:Fr [] wr (wr.alloc (.cells #[.string d,.int .i64 0,.int .i64 16384] 171)):=(Fr.refl [] wr).alloc _;have hb1:=Blk.new wr [.string d,.int .i64 0,.int .i64 16384] 171;have q1:=hb1.cell 1;have q2:=hb1.cell 2;simp only[zJ,zK]at q1 q2;have v0:=hF1.cell r3 (by simp);have HF1:=qA (HP.out.1.trans' hF1);have HG:=qA HP.out.2;clear hF1 hb1 hb r0 r1 r2 r3 HP;rcases(show D<0∨0<=D/\(16384<D∨D<=16384) by omega) with hd|⟨hd,he|he⟩
  {
  have d1:decide (D<0)=true:=qG hd;have e:cA m E V D=3:=by have hp:=HG.out;unfold cA;repeat (first|rw[qD (by omega)]|rw[qC (by omega)])
  clear HG;go_wp2_with fail
  go_quiet (fail)
  go_wp2_with fail
  go_ret;exact⟨by rw[e];rfl,HB.out.2.trans' (HF1.out.drewN _)⟩}
  {
  have d1:decide (D<0)=false:=qF (by omega);have d2:decide (D>16384)=true:=qG he;have e:cA m E V D=3:=by have hp:=HG.out;unfold cA;repeat (first|rw[qD (by omega)]|rw[qC (by omega)])
  clear HG;go_wp2_with fail
  go_quiet (fail)
  go_wp2_with fail
  go_ret;exact⟨by rw[e];rfl,HB.out.2.trans' (HF1.out.drewN _)⟩}
  {
  have d1:decide (D<0)=false:=qF (by omega);have d2:decide (D>16384)=false:=qF (by omega);go_wp2_with fail
  go_quiet (fail)
  go_wp2_with fail
  have HN:=qA (HF1.out.drewN nq);have hp:=HG.out;go_roundw
  case rel=>exact⟨4,by omega,rfl,qA ⟨HN.out,by omega,by omega,by omega,by omega⟩⟩
  case measure=>simp[intOf]}}}
  {
  obtain rfl:k=4:=by omega
  have hp:=HP.out;have e:cA m E V D=-1:=by {
  unfold cA;rw[qC (by omega),qC (by omega),qC (by omega),qC (by omega)]};have HF:=qA (HB.out.2.trans' hp.1);clear hp HP HB;go_wp2
  go_ret;exact⟨by rw[e];rfl,HF.out⟩}
def bF(l:List Nat):List Value:=l.map fun b:Nat=>.int .u8 (b:Int)
theorem oI(l:List Nat):(bF l).length=l.length*1:=by simp[bF]
theorem oJ(l m:List Nat):bF (l++m)=bF l++bF m:=List.map_append
theorem aEU{l:List Nat}{i:Nat}(hi:i<l.length):(bF l)[i]? =some (.int .u8 (l[i]'hi:Nat)):=by
 unfold bF;rw[List.getElem?_map,qL hi];rfl
theorem aKT(l:List Nat):∀u∈bF l,u.oneCell' =true:=fun u hu=>by
 obtain⟨b,_,rfl⟩:=qW.1 hu;rfl
def RdB(w:World)(a:Option Addr)(l:List Nat):Prop:=
  ∀i (hi:i<l.length),∃b off,a=some ⟨b,off,none⟩/\b<w.heap.size/\w.cell? ⟨b,off+i,none⟩=some (.int .u8 (l[i]'hi:Nat))
section
variable {w w' :World} {v:Value} {l:List Nat} {a:Option Addr} {b off:Nat}
theorem RdB.fr(h:RdB w a l)(hf:Fr [] w w'):RdB w' a l:=fun i hi=>by
 obtain⟨b,off,e,hb,h0⟩:=h i hi;exact⟨b,off,e,Nat.lt_of_lt_of_le hb hf.size,hf.cell h0 (by simp)⟩
theorem RdB.frS{S:List Nat}(h:RdB w a l)(hf:Fr S w w')(hs:∀b off,a=some ⟨b,off,none⟩->b∉S):RdB w' a l:=fun i hi=>by
 obtain⟨b,off,e,hb,h0⟩:=h i hi;exact⟨b,off,e,Nat.lt_of_lt_of_le hb hf.size,hf.cell h0 (hs b off e)⟩
theorem RdB.take(h:RdB w a l)(n:Nat):RdB w a (l.take n):=fun i hi=>by
 have hi' :i<l.length:=by rw[List.length_take]at hi;omega
 obtain⟨b,off,e,hb,h0⟩:=h i hi';exact⟨b,off,e,hb,by rw[List.getElem_take];exact h0⟩
theorem RdB.drop(h:RdB w (some ⟨b,off,none⟩) l)(n:Nat):RdB w (some ⟨b,off+n,none⟩) (l.drop n):=fun i hi=>by
 rw[List.length_drop]at hi;obtain⟨b', off', e,hb,h0⟩:=h (n+i) (by omega);simp only[qI,Addr.mk.injEq,and_true]at e;obtain⟨rfl,rfl⟩:=e;exact⟨b,off+n,rfl,hb,by rw[List.getElem_drop,Nat.add_assoc];exact h0⟩
theorem RdB.cells{ad:Addr}(h:RdB w (some ad) l):∀j u,(bF l)[j]? =some u->w.cell? (ad.add j)=some u:=by
 intro j u hj;have hlt:j<(bF l).length:=(qT.1 hj).1;rw[oI,Nat.mul_one]at hlt;obtain⟨b,off,e,_,h0⟩:=h j hlt;obtain rfl:=Option.some.inj e;rw[Addr.add_lit,h0,<-aEU hlt,hj]
end
def cX(w:World)(v:Value)(l:List Nat):Prop:=w.ownsRow 0 5 1 v l.length (bF l)
section
variable {w w' :World} {v:Value} {l:List Nat} {a:Option Addr}
theorem cX.fr{S:List Nat}(h:cX w v l)(hf:Fr S w w')(hs:∀q,v.ownBlock=some q->q∉S):cX w' v l:=
  aU h (fun q hq=>hf.keep q (cH h hq) (hs q hq))
theorem cX.fr0(h:cX w v l)(hf:Fr [] w w'):cX w' v l:=h.fr hf (by simp)
theorem cX.slice(h:cX w v l):∃a cap,v=.slice a l.length cap:=bH h
theorem cX.lt(h:cX w v l){q:Nat}(hq:v.ownBlock=some q):q<w.heap.size:=cH h hq
theorem cX.at(h:cX w v l){i:Nat}(hi:i<l.length):∃b cap,v=.slice (some ⟨b,0,none⟩) l.length cap/\l.length<=cap/\b<w.heap.size/\(∀j,w.frozen? ⟨b,j,none⟩=false)/\w.cell? ⟨b,i,none⟩=some (.int .u8 (l[i]'hi:Nat)):=by
 obtain⟨h1,h2⟩:=h;rcases h2 with⟨rfl,h0⟩|⟨g,cap,cur,rfl,_,hh,hn,hm,hsz,hxs⟩
 · omega
 {
 refine⟨g,cap,rfl,hn,(qM.1 hh).1,fun j=>by simp[World.frozen?,hh],?_⟩;rw[<-aEU hi,<-hxs,List.getElem?_take,qD (by omega)];simp[World.cell?,hh]}
theorem cX.rd{cap:Nat}(h:cX w (.slice a l.length cap) l):RdB w a l:=fun i hi=>by
 obtain⟨b,cap', ev,_,hb,_,hc⟩:=h.at hi;simp only[qP]at ev;exact⟨b,0,ev.1,hb,by rw[Nat.zero_add];exact hc⟩
end
def thY(v:Value)(l:List Nat):Th:=⟨fun w K=>cX w v l/\K=v.ownBlock.toList,fun⟨h,e⟩ q hq=>h.lt (by simpa[e] using hq),fun⟨h,e⟩ hf hs=>⟨h.fr hf (fun q hq=>hs q (by simp[e,hq])),e⟩⟩
theorem Wd.rowB{W wr:World}{ts:List Th}{v:Value}{l:List Nat}(h:Wd W wr (thY v l::ts)):cX wr v l:=by obtain⟨K,h,_⟩:=h.get;exact h
end Go.Proofs.YtjdgpcjbgjnahaaGreatDoor
