/- Images with one wrong field and the right CRC-32; the plain law. -/
import Derived.Test.YtjdgpcjbgjnahaaGreatDoorG13
import Derived.Test.YtjdgpcjbgjnahaaGreatDoorG4
import Derived.Test.YtjdgpcjbgjnahaaGreatDoorG14
import Derived.Test.YtjdgpcjbgjnahaaGreatDoorG1
import Derived.Laws.Cover3
set_option maxRecDepth 10000
set_option maxHeartbeats 3200000
set_option linter.unusedSimpArgs false
set_option linter.unusedVariables false
/- A window that is restored: the walk of Restore. -/
namespace Go.Proofs.YtjdgpcjbgjnahaaGreatDoor
open Go.RowKit
def RcW(w:World)(a:Option Addr)(l:List R4):Prop:=
  ∀i (hi:i<l.length),∃b off,a=some ⟨b,off,none⟩/\b<w.heap.size/\w.cell? ⟨b,off+i*4,none⟩=some (.int .u64 l[i].1)/\w.cell? ⟨b,off+i*4+1,none⟩=some (.int .u64 l[i].2.1) /\
    w.cell? ⟨b,off+i*4+2,none⟩=some (.int .i64 l[i].2.2.1)/\w.cell? ⟨b,off+i*4+3,none⟩=some (.int .i64 l[i].2.2.2)
def R4.ok(r:R4):Prop:=r.1<18446744073709551616/\r.2.1<18446744073709551616/\ -9223372036854775808<=r.2.2.2/\r.2.2.2<=9223372036854775807
def RsI(w wr:World)(p:Nat)(last:Int)(l:List R4)(R:Option Ob):Prop:=∃X K,eP wr p X K/\Fr [] w wr/\(∀q∈K,w.heap.size<=q)/\(∀e∈X.s.L,e.t<=last)/\0<=last/\X.s.L.length+l.length<=X.E/\X.s.last+l.length<=9223372036854775807/\X.ob.resL last l=R
def RsE(w w' :World)(R:Option Ob)(e:Ending):Prop:=match R with
  | none=>e=.returned (.tuple #[.pointer none,.int .i64 2])/\Fr [] w w'
  | some o=>∃p X K,e=.returned (.tuple #[eQ p,.int .i64 0])/\X.ob=o/\eP w' p X K/\Fr [] w w' /\ ∀q∈K,w.heap.size<=q
theorem aRN(m E V D now:Int)(g:Nat)(a:Option Addr)(cap:Nat)(l:List R4)(w:World)(hg:g<18446744073709551616)(hn1:-9223372036854775808<=now)(hn2:now<=9223372036854775807)(hm2:m<=9223372036854775807)
    (hl:l.length<=9223372036854775807) (hrow:RcW w a l) (hok:∀r∈l,r.ok):
    Calls Tryz.prog 53 #[.agg #[.int .i64 m,.int .i64 E,.int .i64 V,.int .i64 D],.int .i64 now,.int .u64 g,.slice a l.length cap] w fun e w' =>RsE w w' (iD m E V D now g l) e:=by
 have hbx:=Blk.new w [.int .i64 m,.int .i64 E,.int .i64 V,.int .i64 D] 31;have hF1:Fr [] w (w.alloc (.cells #[.int .i64 m,.int .i64 E,.int .i64 V,.int .i64 D] 31)):=(Fr.refl [] w).alloc _;obtain⟨w1,hw1⟩:∃w1,w1=w.alloc (.cells #[.int .i64 m,.int .i64 E,.int .i64 V,.int .i64 D] 31):=⟨_,rfl⟩;rw[show w.alloc (.cells [.int .i64 m,.int .i64 E,.int .i64 V,.int .i64 D].toArray 31)=w.alloc (.cells #[.int .i64 m,.int .i64 E,.int .i64 V,.int .i64 D] 31) from rfl,<-hw1]at hbx;rw[<-hw1]at hF1;have HBx:=qA (zH hbx hF1);have x0:=hbx.cell 0;have x1:=hbx.cell 1;have x2:=hbx.cell 2;have x3:=hbx.cell 3;simp only[zI,zJ]at x0 x1 x2 x3;rw[hw1]at x0 x1 x2 x3;have HL:=qA (zH hrow hok);clear hbx hF1 hrow hok;by_cases hg1:g<=9223372036854775807
 {
 have d1:decide ((g:Int)>9223372036854775807)=false:=qF (by omega);cases hcf:lO m E V D with
 | false=>{
 have hR:iD m E V D now g l=none:=qC (by rw[hcf];simp);rw[hR];have HFr:=aKN m D E V g w1 hcf;rw[hw1]at HFr;have HFr:=qA HFr;have HW1:=qA hw1;clear hR hcf hw1;go_enter Tryz.func53,Tryz.ntmps53
 go_wp2_with fail
 refine HFr.out.mono ?_;rintro _ w2 ⟨rfl,hF⟩;rw[<-HW1.out]at hF;have HF:=qA (HBx.out.2.trans' hF);clear hF x0 x1 x2 x3 HFr;go_wp2
 go_ret2;exact⟨rfl,HF.out⟩}
 | true=>{
 obtain⟨c1,c2,c3,c4,c5,c6,c7⟩:=fJ.1 hcf;obtain⟨E,rfl⟩:=Int.eq_ofNat_of_zero_le (show 0<=E by omega);obtain⟨V,rfl⟩:=Int.eq_ofNat_of_zero_le (show 0<=V by omega);have hfr:=aEW m D E V g w1 c1 hm2 (by omega) (by omega) (by omega) (by omega) c6 c7 hg1;rw[hw1]at hfr;have HFr:=qA hfr;have HW1:=qA hw1;clear hfr hw1;by_cases hlE:l.length<=E/\l.length<=9223372036854775807-g
 {
 have d2:decide ((l.length:Int)>E)=false:=qF (by omega);have d2n:decide (E<l.length)=false:=qF (by omega);have d3n:decide (9223372036854775807-(g:Int)<l.length)=false:=qF (by omega);have hw2:IntKind.u64.wrap (l.length:Int)=l.length:=by simp[IntKind.wrap,IntKind.bits,IntKind.signed];omega
 have hw3:IntKind.u64.wrap (9223372036854775807-(g:Int))=9223372036854775807-(g:Int):=by simp[IntKind.wrap,IntKind.bits,IntKind.signed];omega
 have d3:decide ((l.length:Int)>9223372036854775807-(g:Int))=false:=qF (by omega);by_cases hch:dI m 0 now=0
 {
 have hR:iD m E V D now g l=(Ob.at m E V D now g).resL 0 l:=by {
 unfold iD;rw[qD ⟨hg1,hcf,by omega,hlE.2,hch⟩];rfl};obtain⟨R,hRR⟩:∃R,R=(Ob.at m E V D now g).resL 0 l:=⟨_,rfl⟩;rw[hR,<-hRR];have HRR:=qA hRR;clear hRR;have HPl:=qA (zH hch (zH hlE.1 hlE.2));clear hR hcf hch hlE c1 c2 c3 c4 c5 c6 c7;go_enter Tryz.func53,Tryz.ntmps53
 go_wp2_with fail
 refine HFr.out.mono ?_;rintro _ w2 ⟨p,rfl,K,hK,hF2,hnK⟩;rw[<-HW1.out]at hF2 hnK;have hb2:=hF2.blk HBx.out.1 (by simp);have x1:=hb2.cell 1;simp only[zI,zJ]at x1;have HF2:=qA (zH (HBx.out.2.trans' hF2) (show ∀q∈K,w.heap.size<=q from fun q hq=>zG HBx.out.2.size (hnK q hq)));obtain⟨hokX,pc,ps,px,pf,nq,Ks,lx,Lf,cl,hB,hKe⟩:=hK;have c4:=hB.hd.cell 4;simp only[zI,zJ]at c4;have HAd:=qA (aAP hB.clk now hn1 hn2 HPl.out.1);have HB:=qA (zH hokX (zH hB hKe));clear hF2 hnK hb2 hB hKe hokX x0 x2 x3 HFr HW1;go_wp2_with fail
 refine HAd.out.mono ?_;rintro _ w3 ⟨rfl,hclk,hF3⟩;have hI:RsI w w3 p 0 l R:=by {
 rw[HRR.out];obtain⟨q1,q2⟩:=mG HPl.out.1;obtain⟨hokX,hB,rfl⟩:=HB.out;have hB3:=hB.setClk hclk hF3;refine⟨{ (Wm.new m E V D g) with now:=now },bY p pc Ks lx Lf,⟨?_,pc,ps,px,pf,nq,Ks,lx,Lf,cl,hB3,rfl⟩,HF2.out.1.trans hF3 (fun b hb=>?_),HF2.out.2,fun e he=>(by cases he),Int.le_refl _,by show 0+_<=E;have:=HPl.out.2.1;omega,by show g+_<=_;have:=HPl.out.2.2;omega,rfl⟩
 · exact⟨hokX.ok,hokX.hV,hokX.hE,hokX.lk,fun e he=>(by cases he),List.Pairwise.nil,fun i hi=>absurd hi (Nat.not_lt_zero _),hokX.last,hokX.max,hokX.m1,hokX.m2,q1,q2⟩
 {
 have e:b=pc:=by simpa using hb
 exact .inr (by rw[e];exact HF2.out.2 pc (by simp[bY]))}};have HI:=qA hI;clear hclk hF3 hI HB HAd c4 x1 HF2;clear HRR;go_wp2_with fail
 go_loopw [12,48] (fun c1 c2 wr=>∃(i:Nat) (last:Int),i<=l.length/\c1=.int .i64 last/\c2=.int .i64 i/\Hid (RsI w wr p last (l.drop i) R)) (fun _ c _=>l.length-(intOf c).toNat)
 case atStart=>exact⟨0,0,qR _,rfl,rfl,HI⟩
 case round=>
  obtain⟨i,last,hi,rfl,rfl,HR⟩:=hrel;clear HI;rename World=>wr
  by_cases hil:i<l.length
  {
  have hii:(i:Int)<l.length:=by omega
  have hi0:(0:Int)<=i:=by omega
  obtain⟨X,K,⟨hokX,pc,ps,px,pf,nq,Ks,lx,Lf,cl,hB,rfl⟩,hF,hnK,hle,hl0,hle1,hle2,hres⟩:=HR.out;rw[List.drop_eq_getElem_cons hil]at hres hle1 hle2;have hrok:=HL.out.2 _ (List.getElem_mem hil);obtain⟨b,off,rfl,hbw,z0,z1,z2,z3⟩:=HL.out.1 i hil;generalize l[i]'hil=r at *;obtain⟨u,v,wt,t⟩:=r;obtain⟨k1,k2,k3,k4⟩:=hrok;simp only at k1 k2 k3 k4 z0 z1 z2 z3;have z0:=hF.cell z0 (by simp);have z1:=hF.cell z1 (by simp);have z2:=hF.cell z2 (by simp);have z3:=hF.cell z3 (by simp);have hby:=Blk.new wr [.int .u64 u,.int .u64 v,.int .i64 wt,.int .i64 t] 72;have hFa:Fr [] wr (wr.alloc (.cells #[.int .u64 u,.int .u64 v,.int .i64 wt,.int .i64 t] 72)):=(Fr.refl [] wr).alloc _;have hBa:=hB.fr0 hFa;obtain⟨wa,hwa⟩:∃wa,wa=wr.alloc (.cells #[.int .u64 u,.int .u64 v,.int .i64 wt,.int .i64 t] 72):=⟨_,rfl⟩;rw[show wr.alloc (.cells [.int .u64 u,.int .u64 v,.int .i64 wt,.int .i64 t].toArray 72)=wr.alloc (.cells #[.int .u64 u,.int .u64 v,.int .i64 wt,.int .i64 t] 72) from rfl,<-hwa]at hby;rw[<-hwa]at hFa hBa;have y0:=hby.cell 0;have y1:=hby.cell 1;have y2:=hby.cell 2;have y3:=hby.cell 3;have c4:=hBa.hd.cell 4;have c5:=hBa.hd.cell 5;simp only[zI,zJ]at y0 y1 y2 y3 c4 c5;have hLive:∀w', Fr [] wa w' -> Calls Tryz.prog 89 #[kG pc,.int .i64 t] w' fun e w'' =>e=.returned (.bool (iK X.m X.now t))/\Fr [] wa w'' :=fun w' h=>(aOK (hBa.clk.fr0 h) t k3 k4).mono fun _ _ k=>⟨k.1,h.trans' k.2⟩;have hChk:∀w', Fr [] wa w' -> Calls Tryz.prog 90 #[iO ps,pI u v wt t] w' fun e w'' =>e=.returned (.int .i64 (X.s.chk u v))/\Fr [] wa w'' :=fun w' h=>(oB (hBa.st.fr0 h) u v k1 k2 wt t).mono fun _ _ k=>⟨k.1,h.trans' k.2⟩;have HX:=qA (zH hokX (zH hBa (zH (hF.trans' hFa) (zH hnK (zH hle (zH hl0 (zH hle1 (zH hle2 hres))))))));clear hokX hB hBa hF hnK hle hl0 hle1 hle2 hres hby hbw;have hunf:∀{b:Bool},X.ob.resOk last (u,v,wt,t)=b->(if b=true then(X.ob.putT u v wt t).resL t (l.drop (i+1)) else none)=R:=fun {b} hb=>by
    rw[<-hb];exact HX.out.2.2.2.2.2.2.2.2
  by_cases hlt:t<last
  {
  have d5:decide (t<last)=true:=qG hlt;have hRn:R=none:=by {
  have:=hunf (b:=false) (by unfold Ob.resOk;rw[qF (show ¬last<=t by omega)];rfl);exact this.symm};subst hRn;clear hlt hunf;have HLive:=qA hLive;have HChk:=qA hChk;have Hwa:=qA hwa;clear hLive hChk hwa;go_wp2_with fail
  rw[<-Hwa.out];refine dU (fun w' =>Fr [] wa w') (by kernel_rfl) (by kernel_rfl) ((Fr.refl [] wa).drew) ?_;iterate 1 (refine aN (by kernel_rfl) (fun KK hK=>?_);go_simp;refine hK.out _ ?_;clear hK KK)
  refine bV (by kernel_rfl) (.int .i64 t) (fun w' hw' =>?_) ?_
  {
  have y3:=hw'.cell y3 (by simp);go_simp;first|done|exact hw' | exact⟨rfl,hw'⟩};iterate 3 (refine aN (by kernel_rfl) (fun KK hK=>?_);go_simp;refine hK.out _ ?_;clear hK KK)
  iterate 8 (refine rT (by kernel_rfl) ?_)
  iterate 2 (refine aN (by kernel_rfl) (fun KK hK=>?_);go_simp;refine hK.out _ ?_;clear hK KK)
  iterate 7 (refine rT (by kernel_rfl) ?_)
  iterate 1 (refine aN (by kernel_rfl) (fun KK hK=>?_);go_simp;refine hK.out _ ?_;clear hK KK)
  refine iN ?_;intro w6 hF6;have HF6:=qA (HX.out.2.2.1.trans' hF6);clear hF6 y0 y1 y2 y3 c4 c5 z0 z1 z2 z3 HX HR;go_wp2
  go_ret2;exact⟨rfl,HF6.out⟩}
  {
  have d5:decide (t<last)=false:=qF hlt;cases hlv:iK X.m X.now t with
  | false=>{
  have hRn:R=none:=by {
  have:=hunf (b:=false) (by unfold Ob.resOk;rw[show iK X.ob.m X.ob.now t=false from hlv];simp);exact this.symm};subst hRn;rw[hlv]at hLive;clear hlt hunf hlv;have HLive:=qA hLive;have HChk:=qA hChk;have Hwa:=qA hwa;clear hLive hChk hwa;go_wp2_with fail
  rw[<-Hwa.out];refine dU (fun w' =>Fr [] wa w') (by kernel_rfl) (by kernel_rfl) ((Fr.refl [] wa).drew) ?_;iterate 1 (refine aN (by kernel_rfl) (fun KK hK=>?_);go_simp;refine hK.out _ ?_;clear hK KK)
  refine bV (by kernel_rfl) (.int .i64 t) (fun w' hw' =>?_) ?_
  {
  have y3:=hw'.cell y3 (by simp);go_simp;first|done|exact hw' | exact⟨rfl,hw'⟩};iterate 3 (refine aN (by kernel_rfl) (fun KK hK=>?_);go_simp;refine hK.out _ ?_;clear hK KK)
  iterate 3 (refine aN (by kernel_rfl) (fun KK hK=>?_);go_simp;refine hK.out _ ?_;clear hK KK)
  refine bV (by kernel_rfl) (kG pc) (fun w' hw' =>?_) ?_
  {
  have c4:=hw'.cell c4 (by simp);go_simp;first|done|exact hw' | exact⟨rfl,hw'⟩};iterate 1 (refine aN (by kernel_rfl) (fun KK hK=>?_);go_simp;refine hK.out _ ?_;clear hK KK)
  refine bV (by kernel_rfl) (.int .i64 t) (fun w' hw' =>?_) ?_
  {
  have y3:=hw'.cell y3 (by simp);go_simp;first|done|exact hw' | exact⟨rfl,hw'⟩};refine bV (by kernel_rfl) (.bool false) (fun w' hw' =>?_) ?_
  {
  go_simp;exact HLive.out _ hw'};iterate 1 (refine aN (by kernel_rfl) (fun KK hK=>?_);go_simp;refine hK.out _ ?_;clear hK KK)
  iterate 2 (refine aN (by kernel_rfl) (fun KK hK=>?_);go_simp;refine hK.out _ ?_;clear hK KK)
  iterate 7 (refine rT (by kernel_rfl) ?_)
  iterate 1 (refine aN (by kernel_rfl) (fun KK hK=>?_);go_simp;refine hK.out _ ?_;clear hK KK)
  refine iN ?_;intro w6 hF6;have HF6:=qA (HX.out.2.2.1.trans' hF6);clear hF6 y0 y1 y2 y3 c4 c5 z0 z1 z2 z3 HX HR;go_wp2
  go_ret2;exact⟨rfl,HF6.out⟩}
  | true=>{
  obtain⟨cc,hcc⟩:∃cc:Int,cc=(X.s.chk u v:Nat):=⟨_,rfl⟩;rw[hlv]at hLive;rw[<-hcc]at hChk;by_cases hc0:X.s.chk u v=0
  {
  have hcc0:cc=0:=by rw[hcc,hc0];rfl
  subst hcc0;have hR2:=hunf (b:=true) (by
    unfold Ob.resOk;rw[show iK X.ob.m X.ob.now t=true from hlv,qG (show last<=t by omega),qG (show X.ob.chkO u v=0 by rw[<-aEX HX.out.1];exact hc0)];rfl)
  rw[qD rfl]at hR2;have hlv' :=of_decide_eq_true hlv;have hN:=pR HX.out.2.1 HX.out.1.lk HX.out.1.ok HX.out.1.hV HX.out.1.hE u v k1 k2 wt t (by have:=HX.out.2.2.2.2.2.1;omega) hlv'.2.1 hc0;have HG:=qA (zH hlv' (zH hc0 (zH hR2 (zH (Int.not_lt.1 hlt) (zH k1 k2)))));clear hlt hunf hlv hc0 hR2 hlv' hcc hN;have HLive:=qA hLive;have HChk:=qA hChk;have Hwa:=qA hwa;clear hLive hChk hwa;go_wp2_with fail
  rw[<-Hwa.out];refine dU (fun w' =>Fr [] wa w') (by kernel_rfl) (by kernel_rfl) ((Fr.refl [] wa).drew) ?_;iterate 1 (refine aN (by kernel_rfl) (fun KK hK=>?_);go_simp;refine hK.out _ ?_;clear hK KK)
  refine bV (by kernel_rfl) (.int .i64 t) (fun w' hw' =>?_) ?_
  {
  have y3:=hw'.cell y3 (by simp);go_simp;first|done|exact hw' | exact⟨rfl,hw'⟩};iterate 3 (refine aN (by kernel_rfl) (fun KK hK=>?_);go_simp;refine hK.out _ ?_;clear hK KK)
  iterate 3 (refine aN (by kernel_rfl) (fun KK hK=>?_);go_simp;refine hK.out _ ?_;clear hK KK)
  refine bV (by kernel_rfl) (kG pc) (fun w' hw' =>?_) ?_
  {
  have c4:=hw'.cell c4 (by simp);go_simp;first|done|exact hw' | exact⟨rfl,hw'⟩};iterate 1 (refine aN (by kernel_rfl) (fun KK hK=>?_);go_simp;refine hK.out _ ?_;clear hK KK)
  refine bV (by kernel_rfl) (.int .i64 t) (fun w' hw' =>?_) ?_
  {
  have y3:=hw'.cell y3 (by simp);go_simp;first|done|exact hw' | exact⟨rfl,hw'⟩};refine bV (by kernel_rfl) (.bool true) (fun w' hw' =>?_) ?_
  {
  go_simp;exact HLive.out _ hw'};iterate 1 (refine aN (by kernel_rfl) (fun KK hK=>?_);go_simp;refine hK.out _ ?_;clear hK KK)
  iterate 2 (refine aN (by kernel_rfl) (fun KK hK=>?_);go_simp;refine hK.out _ ?_;clear hK KK)
  iterate 3 (refine aN (by kernel_rfl) (fun KK hK=>?_);go_simp;refine hK.out _ ?_;clear hK KK)
  refine bV (by kernel_rfl) (iO ps) (fun w' hw' =>?_) ?_
  {
  have c5:=hw'.cell c5 (by simp);go_simp;first|done|exact hw' | exact⟨rfl,hw'⟩};refine bV (by kernel_rfl) (pI u v wt t) (fun w' hw' =>?_) ?_
  {
  have y0:=hw'.cell y0 (by simp);have y1:=hw'.cell y1 (by simp);have y2:=hw'.cell y2 (by simp);have y3:=hw'.cell y3 (by simp);go_simp;first|done|exact hw' | exact⟨rfl,hw'⟩};refine bV (by kernel_rfl) (.int .i64 0) (fun w' hw' =>?_) ?_
  {
  go_simp;exact HChk.out _ hw'};iterate 1 (refine aN (by kernel_rfl) (fun KK hK=>?_);go_simp;refine hK.out _ ?_;clear hK KK)
  iterate 1 (refine aN (by kernel_rfl) (fun KK hK=>?_);go_simp;refine hK.out _ ?_;clear hK KK)
  refine iN ?_;intro w6 hF6;have hBw:=HX.out.2.1.fr0 hF6;have y0:=hF6.cell y0 (by simp);have y1:=hF6.cell y1 (by simp);have y2:=hF6.cell y2 (by simp);have y3:=hF6.cell y3 (by simp);have HN:=qA (pR hBw HX.out.1.lk HX.out.1.ok HX.out.1.hV HX.out.1.hE u v k1 k2 wt t (by have:=HX.out.2.2.2.2.2.1;have:=HG.out.2.2.2.1;omega) HG.out.1.2.1 HG.out.2.1 (by have h:=HX.out.2.2.2.2.2.2.2.1;simp only[qY]at h;show X.s.last+1<=_;omega) (by have h:=HX.out.2.2.2.2.2.2.2.1;simp only[qY]at h;show X.s.last+1<=_;omega));have HF6:=qA hF6;clear hF6 c4 c5 z0 z1 z2 z3 hBw HR;go_wp2_with fail
  refine HN.out.mono ?_;rintro _ w7 ⟨rfl,ea,eb,Ks7,lx7,Lf7,ha,hb,hI7⟩;have HNew:Hid (RsI w w7 p t (l.drop (i+1)) R):=qA (by
    obtain⟨hokX,hBa,hFw,hnK,hle,hl0,hle1,hle2,_⟩:=HX.out;obtain⟨hlv', hc0,hR2,hlt,k1,k2⟩:=HG.out;obtain⟨⟨cl7,hB7⟩,hF7,hn7,_⟩:=hI7;simp only[qY]at hle1 hle2;have hs1:=hFw.size;have hs2:=HF6.out.size;have hwp:({ (X.wp nq) with s:=(X.wp nq).s.ins u v wt t (t+(X.wp nq).m),Q:=fun j=>if j=(X.wp nq).s.slot then some (t+(X.wp nq).m) else(X.wp nq).Q j,nq:=(X.wp nq).nq+1,G:=fun j=>if j=(X.wp nq).s.slot then some (ea,eb,t+(X.wp nq).m) else(X.wp nq).G j,added:=(X.wp nq).added+1 }:Wp)=(X.putT u v wt t ea eb).wp (nq+1):=by
      simp[Wm.wp,Wm.putT,Sm.ins];exact⟨rfl,rfl⟩
    rw[hwp]at hB7;refine⟨X.putT u v wt t ea eb,bY p pc Ks7 lx7 Lf7,⟨Wm.putT_ok hokX k1 k2 wt t (by omega) hlv'.1 hlv'.2.2 (fun e he=>by have:=hle e he;omega) hc0 (by omega) ha hb,pc,ps,px,pf,nq+1,Ks7,lx7,Lf7,cl7,hB7,rfl⟩,(hFw.trans' HF6.out).trans hF7 (fun b hb=>.inr (hnK b hb)),fun q hq=>?_,fun e he=>?_,by omega,?_,?_,?_⟩
    · rcases hn7 q hq with h | h
      · exact hnK q h
      · omega
    · have he' : e ∈ X.s.L ++ [X.s.edge u v wt t (t + X.m)] := he
      rw[qE,qH]at he';rcases he' with he' | rfl
      · have:=hle e he'; omega
      · exact Int.le_refl _
    · show (X.s.L ++ [X.s.edge u v wt t (t + X.m)]).length + _ <= X.E
      rw[zE];simp only[qY,List.length_nil];omega
    · show X.s.last + 1 + _ <= _
      omega
    · rw[aOL];exact hR2)
  clear hI7 ha hb HN y0 y1 y2 y3 HX HG;go_wp2_with fail
  go_roundw
  case rel=>exact⟨i+1,t,by omega,rfl,by go_num,HNew⟩
  case measure=>simp[intOf];omega}
  {
  have hRn:R=none:=by {
  have:=hunf (b:=false) (by unfold Ob.resOk;rw[qF (show ¬X.ob.chkO u v=0 by rw[<-aEX HX.out.1];exact hc0)];simp);exact this.symm};subst hRn;have d6:(cc != 0)=true:=by rw[hcc];simp;omega
  clear hlt hunf hlv hc0 hcc;have HLive:=qA hLive;have HChk:=qA hChk;have Hwa:=qA hwa;clear hLive hChk hwa;go_wp2_with fail
  rw[<-Hwa.out];refine dU (fun w' =>Fr [] wa w') (by kernel_rfl) (by kernel_rfl) ((Fr.refl [] wa).drew) ?_;iterate 1 (refine aN (by kernel_rfl) (fun KK hK=>?_);go_simp;refine hK.out _ ?_;clear hK KK)
  refine bV (by kernel_rfl) (.int .i64 t) (fun w' hw' =>?_) ?_
  {
  have y3:=hw'.cell y3 (by simp);go_simp;first|done|exact hw' | exact⟨rfl,hw'⟩};iterate 3 (refine aN (by kernel_rfl) (fun KK hK=>?_);go_simp;refine hK.out _ ?_;clear hK KK)
  iterate 3 (refine aN (by kernel_rfl) (fun KK hK=>?_);go_simp;refine hK.out _ ?_;clear hK KK)
  refine bV (by kernel_rfl) (kG pc) (fun w' hw' =>?_) ?_
  {
  have c4:=hw'.cell c4 (by simp);go_simp;first|done|exact hw' | exact⟨rfl,hw'⟩};iterate 1 (refine aN (by kernel_rfl) (fun KK hK=>?_);go_simp;refine hK.out _ ?_;clear hK KK)
  refine bV (by kernel_rfl) (.int .i64 t) (fun w' hw' =>?_) ?_
  {
  have y3:=hw'.cell y3 (by simp);go_simp;first|done|exact hw' | exact⟨rfl,hw'⟩};refine bV (by kernel_rfl) (.bool true) (fun w' hw' =>?_) ?_
  {
  go_simp;exact HLive.out _ hw'};iterate 1 (refine aN (by kernel_rfl) (fun KK hK=>?_);go_simp;refine hK.out _ ?_;clear hK KK)
  iterate 2 (refine aN (by kernel_rfl) (fun KK hK=>?_);go_simp;refine hK.out _ ?_;clear hK KK)
  iterate 3 (refine aN (by kernel_rfl) (fun KK hK=>?_);go_simp;refine hK.out _ ?_;clear hK KK)
  refine bV (by kernel_rfl) (iO ps) (fun w' hw' =>?_) ?_
  {
  have c5:=hw'.cell c5 (by simp);go_simp;first|done|exact hw' | exact⟨rfl,hw'⟩};refine bV (by kernel_rfl) (pI u v wt t) (fun w' hw' =>?_) ?_
  {
  have y0:=hw'.cell y0 (by simp);have y1:=hw'.cell y1 (by simp);have y2:=hw'.cell y2 (by simp);have y3:=hw'.cell y3 (by simp);go_simp;first|done|exact hw' | exact⟨rfl,hw'⟩};refine bV (by kernel_rfl) (.int .i64 cc) (fun w' hw' =>?_) ?_
  {
  go_simp;exact HChk.out _ hw'};iterate 1 (refine aN (by kernel_rfl) (fun KK hK=>?_);go_simp;refine hK.out _ ?_;clear hK KK)
  iterate 1 (refine aN (by kernel_rfl) (fun KK hK=>?_);go_simp;refine hK.out _ ?_;clear hK KK)
  refine iN ?_;intro w6 hF6;have HF6:=qA (HX.out.2.2.1.trans' hF6);clear hF6 y0 y1 y2 y3 c4 c5 z0 z1 z2 z3 HX HR;go_wp2
  go_ret2;exact⟨rfl,HF6.out⟩}}}}
  {
  obtain rfl:i=l.length:=by omega
  obtain⟨X,K,hX,hF,hnK,hle,hl0,hle1,hle2,hres⟩:=HR.out;rw[List.drop_eq_nil_of_le (qJ _)]at hres;have hRn:R=some X.ob:=hres.symm;subst hRn;have HX:=qA (zH hX (zH hF hnK));clear hX hF hnK hle hl0 hle1 hle2 hres HR;go_wp2
  go_ret2;exact⟨p,X,K,rfl,rfl,HX.out⟩}}
 {
 have hR:iD m E V D now g l=none:=qC (fun h=>hch h.2.2.2.2);rw[hR];obtain⟨cc,hcc⟩:∃cc,cc=dI m 0 now:=⟨_,rfl⟩;have d6:(cc != 0)=true:=by rw[hcc];simp[hch]
 have HC:=qA (zH hcc hch);clear hR hcf hlE c1 c2 c3 c4 c5 c6 c7 hcc hch;go_enter Tryz.func53,Tryz.ntmps53
 go_wp2_with fail
 refine HFr.out.mono ?_;rintro _ w2 ⟨p,rfl,K,hK,hF2,hnK⟩;rw[<-HW1.out]at hF2 hnK;have hb2:=hF2.blk HBx.out.1 (by simp);have x1:=hb2.cell 1;simp only[zI,zJ]at x1;have HF2:=qA (HBx.out.2.trans' hF2);obtain⟨hokX,pc,ps,px,pf,nq,Ks,lx,Lf,cl,hB,hKe⟩:=hK;have c4:=hB.hd.cell 4;simp only[zI,zJ]at c4;have hAd:=aES hB.clk now hn1 hn2 HC.out.2;rw[show dI (Wm.wp (Wm.new m E V D g) nq).m (Wm.wp (Wm.new m E V D g) nq).now now=cc from HC.out.1.symm]at hAd;have HAd:=qA hAd;clear hF2 hnK hb2 hB hKe hokX x0 x2 x3 HFr HW1 hAd;go_wp2_with fail
 refine HAd.out.mono ?_;rintro _ w3 ⟨rfl,rfl⟩;clear c4 x1 HAd;go_wp2
 go_ret2;exact⟨rfl,HF2.out⟩}}
 {
 have hR:iD m E V D now g l=none:=qC (fun h=>hlE ⟨by omega,h.2.2.2.1⟩);rw[hR];clear hR hcf c1 c2 c4 c5 c6 c7;by_cases hl1:l.length<=E
 {
 have d2:decide ((l.length:Int)>E)=false:=qF (by omega);have d2n:decide (E<l.length)=false:=qF (by omega);have d3n:decide (9223372036854775807-(g:Int)<l.length)=true:=qG (by omega);have d3:decide ((l.length:Int)>9223372036854775807-(g:Int))=true:=qG (by omega);have hw2:IntKind.u64.wrap (l.length:Int)=l.length:=by simp[IntKind.wrap,IntKind.bits,IntKind.signed];omega
 have hw3:IntKind.u64.wrap (9223372036854775807-(g:Int))=9223372036854775807-(g:Int):=by simp[IntKind.wrap,IntKind.bits,IntKind.signed];omega
 clear hlE hl1;go_enter Tryz.func53,Tryz.ntmps53
 go_wp2_with fail
 refine HFr.out.mono ?_;rintro _ w2 ⟨p,rfl,K,hK,hF2,hnK⟩;rw[<-HW1.out]at hF2;have hb2:=hF2.blk HBx.out.1 (by simp);have x1:=hb2.cell 1;simp only[zI,zJ]at x1;have HF2:=qA (HBx.out.2.trans' hF2);clear hF2 hnK hb2 hK x0 x2 x3 HFr HW1;go_wp2
 go_ret2;exact⟨rfl,HF2.out⟩}
 {
 have d2:decide ((l.length:Int)>E)=true:=qG (by omega);have d2n:decide (E<l.length)=true:=qG (by omega);clear hlE hl1;go_enter Tryz.func53,Tryz.ntmps53
 go_wp2_with fail
 refine HFr.out.mono ?_;rintro _ w2 ⟨p,rfl,K,hK,hF2,hnK⟩;rw[<-HW1.out]at hF2;have hb2:=hF2.blk HBx.out.1 (by simp);have x1:=hb2.cell 1;simp only[zI,zJ]at x1;have HF2:=qA (HBx.out.2.trans' hF2);clear hF2 hnK hb2 hK x0 x2 x3 HFr HW1;go_wp2
 go_ret2;exact⟨rfl,HF2.out⟩}}}}
 {
 have hR:iD m E V D now g l=none:=qC (fun h=>hg1 h.1);rw[hR];have d1:decide ((g:Int)>9223372036854775807)=true:=qG (by omega);have HF:=qA HBx.out.2;rw[hw1]at HF;clear hR hg1 hw1 HBx;go_enter Tryz.func53,Tryz.ntmps53
 go_wp2
 go_ret2;exact⟨rfl,HF.out⟩}
structure Og (o:Ob) (k:Nat):Prop where
  ok:o.Ok
  m:o.m=20
  E:o.E=40
  V:o.V=12
  D:o.D=0
  now:o.now<=3*k
  id:∀e∈o.L,e.u<12/\e.v<12
  last:o.last<=k
section
variable {o:Ob} {k:Nat}
end
section
variable {W wr w' :World} {p:Nat} {o:Ob} {ts:List Th}
def ResE(W w' :World)(ts:List Th)(R:Option Ob)(e:Ending):Prop:=match R with
  | none=>e=.returned (.tuple #[.pointer none,.int .i64 2])/\Wd W w' ts
  | some o=>∃p,e=.returned (.tuple #[eQ p,.int .i64 0])/\Wd W w' (thO p o::ts)
theorem aRO(h:Wd W wr ts)(m E V D now:Int)(g:Nat)(a:Option Addr)(cap:Nat)(l:List R4)(hg:g<18446744073709551616)(hn1:-9223372036854775808<=now)(hn2:now<=9223372036854775807)(hm2:m<=9223372036854775807)
    (hl:l.length<=9223372036854775807) (hrow:RcW wr a l) (hok:∀r∈l,r.ok):
    Calls Tryz.prog 53 #[.agg #[.int .i64 m,.int .i64 E,.int .i64 V,.int .i64 D],.int .i64 now,.int .u64 g,.slice a l.length cap] wr fun e w' =>ResE W w' ts (iD m E V D now g l) e:=by
 refine(aRN m E V D now g a cap l wr hg hn1 hn2 hm2 hl hrow hok).mono fun e w' k=>?_;cases hR:iD m E V D now g l with
 | none=>rw[hR]at k;exact⟨k.1,h.fr0 k.2⟩
 | some o=>{
 rw[hR]at k;obtain⟨p,X,K,k1,k2,k3,k4,k5⟩:=k;exact⟨p,k1,h.new k4 ⟨X,k2,k3⟩ k5⟩}
end
def rC(r:R4):List Value:=[.int .u64 r.1,.int .u64 r.2.1,.int .i64 r.2.2.1,.int .i64 r.2.2.2]
section
variable {w w' :World} {v:Value} {l:List R4}
end
def kL(e:Lv):R4:=(e.u,e.v,e.wt,e.t)
def Ob.cut(o:Ob)(k:Nat):Ob:={ o with L:=o.L.take k,last:=o.gone+k }
theorem Ob.cut_all{o:Ob}(h:o.Ok):o.cut o.L.length=o:=by
 unfold Ob.cut;rw[List.take_length,<-h.last]
theorem aKS{L M:List Lv}(h:∀e∈L,e∈M):(kH L).length<=(kH M).length:=
  mW (aCW L) fun x hx=>by
 obtain⟨e,he,hat⟩:=jI.1 hx;exact jI.2 ⟨e,h e he,hat⟩
theorem aDC(L:List Lv)(e:Lv):Ob.idsUV L e.u e.v=kH (L++[e]):=by
 unfold Ob.idsUV kH;rw[List.foldl_append];rfl
theorem aKT{o:Ob}(h:o.Ok){k:Nat}(hk:k<o.L.length){last:Int}(hl:last<=(o.L[k]).t):(o.cut k).resOk last (kL o.L[k])=true/\(o.cut k).putT (o.L[k]).u (o.L[k]).v (o.L[k]).wt (o.L[k]).t=o.cut (k+1):=by
 have hm:=List.getElem_mem hk;have hx:=h.x _ hm;have hlen:(o.L.take k).length=k:=by rw[List.length_take];omega
 have hle:=h.leE;have htk:o.L.take (k+1)=o.L.take k++[o.L[k]]:=by rw[List.take_add_one,qK hk];rfl
 constructor
 {
 unfold Ob.resOk;have e1:iK (o.cut k).m (o.cut k).now (kL o.L[k]).2.2.2=true:=qG ⟨hx.2.2.1,by have:=h.n1;show(o.L[k]).t+o.m<=_;omega,by show o.now<(o.L[k]).t+o.m;omega⟩;have e2:(o.cut k).chkO (kL o.L[k]).1 (kL o.L[k]).2.1=0:=by {
 unfold Ob.chkO;rw[qC (show ¬(kL o.L[k]).1=(kL o.L[k]).2.1 from h.ne _ hm),qC (show ¬(o.cut k).E<=(o.cut k).L.length by show ¬o.E<=(o.L.take k).length;omega),qC];show ¬o.V<(Ob.idsUV (o.L.take k) (o.L[k]).u (o.L[k]).v).length
 rw[aDC,<-htk];have:=aKS (L:=o.L.take (k+1)) (M:=o.L) fun e he=>List.mem_of_mem_take he;have:=h.leV;omega};rw[e1,e2,qG (show last<=(kL o.L[k]).2.2.2 from hl)];rfl}
 {
 have hs:o.L[k]=⟨0,o.gone+k+1,(o.L[k]).u,(o.L[k]).v,(o.L[k]).wt,(o.L[k]).t,(o.L[k]).t+o.m⟩:=by {
 have h1:=h.num k hk;have h2:=h.sl _ hm;generalize o.L[k]=e at *;obtain⟨a,b,c,d,f,g,i⟩:=e;simp only at h1 h2 hx ⊢;rw[h1,h2,hx.1]};unfold Ob.putT Ob.cut;simp only[htk];rw[<-hs];rfl}
theorem aAZ{o:Ob}(h:o.Ok):∀(n k:Nat) (last:Int),k+n=o.L.length->(∀e,o.L[k]? =some e->last<=e.t)->(o.cut k).resL last ((o.L.drop k).map kL)=some o
  | 0,k,last,hk,_=>by
    rw[List.drop_eq_nil_of_le (by omega)];have:k=o.L.length:=by omega
    subst this;show some (o.cut o.L.length)=_
    rw[Ob.cut_all h]
  | n+1,k,last,hk,hl=>by
    have hlt:k<o.L.length:=by omega
    obtain⟨h1,h2⟩:=aKT h hlt (hl _ (qK hlt));rw[List.drop_eq_getElem_cons hlt,List.map_cons];unfold Ob.resL;rw[qD h1];show((o.cut k).putT (o.L[k]).u (o.L[k]).v (o.L[k]).wt (o.L[k]).t).resL (o.L[k]).t ((o.L.drop (k+1)).map kL)=_
    rw[h2];refine aAZ h n (k+1) _ (by omega) fun e he=>?_;obtain⟨h3,rfl⟩:=qS.1 he;exact(List.pairwise_iff_getElem.1 h.mono) k (k+1) hlt h3 (by omega)
theorem aHB{o:Ob}(h:o.Ok)(hc:lO o.m o.E o.V o.D=true):iD o.m o.E o.V o.D o.now o.gone (o.L.map kL)=some o:=by
 have h1:=h.last;have h2:=h.max;have h3:=h.leE;unfold iD;rw[qD]
 {
 have:=aAZ h o.L.length 0 0 (by omega) (fun e he=>(h.x e (List.mem_of_getElem? he)).2.1);exact this}
 {
 refine⟨by omega,hc,by rw[List.length_map];omega,by rw[List.length_map];omega,?_⟩;unfold dI lK;rw[qC (by have:=h.n0;omega),qD (by have:=h.n1;omega)]}
theorem cK{l m r:List Nat}{i n:Nat}(hi:l.length=i)(hn:m.length=n):sub (l++(m++r)) i n=m:=by
 subst hi hn;unfold sub;rw[List.drop_left,List.take_left]
theorem aKU(b:List Nat)(i n k:Nat):sub (b.drop k) i n=sub b (k+i) n:=by unfold sub;rw[List.drop_drop]
def R4.fit(r:R4):Prop:=r.1<18446744073709551616/\r.2.1<18446744073709551616/\(-9223372036854775808<=r.2.2.1/\r.2.2.1<=9223372036854775807)/\ -9223372036854775808<=r.2.2.2/\r.2.2.2<=9223372036854775807
theorem jK{x:Nat}(h:x<18446744073709551616):aI (beN 8 x)=x:=by rw[wL];exact Nat.mod_eq_of_lt h
theorem lQ:∀(l:List R4) (r:List Nat),(∀x∈l,R4.fit x)->cR l.length (aY l++r)=l
  | [],_,_=>rfl
  | x::l,r,h=>by
    obtain⟨h1,h2,h3,h4⟩:=h x List.mem_cons_self;have e:aY (x::l)++r=beN 8 x.1++(beN 8 x.2.1++(beN 8 (aD x.2.2.1)++(beN 8 (aD x.2.2.2)++(aY l++r)))):=by
      show(oT x++aY l)++r=_
      unfold oT;simp only[List.append_assoc]
    have e2:aY (x::l)++r=oT x++(aY l++r):=List.append_assoc ..;have l8:∀y,(beN 8 y).length=8:=aH 8;have q0:sub (aY (x::l)++r) 0 8=beN 8 x.1:=by rw[e];exact cK (l:=[]) rfl (l8 _)
    have q1:sub (aY (x::l)++r) 8 8=beN 8 x.2.1:=by rw[e];exact cK (l8 _) (l8 _)
    have q2:sub (aY (x::l)++r) 16 8=beN 8 (aD x.2.2.1):=by
      rw[e,<-List.append_assoc];exact cK (by rw[zE,l8,l8]) (l8 _)
    have q3:sub (aY (x::l)++r) 24 8=beN 8 (aD x.2.2.2):=by
      rw[e,<-List.append_assoc,<-List.append_assoc];exact cK (by rw[zE,zE,l8,l8,l8]) (l8 _)
    have q4:(aY (x::l)++r).drop 32=aY l++r:=by rw[e2];exact List.drop_left' (aAX x)
    show(aI (sub (aY (x::l)++r) 0 8),aI (sub (aY (x::l)++r) 8 8),bJ (aI (sub (aY (x::l)++r) 16 8)),bJ (aI (sub (aY (x::l)++r) 24 8)))::cR l.length ((aY (x::l)++r).drop 32)=x::l
    rw[q0,q1,q2,q3,q4,lQ l r (fun y hy=>h y (List.mem_cons_of_mem _ hy)),jK h1,jK h2,jK (dY _),jK (dY _),cY h3.1 h3.2,cY h4.1 h4.2]
theorem tZ{m E V D now:Int}{a g:Nat}{l:List R4}(hm:-9223372036854775808<=m/\m<=9223372036854775807)(hE:-9223372036854775808<=E/\E<=9223372036854775807)(hV:-9223372036854775808<=V/\V<=9223372036854775807)(hD:-9223372036854775808<=D/\D<=9223372036854775807)
    (hn:-9223372036854775808<=now/\now<=9223372036854775807) (ha:a<18446744073709551616) (hg:g<18446744073709551616) (hl:∀x∈l,R4.fit x) (hag:a=g+l.length):
    cX (jJ (aO m E V D now a g l))=match iD m E V D now g l with|none=>(2,none)|some o=>(0,some o):=by
 obtain⟨b,hb⟩:∃b,b=jJ (aO m E V D now a g l):=⟨_,rfl⟩;have hlen:b.length=65+32*l.length:=by rw[hb,tY,dW];omega
 have l8:∀y,(beN 8 y).length=8:=aH 8;have e:b=fC++(beN 8 (aD m)++(beN 8 (aD E)++(beN 8 (aD V)++(beN 8 (aD D)++(beN 8 (aD now)++(beN 8 a++(beN 8 g++(aY l++beN 4 (crc (aO m E V D now a g l)))))))))):=by {
 rw[hb];unfold jJ;(conv=>lhs;lhs;unfold aO gZ gY);simp only[List.append_assoc]};have h5:b.take 5=fC:=by rw[e];exact List.take_left' rfl
 have q0:sub b 5 8=beN 8 (aD m):=by rw[e];exact cK rfl (l8 _)
 have q1:sub b 13 8=beN 8 (aD E):=by rw[e,<-List.append_assoc];exact cK (by rw[zE,l8];rfl) (l8 _)
 have q2:sub b 21 8=beN 8 (aD V):=by rw[e,<-List.append_assoc,<-List.append_assoc];exact cK (by simp only[zE,l8];rfl) (l8 _)
 have q3:sub b 29 8=beN 8 (aD D):=by rw[e,<-List.append_assoc,<-List.append_assoc,<-List.append_assoc];exact cK (by simp only[zE,l8];rfl) (l8 _)
 have q4:sub b 37 8=beN 8 (aD now):=by rw[e,<-List.append_assoc,<-List.append_assoc,<-List.append_assoc,<-List.append_assoc];exact cK (by simp only[zE,l8];rfl) (l8 _)
 have q5:sub b 45 8=beN 8 a:=by rw[e,<-List.append_assoc,<-List.append_assoc,<-List.append_assoc,<-List.append_assoc,<-List.append_assoc];exact cK (by simp only[zE,l8];rfl) (l8 _)
 have q6:sub b 53 8=beN 8 g:=by rw[e,<-List.append_assoc,<-List.append_assoc,<-List.append_assoc,<-List.append_assoc,<-List.append_assoc,<-List.append_assoc];exact cK (by simp only[zE,l8];rfl) (l8 _)
 have q7:b.drop 61=aY l++beN 4 (crc (aO m E V D now a g l)):=by rw[hb];unfold jJ aO;rw[List.append_assoc];exact List.drop_left' (iA _ _ _ _ _ _ _)
 have q8:b.take (b.length-4)=aO m E V D now a g l:=by rw[hlen,hb];exact List.take_left' (by rw[dW];omega)
 have q9:b.drop (b.length-4)=beN 4 (crc (aO m E V D now a g l)):=by rw[hlen,hb];exact List.drop_left' (by rw[dW];omega)
 have hc:aI (beN 4 (crc (aO m E V D now a g l)))=crc (aO m E V D now a g l):=by rw[wL];exact Nat.mod_eq_of_lt (oY (gT _ _ _ _ _ _ _ _))
 rw[<-hb];unfold cX;rw[qC (by rw[h5,hlen];simp),qC (by rw[q8,q9,hc];simp)];simp only;rw[q5,q6,q7,q4,q3,q2,q1,q0,jK ha,jK hg,jK (dY _),jK (dY _),jK (dY _),jK (dY _),jK (dY _),cY hm.1 hm.2,cY hE.1 hE.2,cY hV.1 hV.2,cY hD.1 hD.2,cY hn.1 hn.2,hlen];rw[qC (by omega),show a-g=l.length by omega,lQ l _ hl];cases iD m E V D now g l<;>rfl
def aON(b:List Nat):Int×Int×Int×Int×Int×Nat×Nat×List R4:=
  (bJ (aI (sub b 5 8)),bJ (aI (sub b 13 8)),bJ (aI (sub b 21 8)),bJ (aI (sub b 29 8)),bJ (aI (sub b 37 8)),aI (sub b 45 8),aI (sub b 53 8),cR ((b.length-65)/32) (b.drop 61))
def inI(x:Int):Prop:=-9223372036854775808<=x/\x<=9223372036854775807
theorem aOO{m E V D now:Int}{a g:Nat}{l:List R4}(hm:inI m)(hE:inI E)(hV:inI V)(hD:inI D)(hn:inI now)(ha:a<18446744073709551616)(hg:g<18446744073709551616)(hl:∀x∈l,R4.fit x)(t:List Nat)(ht:t.length=4):
    aON (aO m E V D now a g l++t)=(m,E,V,D,now,a,g,l):=by
 obtain⟨b,hb⟩:∃b,b=aO m E V D now a g l++t:=⟨_,rfl⟩;have hlen:b.length=65+32*l.length:=by rw[hb,zE,dW,ht];omega
 have l8:∀y,(beN 8 y).length=8:=aH 8;have e:b=fC++(beN 8 (aD m)++(beN 8 (aD E)++(beN 8 (aD V)++(beN 8 (aD D)++(beN 8 (aD now)++(beN 8 a++(beN 8 g++(aY l++t)))))))):=by {
 rw[hb];(conv=>lhs;lhs;unfold aO gZ gY);simp only[List.append_assoc]};have q0:sub b 5 8=beN 8 (aD m):=by rw[e];exact cK rfl (l8 _)
 have q1:sub b 13 8=beN 8 (aD E):=by rw[e,<-List.append_assoc];exact cK (by rw[zE,l8];rfl) (l8 _)
 have q2:sub b 21 8=beN 8 (aD V):=by rw[e,<-List.append_assoc,<-List.append_assoc];exact cK (by simp only[zE,l8];rfl) (l8 _)
 have q3:sub b 29 8=beN 8 (aD D):=by rw[e,<-List.append_assoc,<-List.append_assoc,<-List.append_assoc];exact cK (by simp only[zE,l8];rfl) (l8 _)
 have q4:sub b 37 8=beN 8 (aD now):=by rw[e,<-List.append_assoc,<-List.append_assoc,<-List.append_assoc,<-List.append_assoc];exact cK (by simp only[zE,l8];rfl) (l8 _)
 have q5:sub b 45 8=beN 8 a:=by rw[e,<-List.append_assoc,<-List.append_assoc,<-List.append_assoc,<-List.append_assoc,<-List.append_assoc];exact cK (by simp only[zE,l8];rfl) (l8 _)
 have q6:sub b 53 8=beN 8 g:=by rw[e,<-List.append_assoc,<-List.append_assoc,<-List.append_assoc,<-List.append_assoc,<-List.append_assoc,<-List.append_assoc];exact cK (by simp only[zE,l8];rfl) (l8 _)
 have q7:b.drop 61=aY l++t:=by rw[hb];unfold aO;rw[List.append_assoc];exact List.drop_left' (iA _ _ _ _ _ _ _)
 rw[<-hb];unfold aON;rw[q0,q1,q2,q3,q4,q5,q6,q7,hlen,show(65+32*l.length-65)/32=l.length by omega,lQ l _ hl,jK ha,jK hg,jK (dY _),jK (dY _),jK (dY _),jK (dY _),jK (dY _),cY hm.1 hm.2,cY hE.1 hE.2,cY hV.1 hV.2,cY hD.1 hD.2,cY hn.1 hn.2]
structure Ob.Pc (o:Ob):Prop where
  cf:lO o.m o.E o.V o.D=true
  fit:∀e∈o.L,inI e.wt
theorem aKV{m D:Int}{E V g:Nat}(h:lO m E V D=true):(Ob.new m E V D g).Pc:=⟨h,fun e he=>by cases he⟩
theorem Ob.Pc.tick{o:Ob}(h:o.Pc)(to:Int):(o.tick to).Pc:=⟨h.cf,fun e he=>h.fit e (qZ.1 he).1⟩
theorem Ob.Pc.add{o:Ob}(h:o.Pc)(u v:Nat){wt:Int}(hw:inI wt)(t:Int):(o.add u v wt t).Pc:=by
 unfold Ob.add;split
 {
 refine⟨h.cf,fun e he=>?_⟩;rcases qE.1 (show e∈(o.tick t).L++_ from he) with he|he
 · exact(h.tick t).fit e he
 {
 obtain rfl:=qH.1 he;exact hw}}
 · exact h
theorem Ob.Pc.fit4{o:Ob}(h:o.Pc)(k:o.Ok):∀x∈o.L.map lvR,R4.fit x:=fun x hx=>by
 obtain⟨e,he,rfl⟩:=qV.1 hx;have h1:=k.u64 e he;have h2:=k.x e he;have h3:=k.n1;have h4:=k.m1;exact⟨h1.1,h1.2,h.fit e he,by show _<=e.t;omega,by show e.t<=_;omega⟩
theorem Ob.Pc.ins{o:Ob}(h:o.Pc)(k:o.Ok):inI o.m/\inI o.E/\inI o.V/\inI o.D/\inI o.now/\o.last<18446744073709551616/\o.gone<18446744073709551616:=by
 have h1:=fJ.1 h.cf;have h2:=k.m2;have h3:=k.n0;have h4:=k.n1;have h5:=k.max;have h6:=k.last;unfold inI;omega
theorem Ob.img_len(o:Ob):o.img.length=65+32*o.L.length:=by unfold Ob.img;rw[tY,dW,List.length_map];omega
theorem Ob.img_byt(o:Ob):Byt o.img:=aAY (gT _ _ _ _ _ _ _ _)
theorem aBA{P:Program}{w:World}{ops:Array Oper}{rest:List Oper}{o:Oper}{a:Act}{Q:Exit->Act->World->Prop}(hgd:o.guard=none)(s x:Operand)(t:TypeId)
    (ho:o.op=.call { callee:=.builtin .append,args:=#[s,x],argTypes:=#[t,t] })
    (e:TypeId) (z:Value) (bytes:Nat) (ht:P.underlying t=some (.slice e)) (hinfo:(P.info? e).map (fun i=>(i.zero,i.size,i.bytes))=some (some z,1,bytes)) (hzs:z.cells.size=1)
    (b:Addr) (n cap:Nat) (olds:List Value) (hs:a.eval s=.slice (some b) n cap) (hlo:olds.length=n) (holds:∀j u,olds[j]? =some u->w.cell? (b.add j)=some u)
    (ad:Addr) (m c:Nat) (news:List Value) (hx:a.eval x=.slice (some ad) m c) (hl:news.length=m) (hnews:∀j u,news[j]? =some u->w.cell? (ad.add j)=some u)
    (hg:cap<n+m) (hn:n+m<=4294967296) (hby:bytes<=1024)
    (h:∀v' w', w'.ownsRow 0 e 1 v' (n+m) (olds++news)->(∀q,v'.ownBlock=some q->w.heap.size<=q)->Fr [] w w' -> wpList P ops Q rest (a.put o.dst v') w'):wpList P ops Q (o::rest) a w:=by
 obtain⟨i0,hi,hz0,hz1,hz2⟩:=info_parts hinfo;refine wpList_plain hgd fun K hK=>?_;have hbb:(n+m)*bytes<=140737488355328:=by {
 have:(n+m)*bytes<=4294967296*1024:=Nat.mul_le_mul hn hby;omega};obtain⟨v', w', hr,h2,h3⟩:=run_append_arg_grows (P:=P) w t o.type e i0 z 1 bytes ht hi hz0 hz1 hz2 hzs (by decide) b n cap olds (by rw[hlo,Nat.mul_one]) holds ad m c news (by rw[hl,Nat.mul_one]) hnews hg (by unfold maxLen;omega) hbb;unfold Oper.wp execOp;simp only[ho,resolve,invoke,builtin,Sem.run_bind,Sem.run_pure,Result.andThen_ok,List.map_toArray,List.map_cons,List.map_nil,hs,hx,hr];refine hK _ _ (h v' w' (uN h2) (fun q hq=>?_) ⟨h3.os,h3.tape,h3.output,h3.size,fun k hk _=>h3.block k hk (by simp)⟩);rcases h2.2 with⟨rfl,_⟩|⟨g,cap', cur,rfl,hgb,_⟩
 · cases hq
 {
 simp only[Value.ownBlock,qI]at hq;omega}
section
variable {W w:World} {ts:List Th} {v:Value} {l ns:List Nat} {nb sz cn:Nat}
theorem aDD(h:Wd W w (thY v l::ts))(hb:Blk w nb 36 (ns.map fun x:Nat=>.int .u64 (x:Int)))(hne:v.ownBlock≠some nb)(hsz:sz<=8)(hl:l.length+8*ns.length<=1073741824):
    Calls Tryz.prog 48 #[v,.int .i64 sz,.slice (some ⟨nb,0,none⟩) ns.length cn] w fun e w' =>∃v', e=.returned v' /\ Wd W w' (thY v' (l++ns.flatMap (beN sz))::ts):=by
 obtain⟨K,⟨hv,rfl⟩,hs⟩:=h.open;refine(aRL hv hb hne hsz hl).mono ?_;rintro _ w' ⟨v', rfl,h1,h2,h3⟩;refine⟨v', rfl,hs ⟨_,⟨h1,rfl⟩,h3,fun q hq=>?_⟩⟩;exact(h2 q (by simpa using hq)).imp (fun e=>by simp[e]) id
theorem aRP(h:Wd W w (thY v l::ts))(hb:Byt l)(hl:l.length<=4611686018427387904):Calls Tryz.prog 15 #[v] w fun e w' =>e=.returned (.int .u32 (crc l:Nat))/\w' =w:=by
 have hr:=h.rowB;obtain⟨a,cap,rfl⟩:=hr.slice;exact wC hr.rd hb hl
end
theorem aRQ(m E V D:Int)(w:World):Calls Tryz.prog 87 #[.agg #[.int .i64 m,.int .i64 E,.int .i64 V,.int .i64 D]] w fun e w' =>e=.returned (.agg #[.int .i64 m,.int .i64 E,.int .i64 V,.int .i64 D])/\Fr [] w w' :=by
 have hb:=Blk.new w [.int .i64 m,.int .i64 E,.int .i64 V,.int .i64 D] 115;have hF:Fr [] (w.alloc (.cells #[.int .i64 m,.int .i64 E,.int .i64 V,.int .i64 D] 115)) ((w.alloc (.cells #[.int .i64 m,.int .i64 E,.int .i64 V,.int .i64 D] 115)).alloc (.cells #[.int .i64 0,.int .i64 0,.int .i64 0,.int .i64 0] 31)):=(Fr.refl [] _).alloc _;have hb2:=hF.blk hb (by simp);have r0:=hb2.cell 0;have r1:=hb2.cell 1;have r2:=hb2.cell 2;have r3:=hb2.cell 3;have hb3:=Blk.new (w.alloc (.cells #[.int .i64 m,.int .i64 E,.int .i64 V,.int .i64 D] 115)) [.int .i64 m,.int .i64 E,.int .i64 V,.int .i64 D] 31;rw[World.size_alloc]at hb3;have q0:=hb3.cell 0;have q1:=hb3.cell 1;have q2:=hb3.cell 2;have q3:=hb3.cell 3;simp only[zI,zJ]at r0 r1 r2 r3 q0 q1 q2 q3;have HF:=qA (((Fr.refl [] w).alloc (.cells #[.int .i64 m,.int .i64 E,.int .i64 V,.int .i64 D] 115)).alloc (.cells #[.int .i64 m,.int .i64 E,.int .i64 V,.int .i64 D] 31));clear hb hF hb2 hb3;go_enter Tryz.func87,Tryz.ntmps87
 go_wp2
 exact bodyPost_ret (v:=.agg #[.int .i64 m,.int .i64 E,.int .i64 V,.int .i64 D]) (by simp[results,Tryz.results87,go_sem,q0,q1,q2,q3]) rfl ⟨rfl,HF.out⟩
theorem jL{x:Nat}(h:x<18446744073709551616):IntKind.i64.wrap (x:Int)=bJ x:=by
 rw[Go.IntKind.wrap_i64];unfold bJ;split<;>omega
theorem mI{l:List Nat}{i n:Nat}(h:i+n<=l.length):(sub l i n).length=n:=by unfold sub;rw[List.length_take,List.length_drop];omega
theorem mJ{l:List Nat}(h:Byt l)(i n:Nat):Byt (sub l i n):=(h.drop i).take n
theorem RdB.sub{w:World}{b off:Nat}{l:List Nat}(h:RdB w (some ⟨b,off,none⟩) l)(i n:Nat):RdB w (some ⟨b,off+i,none⟩) (sub l i n):=(h.drop i).take n
def uX(l:List Nat)(k:Nat):List Value:=(List.range 4).map fun i=>.int .i64 (if i<k then bJ (aI (sub l (8*i) 8)) else 0)
theorem aRR{w:World}{b off n cap:Nat}{l:List Nat}(hr:RdB w (some ⟨b,off,none⟩) l)(hb:Byt l)(hn:l.length=n)(h32:32<=n)(hc:n<=cap)(hL:fD w)
    (hw:cM (bJ (aI (sub l 0 8))) (bJ (aI (sub l 8 8))) (bJ (aI (sub l 16 8))) (bJ (aI (sub l 24 8)))=-1):
    Calls Tryz.prog 52 #[.slice (some ⟨b,off,none⟩) n cap] w fun e w' =>e=.returned (.tuple #[.agg #[.int .i64 (bJ (aI (sub l 0 8))),.int .i64 (bJ (aI (sub l 8 8))),.int .i64 (bJ (aI (sub l 16 8))),.int .i64 (bJ (aI (sub l 24 8)))],.int .i64 32,.int .i64 0])/\Fr [] w w' :=by
 have d0:decide ((n:Int)<32)=false:=qF (by omega);have d1:¬n<32:=by omega
 have HR:=qA (zH hr (zH hb hn));have HL:=qA hL;have HW:=qA hw;have HC:=qA (zH h32 hc);clear hr hb hn hL hw h32 hc;go_enter Tryz.func52,Tryz.ntmps52
 go_wp2_with fail
 have HP0:=qA (show Fr [] w ((w.alloc (.cells #[.int .i64 0,.int .i64 0,.int .i64 0,.int .i64 0] 31)).alloc (.cells #[.int .i64 0,.int .i64 0,.int .i64 0,.int .i64 0] 115))/\Blk ((w.alloc (.cells #[.int .i64 0,.int .i64 0,.int .i64 0,.int .i64 0] 31)).alloc (.cells #[.int .i64 0,.int .i64 0,.int .i64 0,.int .i64 0] 115)) (w.heap.size+1) 115 (uX l 0)/\Blk ((w.alloc (.cells #[.int .i64 0,.int .i64 0,.int .i64 0,.int .i64 0] 31)).alloc (.cells #[.int .i64 0,.int .i64 0,.int .i64 0,.int .i64 0] 115)) w.heap.size 31 [.int .i64 0,.int .i64 0,.int .i64 0,.int .i64 0] from by
   refine⟨((Fr.refl [] w).alloc _).alloc _,?_,((Fr.refl [] _).alloc _).blk (Blk.new w [.int .i64 0,.int .i64 0,.int .i64 0,.int .i64 0] 31) (by simp)⟩;have k:=Blk.new (w.alloc (.cells #[.int .i64 0,.int .i64 0,.int .i64 0,.int .i64 0] 31)) [.int .i64 0,.int .i64 0,.int .i64 0,.int .i64 0] 115;rw[World.size_alloc]at k;exact k)
 clear d0 d1;go_loopw [14] (fun i wr=>∃k:Nat,k<=4/\i=.int .i64 k/\Hid (Fr [] w wr/\Blk wr (w.heap.size+1) 115 (uX l k)/\Blk wr w.heap.size 31 [.int .i64 0,.int .i64 0,.int .i64 0,.int .i64 0])) (fun i _=>4-(intOf i).toNat)
 case atStart=>exact⟨0,by omega,rfl,HP0⟩
 case round=>
  clear HP0;obtain⟨k,hk,rfl,HP⟩:=hrel;rename World=>wr
  by_cases hlt:k<4
  {
  have hlt' :(k:Int)<4:=by omega
  have hk0:(0:Int)<=k:=by omega
  have hw1:IntKind.i64.wrap ((k:Int)+1)=((k+1:Nat):Int):=by rw[show(k:Int)+1=((k+1:Nat):Int) by omega];exact zF _ (by omega)
  have hw8:IntKind.i64.wrap (8*(k:Int))=((8*k:Nat):Int):=by rw[show 8*(k:Int)=((8*k:Nat):Int) by omega];exact zF _ (by omega)
  have hw9:IntKind.i64.wrap (((8*k:Nat):Int)+8)=((8*k+8:Nat):Int):=by rw[show((8*k:Nat):Int)+8=((8*k+8:Nat):Int) by omega];exact zF _ (by omega)
  have hp0:(0:Int)<=((8*k:Nat):Int):=by omega
  have hp1:((8*k:Nat):Int)<=((8*k+8:Nat):Int):=by omega
  have hp2:((8*k+8:Nat):Int)<=cap:=by have:=HC.out;omega
  have hne:¬cap=8*k:=by have:=HC.out;omega
  have t1:((8*k:Nat):Int).toNat=8*k:=zC _;have t2:((8*k+8:Nat):Int).toNat=8*k+8:=zC _;have e8:8*k+8-8*k=8:=by omega
  generalize hk8:8*k=k8 at *;have HK:=qA hk8;clear hk8;go_wp2_with fail
  clear hp0 hp1 hp2 hne t1 t2 hw8 hw9;have HS:=qA (show RdB w (some ⟨b,off+k8,none⟩) (sub l k8 8)/\Byt (sub l k8 8)/\(sub l k8 8).length=8 from⟨HR.out.1.sub k8 8,mJ HR.out.2.1 k8 8,mI (by rw[HR.out.2.2];have:=HC.out;have:=HK.out;omega)⟩);go_loopw [7,25] (fun r c wr2=>∃(j:Nat) (x:Nat),j<=8/\r=.int .u64 x/\c=.int .i64 j/\wr2=wr/\Hid (x=aI ((sub l k8 8).take j))) (fun _ c _=>8-(intOf c).toNat)
  case atStart=>exact⟨0,0,by omega,rfl,rfl,rfl,qA rfl⟩
  case round=>
   obtain⟨j,x,hj,rfl,rfl,rfl,HX⟩:=hrel;by_cases hj8:j<8
   {
   have hj8' :(j:Int)<8:=by omega
   have hj0:(0:Int)<=j:=by omega
   have hw2:IntKind.i64.wrap ((j:Int)+1)=((j+1:Nat):Int):=by rw[show(j:Int)+1=((j+1:Nat):Int) by omega];exact zF _ (by omega)
   have hjl:j<(sub l k8 8).length:=by rw[HS.out.2.2];exact hj8
   obtain⟨b', off', eb,_,c0⟩:=(HS.out.1.fr HP.out.1) j hjl;simp only[qI,Addr.mk.injEq,and_true]at eb;obtain⟨rfl,rfl⟩:=eb;have hby:=HS.out.2.1 _ (List.getElem_mem hjl);have hx:x<72057594037927936:=by rw[HX.out];exact lP HS.out.2.1 hjl (by rw[HS.out.2.2];decide)
   have htk:(sub l k8 8).take (j+1)=(sub l k8 8).take j++[(sub l k8 8)[j]'hjl]:=by rw[List.take_add_one,qK hjl];rfl
   generalize (sub l k8 8)[j]'hjl=y at *;have hwy:IntKind.u64.wrap (y:Int)=y:=by simp[IntKind.wrap,IntKind.bits,IntKind.signed];omega
   have hwx:IntKind.u64.wrap ((x:Int)*256)=(x:Int)*256:=by simp[IntKind.wrap,IntKind.bits,IntKind.signed];omega
   have hor:=aDB hx hby;have HN:=qA (show x*256+y=aI ((sub l k8 8).take (j+1)) by rw[htk,rZ,<-HX.out]);clear htk HX;go_wp2_with fail
   go_roundw
   case rel=>exact⟨j+1,x*256+y,by omega,rfl,by go_num,trivial,HN⟩
   case measure=>simp[intOf];omega}
   {
   obtain rfl:j=8:=by omega
   have hxv:x=aI (sub l k8 8):=by {
   have e:=HX.out;rw[List.take_of_length_le (by rw[HS.out.2.2];exact qJ _)]at e;exact e};have hx:x<18446744073709551616:=by rw[hxv];have h1:=gB HS.out.2.1;rw[HS.out.2.2]at h1;exact h1
   have hwz:=jL hx;obtain⟨yv,hyv⟩:∃yv,yv=bJ x:=⟨_,rfl⟩;rw[<-hyv]at hwz;have hk8' :=HK.out;have hset:(uX l k).set k (.int .i64 yv)=uX l (k+1):=by {
   rw[hyv,hxv];have hk4:k=0∨k=1∨k=2∨k=3:=by omega
   rcases hk4 with rfl|rfl|rfl|rfl<;>subst hk8' <;> rfl};have c8:=HP.out.2.1.cell k;have z9:=HP.out.2.1.frozen k;have c9:wr.cell? ⟨w.heap.size+1,k,none⟩=some (.int .i64 0):=by {
   rw[c8];have hk4:k=0∨k=1∨k=2∨k=3:=by omega
   rcases hk4 with rfl|rfl|rfl|rfl<;>rfl};have hlt4:w.heap.size≠w.heap.size+1:=by omega
   have HN:=qA (show Fr [] w (wr.setCell ⟨w.heap.size+1,k,none⟩ (.int .i64 yv))/\Blk (wr.setCell ⟨w.heap.size+1,k,none⟩ (.int .i64 yv)) (w.heap.size+1) 115 (uX l (k+1))/\Blk (wr.setCell ⟨w.heap.size+1,k,none⟩ (.int .i64 yv)) w.heap.size 31 [.int .i64 0,.int .i64 0,.int .i64 0,.int .i64 0] from by
     refine⟨HP.out.1.setCell _ _ (.inr (by simp)),?_,((Fr.refl [w.heap.size+1] wr).setCell _ _ (.inl (by simp))).blk HP.out.2.2 (by simp)⟩;rw[<-hset];exact HP.out.2.1.set k (.int .i64 yv))
   clear hset hxv hyv HX hk8' HP c8;go_wp2_with fail
   go_roundw
   case rel=>exact⟨k+1,by omega,by go_num,HN⟩
   case measure=>simp[intOf];omega}}
  {
  obtain rfl:k=4:=by omega
  have hb4:Blk wr (w.heap.size+1) 115 [.int .i64 (bJ (aI (sub l 0 8))),.int .i64 (bJ (aI (sub l 8 8))),.int .i64 (bJ (aI (sub l 16 8))),.int .i64 (bJ (aI (sub l 24 8)))]:=HP.out.2.1;have hv8:∀i,i+8<=32->aI (sub l i 8)<18446744073709551616:=fun i hi=>by
    have h1:=gB (mJ HR.out.2.1 i 8);rw[mI (by rw[HR.out.2.2];have:=HC.out;omega)]at h1;exact h1
  have hg:=wK (HL.out.fr HP.out.1 (by simp)) (bJ (aI (sub l 0 8))) (bJ (aI (sub l 8 8))) (bJ (aI (sub l 16 8))) (bJ (aI (sub l 24 8))) (gQ _ (hv8 0 (by omega))).2;rw[HW.out]at hg;generalize hX0:bJ (aI (sub l 0 8))=X0 at *;generalize hX1:bJ (aI (sub l 8 8))=X1 at *;generalize hX2:bJ (aI (sub l 16 8))=X2 at *;generalize hX3:bJ (aI (sub l 24 8))=X3 at *;have r0:=hb4.cell 0;have r1:=hb4.cell 1;have r2:=hb4.cell 2;have r3:=hb4.cell 3;simp only[zI,zJ,Nat.add_zero]at r0 r1 r2 r3;have HXX:=qA (zH hX0 (zH hX1 (zH hX2 hX3)));clear hX0 hX1 hX2 hX3;have HG:=qA hg;have HB4:=qA hb4;clear hg hb4 hv8;go_wp2_with fail
  refine HG.out.mono ?_;rintro _ w3 ⟨rfl,hF⟩;have HJ:=qA (aRQ X0 X1 X2 X3 w3);have hb4:=hF.blk HB4.out (by simp);have r0:=hb4.cell 0;have r1:=hb4.cell 1;have r2:=hb4.cell 2;have r3:=hb4.cell 3;simp only[zI,zJ]at r0 r1 r2 r3;have HP3:=qA (zH (HP.out.1.trans' hF) (hF.blk HP.out.2.2 (by simp)));clear hb4 hF HG HB4 HP;go_wp2_with fail
  refine HJ.out.mono ?_;rintro _ w4 ⟨rfl,hF⟩;have hb:=hF.blk HP3.out.2 (by simp);have c0:=hb.cell 0;have c1:=hb.cell 1;have c2:=hb.cell 2;have c3:=hb.cell 3;have z0:=hb.frozen 0;have z1:=hb.frozen 1;have z2:=hb.frozen 2;have z3:=hb.frozen 3;simp only[zI,zJ]at c0 c1 c2 c3;have HF4:=qA (HP3.out.1.trans' hF);have hq:=(((hb.set 0 (.int .i64 X0)).set 1 (.int .i64 X1)).set 2 (.int .i64 X2)).set 3 (.int .i64 X3);have q0:=hq.cell 0;have q1:=hq.cell 1;have q2:=hq.cell 2;have q3:=hq.cell 3;simp only[qX,qT,zI,zJ]at q0 q1 q2 q3;clear hb hq hF HJ r0 r1 r2 r3 HP3;go_wp2
  exact bodyPost_ret (v:=.tuple #[.agg #[.int .i64 X0,.int .i64 X1,.int .i64 X2,.int .i64 X3],.int .i64 32,.int .i64 0]) (by simp[results,Tryz.results52,go_sem,q0,q1,q2,q3]) rfl ⟨by rw[HXX.out.1,HXX.out.2.1,HXX.out.2.2.1,HXX.out.2.2.2],(((HF4.out.setCell _ _ (.inr (qJ _))).setCell _ _ (.inr (qJ _))).setCell _ _ (.inr (qJ _))).setCell _ _ (.inr (qJ _))⟩}
theorem aRS{w:World}{b off n cap:Nat}{l:List Nat}(hr:RdB w (some ⟨b,off,none⟩) l)(hb:Byt l)(hn:l.length=n)(h32:32<=n)(hc:n<=cap)(hL:fD w)
    (hw:0<=cM (bJ (aI (sub l 0 8))) (bJ (aI (sub l 8 8))) (bJ (aI (sub l 16 8))) (bJ (aI (sub l 24 8)))):
    Calls Tryz.prog 52 #[.slice (some ⟨b,off,none⟩) n cap] w fun e w' =>e=.returned (.tuple #[.agg #[.int .i64 0,.int .i64 0,.int .i64 0,.int .i64 0],.int .i64 0,.int .i64 2])/\Fr [] w w' :=by
 have d0:decide ((n:Int)<32)=false:=qF (by omega);have d1:¬n<32:=by omega
 have HR:=qA (zH hr (zH hb hn));have HL:=qA hL;have HW:=qA hw;have HC:=qA (zH h32 hc);clear hr hb hn hL hw h32 hc;go_enter Tryz.func52,Tryz.ntmps52
 go_wp2_with fail
 have HP0:=qA (show Fr [] w ((w.alloc (.cells #[.int .i64 0,.int .i64 0,.int .i64 0,.int .i64 0] 31)).alloc (.cells #[.int .i64 0,.int .i64 0,.int .i64 0,.int .i64 0] 115))/\Blk ((w.alloc (.cells #[.int .i64 0,.int .i64 0,.int .i64 0,.int .i64 0] 31)).alloc (.cells #[.int .i64 0,.int .i64 0,.int .i64 0,.int .i64 0] 115)) (w.heap.size+1) 115 (uX l 0)/\Blk ((w.alloc (.cells #[.int .i64 0,.int .i64 0,.int .i64 0,.int .i64 0] 31)).alloc (.cells #[.int .i64 0,.int .i64 0,.int .i64 0,.int .i64 0] 115)) w.heap.size 31 [.int .i64 0,.int .i64 0,.int .i64 0,.int .i64 0] from by
   refine⟨((Fr.refl [] w).alloc _).alloc _,?_,((Fr.refl [] _).alloc _).blk (Blk.new w [.int .i64 0,.int .i64 0,.int .i64 0,.int .i64 0] 31) (by simp)⟩;have k:=Blk.new (w.alloc (.cells #[.int .i64 0,.int .i64 0,.int .i64 0,.int .i64 0] 31)) [.int .i64 0,.int .i64 0,.int .i64 0,.int .i64 0] 115;rw[World.size_alloc]at k;exact k)
 clear d0 d1;go_loopw [14] (fun i wr=>∃k:Nat,k<=4/\i=.int .i64 k/\Hid (Fr [] w wr/\Blk wr (w.heap.size+1) 115 (uX l k)/\Blk wr w.heap.size 31 [.int .i64 0,.int .i64 0,.int .i64 0,.int .i64 0])) (fun i _=>4-(intOf i).toNat)
 case atStart=>exact⟨0,by omega,rfl,HP0⟩
 case round=>
  clear HP0;obtain⟨k,hk,rfl,HP⟩:=hrel;rename World=>wr
  by_cases hlt:k<4
  {
  have hlt' :(k:Int)<4:=by omega
  have hk0:(0:Int)<=k:=by omega
  have hw1:IntKind.i64.wrap ((k:Int)+1)=((k+1:Nat):Int):=by rw[show(k:Int)+1=((k+1:Nat):Int) by omega];exact zF _ (by omega)
  have hw8:IntKind.i64.wrap (8*(k:Int))=((8*k:Nat):Int):=by rw[show 8*(k:Int)=((8*k:Nat):Int) by omega];exact zF _ (by omega)
  have hw9:IntKind.i64.wrap (((8*k:Nat):Int)+8)=((8*k+8:Nat):Int):=by rw[show((8*k:Nat):Int)+8=((8*k+8:Nat):Int) by omega];exact zF _ (by omega)
  have hp0:(0:Int)<=((8*k:Nat):Int):=by omega
  have hp1:((8*k:Nat):Int)<=((8*k+8:Nat):Int):=by omega
  have hp2:((8*k+8:Nat):Int)<=cap:=by have:=HC.out;omega
  have hne:¬cap=8*k:=by have:=HC.out;omega
  have t1:((8*k:Nat):Int).toNat=8*k:=zC _;have t2:((8*k+8:Nat):Int).toNat=8*k+8:=zC _;have e8:8*k+8-8*k=8:=by omega
  generalize hk8:8*k=k8 at *;have HK:=qA hk8;clear hk8;go_wp2_with fail
  clear hp0 hp1 hp2 hne t1 t2 hw8 hw9;have HS:=qA (show RdB w (some ⟨b,off+k8,none⟩) (sub l k8 8)/\Byt (sub l k8 8)/\(sub l k8 8).length=8 from⟨HR.out.1.sub k8 8,mJ HR.out.2.1 k8 8,mI (by rw[HR.out.2.2];have:=HC.out;have:=HK.out;omega)⟩);go_loopw [7,25] (fun r c wr2=>∃(j:Nat) (x:Nat),j<=8/\r=.int .u64 x/\c=.int .i64 j/\wr2=wr/\Hid (x=aI ((sub l k8 8).take j))) (fun _ c _=>8-(intOf c).toNat)
  case atStart=>exact⟨0,0,by omega,rfl,rfl,rfl,qA rfl⟩
  case round=>
   obtain⟨j,x,hj,rfl,rfl,rfl,HX⟩:=hrel;by_cases hj8:j<8
   {
   have hj8' :(j:Int)<8:=by omega
   have hj0:(0:Int)<=j:=by omega
   have hw2:IntKind.i64.wrap ((j:Int)+1)=((j+1:Nat):Int):=by rw[show(j:Int)+1=((j+1:Nat):Int) by omega];exact zF _ (by omega)
   have hjl:j<(sub l k8 8).length:=by rw[HS.out.2.2];exact hj8
   obtain⟨b', off', eb,_,c0⟩:=(HS.out.1.fr HP.out.1) j hjl;simp only[qI,Addr.mk.injEq,and_true]at eb;obtain⟨rfl,rfl⟩:=eb;have hby:=HS.out.2.1 _ (List.getElem_mem hjl);have hx:x<72057594037927936:=by rw[HX.out];exact lP HS.out.2.1 hjl (by rw[HS.out.2.2];decide)
   have htk:(sub l k8 8).take (j+1)=(sub l k8 8).take j++[(sub l k8 8)[j]'hjl]:=by rw[List.take_add_one,qK hjl];rfl
   generalize (sub l k8 8)[j]'hjl=y at *;have hwy:IntKind.u64.wrap (y:Int)=y:=by simp[IntKind.wrap,IntKind.bits,IntKind.signed];omega
   have hwx:IntKind.u64.wrap ((x:Int)*256)=(x:Int)*256:=by simp[IntKind.wrap,IntKind.bits,IntKind.signed];omega
   have hor:=aDB hx hby;have HN:=qA (show x*256+y=aI ((sub l k8 8).take (j+1)) by rw[htk,rZ,<-HX.out]);clear htk HX;go_wp2_with fail
   go_roundw
   case rel=>exact⟨j+1,x*256+y,by omega,rfl,by go_num,trivial,HN⟩
   case measure=>simp[intOf];omega}
   {
   obtain rfl:j=8:=by omega
   have hxv:x=aI (sub l k8 8):=by {
   have e:=HX.out;rw[List.take_of_length_le (by rw[HS.out.2.2];exact qJ _)]at e;exact e};have hx:x<18446744073709551616:=by rw[hxv];have h1:=gB HS.out.2.1;rw[HS.out.2.2]at h1;exact h1
   have hwz:=jL hx;obtain⟨yv,hyv⟩:∃yv,yv=bJ x:=⟨_,rfl⟩;rw[<-hyv]at hwz;have hk8' :=HK.out;have hset:(uX l k).set k (.int .i64 yv)=uX l (k+1):=by {
   rw[hyv,hxv];have hk4:k=0∨k=1∨k=2∨k=3:=by omega
   rcases hk4 with rfl|rfl|rfl|rfl<;>subst hk8' <;> rfl};have c8:=HP.out.2.1.cell k;have z9:=HP.out.2.1.frozen k;have c9:wr.cell? ⟨w.heap.size+1,k,none⟩=some (.int .i64 0):=by {
   rw[c8];have hk4:k=0∨k=1∨k=2∨k=3:=by omega
   rcases hk4 with rfl|rfl|rfl|rfl<;>rfl};have hlt4:w.heap.size≠w.heap.size+1:=by omega
   have HN:=qA (show Fr [] w (wr.setCell ⟨w.heap.size+1,k,none⟩ (.int .i64 yv))/\Blk (wr.setCell ⟨w.heap.size+1,k,none⟩ (.int .i64 yv)) (w.heap.size+1) 115 (uX l (k+1))/\Blk (wr.setCell ⟨w.heap.size+1,k,none⟩ (.int .i64 yv)) w.heap.size 31 [.int .i64 0,.int .i64 0,.int .i64 0,.int .i64 0] from by
     refine⟨HP.out.1.setCell _ _ (.inr (by simp)),?_,((Fr.refl [w.heap.size+1] wr).setCell _ _ (.inl (by simp))).blk HP.out.2.2 (by simp)⟩;rw[<-hset];exact HP.out.2.1.set k (.int .i64 yv))
   clear hset hxv hyv HX hk8' HP c8;go_wp2_with fail
   go_roundw
   case rel=>exact⟨k+1,by omega,by go_num,HN⟩
   case measure=>simp[intOf];omega}}
  {
  obtain rfl:k=4:=by omega
  have hb4:Blk wr (w.heap.size+1) 115 [.int .i64 (bJ (aI (sub l 0 8))),.int .i64 (bJ (aI (sub l 8 8))),.int .i64 (bJ (aI (sub l 16 8))),.int .i64 (bJ (aI (sub l 24 8)))]:=HP.out.2.1;have hv8:∀i,i+8<=32->aI (sub l i 8)<18446744073709551616:=fun i hi=>by
    have h1:=gB (mJ HR.out.2.1 i 8);rw[mI (by rw[HR.out.2.2];have:=HC.out;omega)]at h1;exact h1
  have hg:=wK (HL.out.fr HP.out.1 (by simp)) (bJ (aI (sub l 0 8))) (bJ (aI (sub l 8 8))) (bJ (aI (sub l 16 8))) (bJ (aI (sub l 24 8))) (gQ _ (hv8 0 (by omega))).2;have hw:=HW.out;clear HW;generalize hX0:bJ (aI (sub l 0 8))=X0 at *;generalize hX1:bJ (aI (sub l 8 8))=X1 at *;generalize hX2:bJ (aI (sub l 16 8))=X2 at *;generalize hX3:bJ (aI (sub l 24 8))=X3 at *;have r0:=hb4.cell 0;have r1:=hb4.cell 1;have r2:=hb4.cell 2;have r3:=hb4.cell 3;simp only[zI,zJ,Nat.add_zero]at r0 r1 r2 r3;generalize cM X0 X1 X2 X3=xw at *;have dw:decide (xw≥0)=true:=qG hw;clear hX0 hX1 hX2 hX3;have HG:=qA hg;have HB4:=qA hb4;clear hg hb4 hv8;go_wp2_with fail
  refine HG.out.mono ?_;rintro _ w3 ⟨rfl,hF⟩;have hb:=hF.blk HP.out.2.2 (by simp);have c0:=hb.cell 0;have c1:=hb.cell 1;have c2:=hb.cell 2;have c3:=hb.cell 3;have z0:=hb.frozen 0;have z1:=hb.frozen 1;have z2:=hb.frozen 2;have z3:=hb.frozen 3;simp only[zI,zJ]at c0 c1 c2 c3;have HF4:=qA (HP.out.1.trans' hF);have hq:=(((hb.set 0 (.int .i64 0)).set 1 (.int .i64 0)).set 2 (.int .i64 0)).set 3 (.int .i64 0);have q0:=hq.cell 0;have q1:=hq.cell 1;have q2:=hq.cell 2;have q3:=hq.cell 3;simp only[qX,qT,zI,zJ]at q0 q1 q2 q3;clear hb hq hF r0 r1 r2 r3 HP HG HB4;go_wp2
  exact bodyPost_ret (v:=.tuple #[.agg #[.int .i64 0,.int .i64 0,.int .i64 0,.int .i64 0],.int .i64 0,.int .i64 2]) (by simp[results,Tryz.results52,go_sem,q0,q1,q2,q3]) rfl ⟨rfl,(((HF4.out.setCell _ _ (.inr (qJ _))).setCell _ _ (.inr (qJ _))).setCell _ _ (.inr (qJ _))).setCell _ _ (.inr (qJ _))⟩}
theorem aBB{b:List Nat}{i n k:Nat}(h:i+n<=k):sub (b.take k) i n=sub b i n:=by
 unfold sub;rw[List.drop_take,List.take_take,Nat.min_eq_left (by omega)]
def Rst(w:World)(rb b off n cap:Nat)(l:List Nat):Prop:=Blk w rb 22 [.slice (some ⟨b,off,none⟩) n cap]/\RdB w (some ⟨b,off,none⟩) l/\Byt l/\l.length=n/\n<cap/\rb≠b
section
variable {w w' :World} {rb b off n cap:Nat} {l:List Nat}
theorem Rst.fr{S:List Nat}(h:Rst w rb b off n cap l)(hf:Fr S w w')(h1:rb∉S)(h2:b∉S):Rst w' rb b off n cap l:=by
 obtain⟨k1,k2,k3,k4,k5,k6⟩:=h;exact⟨hf.blk k1 h1,k2.frS hf (fun b' off' e=>by simp only[qI,Addr.mk.injEq]at e;rw[<-e.1];exact h2),k3,k4,k5,k6⟩
theorem nT(h:Rst w rb b off n cap l)(h8:8<=n):Calls Tryz.prog 51 #[.pointer (some ⟨rb,0,none⟩)] w fun e w' =>e=.returned (.int .u64 (aI (l.take 8):Nat))/\Rst w' rb b (off+8) (n-8) (cap-8) (l.drop 8)/\Fr [rb] w w' :=by
 obtain⟨k1,k2,k3,k4,k5,k6⟩:=h;refine(aRM k1 k2 k3 k4 h8 k5).mono ?_;rintro _ _ ⟨rfl,rfl⟩;have hF:Fr [rb] w (w.setCell ⟨rb,0,none⟩ (.slice (some ⟨b,off+8,none⟩) (n-8) (cap-8))):=(Fr.refl _ _).setCell _ _ (.inl (by simp));refine⟨rfl,⟨k1.set 0 _,(k2.drop 8).frS hF (fun b' off' e=>?_),k3.drop 8,by rw[List.length_drop,k4],by omega,k6⟩,hF⟩;simp only[qI,Addr.mk.injEq]at e;simp only[qH,<-e.1];exact fun e=>k6 e.symm
end
theorem fV{l:List Nat}(h:Byt l):aI (l.take 8)<18446744073709551616:=by
 have h1:=gB (h.take 8);have h2:256 ^ (l.take 8).length<=256 ^ 8:=Nat.pow_le_pow_right (by decide) (by rw[List.length_take];omega);exact Nat.lt_of_lt_of_le h1 h2
def aDE(r:R4):List Value:=[.int .u64 (r.1:Nat),.int .u64 (r.2.1:Nat),.int .i64 r.2.2.1,.int .i64 r.2.2.2]
def eG(l:List R4):List Value:=l.flatMap aDE
def lR:Nat->List Value
  | 0=>[]
  | n+1=>[.int .u64 0,.int .u64 0,.int .i64 0,.int .i64 0]++lR n
theorem wD(l:List R4):(eG l).length=l.length*4:=by
 induction l with
 | nil=>rfl
 | cons r l ih=>show(aDE r++eG l).length=_;rw[zE,ih];show 4+_=_;simp only[qY];omega
theorem rY(A B:List Value)(j:Nat)(x:Value):(A++B).set (A.length+j) x=A++B.set j x:=by
 rw[List.set_append_right _ _ (by omega),Nat.add_sub_cancel_left]
theorem aKW(l:List R4)(n:Nat)(r:R4):((((eG l++lR (n+1)).set (l.length*4) (.int .u64 (r.1:Nat))).set (l.length*4+1) (.int .u64 (r.2.1:Nat))).set (l.length*4+2) (.int .i64 r.2.2.1)).set (l.length*4+3) (.int .i64 r.2.2.2)=eG (l++[r])++lR n:=by
 have h0:=wD l;have e:eG (l++[r])=eG l++aDE r:=by unfold eG;rw[List.flatMap_append];simp
 rw[e,List.append_assoc,<-h0];rw[show(eG l++lR (n+1)).set (eG l).length (.int .u64 (r.1:Nat))=eG l++(lR (n+1)).set 0 (.int .u64 (r.1:Nat)) from rY _ _ 0 _,rY,rY,rY];rfl
theorem aOP(l:List R4)(n j:Nat)(hj:j<4):(eG l++lR (n+1))[l.length*4+j]? =([.int .u64 0,.int .u64 0,.int .i64 0,.int .i64 0]:List Value)[j]? :=by
 rw[<-wD l,List.getElem?_append_right (by omega),show(eG l).length+j-(eG l).length=j by omega];unfold lR;rw[List.getElem?_append_left (by simpa using hj)]
theorem aBC:∀{l:List R4} {i:Nat} (hi:i<l.length) (j:Nat),j<4->(eG l)[i*4+j]? =(aDE l[i])[j]?
  | r::l,0,_,j,hj=>by
    show(aDE r++eG l)[0*4+j]? =_
    rw[Nat.zero_mul,Nat.zero_add,List.getElem?_append_left (by exact hj)];rfl
  | r::l,i+1,hi,j,hj=>by
    show(aDE r++eG l)[(i+1)*4+j]? =_
    rw[List.getElem?_append_right (by show 4<=_;omega)];have:=aBC (l:=l) (i:=i) (by simpa using hi) j hj;rw[show(i+1)*4+j-(aDE r).length=i*4+j by show _-4=_;omega,this];rfl
theorem aRT{w:World}{qb:Nat}{l:List R4}(h:Blk w qb 72 (eG l)):RcW w (some ⟨qb,0,none⟩) l:=fun i hi=>by
 have hc:=fun j (hj:j<4)=>(h.cell (i*4+j)).trans (aBC hi j hj);have h0:=hc 0 (by decide);have h1:=hc 1 (by decide);have h2:=hc 2 (by decide);have h3:=hc 3 (by decide);refine⟨qb,0,rfl,h.lt,?_,?_,?_,?_⟩<;>simp only[Nat.zero_add]
 · exact h0
 · exact h1
 · exact h2
 · exact h3
def rz:Value:=.agg #[.int .u64 0,.int .u64 0,.int .i64 0,.int .i64 0]
def lS(n:Nat):Array Value:=madeCells rz.cells (n*4)
theorem Tryz.inforr:(Tryz.prog.info? 72).map (fun i=>(i.zero,i.size,i.bytes))=some (some rz,4,32):=by kernel_rfl
theorem uY(n:Nat)(w:World)(hn:n<=16384):(Instr.makeSlice 98 (.int .u64 n) (.int .u64 n)).run Tryz.prog w=.ok (.slice (some ⟨w.heap.size,0,none⟩) n n) (w.alloc (.cells (lS n) 72)):=by
 obtain⟨i0,hi,hz0,hz1,hz2⟩:=info_parts Tryz.inforr;have h:=run_make (P:=Tryz.prog) w 98 72 i0 rz Tryz.underlying98 hi hz0 .u64 .u64 n n (by omega) (by omega) (by rw[hz2];omega) (by omega);rw[hz1]at h;simp only[zC]at h;exact h
theorem wE(n:Nat):(lS n).toList=lR n:=by
 have hz:rz.cells=#[.int .u64 0,.int .u64 0,.int .i64 0,.int .i64 0]:=by rfl
 have key:∀k,(List.range (k*4)).map (fun i=>rz.cells[i%rz.cells.size]!)=lR k:=by {
 intro k;induction k with
 | zero=>rfl
 | succ k ih=>{
 have hr:List.range ((k+1)*4)=List.range 4++(List.range (k*4)).map (4+·):=by rw[show(k+1)*4=4+k*4 by omega,List.range_add]
 rw[hr,List.map_append,List.map_map];unfold lR;congr 1
 rw[<-ih];refine List.map_congr_left fun i _=>?_;show rz.cells[(4+i)%rz.cells.size]! =rz.cells[i%rz.cells.size]!
 rw[show rz.cells.size=4 by rw[hz];rfl,Nat.add_mod_left]}};unfold lS madeCells;rw[Array.toList_map,Array.toList_range];exact key n
theorem aKX(w:World)(n:Nat):Blk (w.alloc (.cells (lS n) 72)) w.heap.size 72 (eG []++lR n):=by
 have k:=Blk.new w (lS n).toList 72;rw[wE]at k;rw[show lS n=(lR n).toArray by rw[<-wE]];exact k
def iL(b:List Nat):R4:=(aI (b.take 8),aI ((b.drop 8).take 8),bJ (aI (((b.drop 8).drop 8).take 8)),bJ (aI ((((b.drop 8).drop 8).drop 8).take 8)))
theorem dC(n:Nat)(b:List Nat):cR (n+1) b=iL b::cR n (b.drop 32):=by
 unfold iL;simp only[List.drop_drop];rfl
theorem rE:∀(n:Nat) (b:List Nat),cR (n+1) b=cR n b++[iL (b.drop (32*n))]
  | 0,b=>by rw[dC];rfl
  | n+1,b=>by
    rw[dC,rE n (b.drop 32),List.drop_drop,dC n b,zB,show 32+32*n=32*(n+1) by omega]
theorem iB:∀(n:Nat) (b:List Nat),(cR n b).length=n
  | 0,_=>rfl
  | n+1,b=>by rw[dC,qY,iB n]
theorem rF:∀(n:Nat) (b:List Nat) (k:Nat),32*n<=k->cR n (b.take k)=cR n b
  | 0,_,_,_=>rfl
  | n+1,b,k,h=>by
    rw[dC,dC,List.drop_take,rF n (b.drop 32) (k-32) (by omega)];unfold iL;simp only[List.drop_take,List.take_take];rw[show min 8 k=8 by omega,show min 8 (k-8)=8 by omega,show min 8 (k-8-8)=8 by omega,show min 8 (k-8-8-8)=8 by omega]
theorem aKY{b:List Nat}(h:Byt b):(iL b).1<18446744073709551616/\(iL b).2.1<18446744073709551616/\(-9223372036854775808<=(iL b).2.2.1/\(iL b).2.2.1<=9223372036854775807)/\ -9223372036854775808<=(iL b).2.2.2/\(iL b).2.2.2<=9223372036854775807:=by
 have h8:∀c:List Nat,Byt c->aI (c.take 8)<18446744073709551616:=fun c hc=>by
   have h1:=gB (hc.take 8);have h2:256 ^ (c.take 8).length<=256 ^ 8:=Nat.pow_le_pow_right (by decide) (by rw[List.length_take];omega);exact Nat.lt_of_lt_of_le h1 h2
 exact⟨h8 _ h,h8 _ (h.drop 8),gQ _ (h8 _ ((h.drop 8).drop 8)),gQ _ (h8 _ (((h.drop 8).drop 8).drop 8))⟩
theorem uA:∀(n:Nat) {b:List Nat},Byt b->∀r∈cR n b,R4.fit r
  | 0,_,_,_,h=>by cases h
  | n+1,b,hb,r,h=>by
    rw[dC]at h;rcases qB.1 h with rfl|h
    · exact aKY hb
    · exact uA n (hb.drop 32) r h
def resR(R:Option Ob):Int×Option Ob:=match R with|none=>(2,none)|some o=>(0,some o)
theorem aBD{l B R:List Nat}{m:Nat}(h65:l.length=m+4)(hm:61<=m)(h5:l.take 5=fC)(hB:B=l.take m)(hR:R=B.drop 37):
    cX l=if aI (l.drop m)≠crc B then((17:Int),(none:Option Ob)) else
      if aI ((R.drop 8).take 8)<aI (((R.drop 8).drop 8).take 8)∨(m-61)%32≠0∨(m-61)/32≠aI ((R.drop 8).take 8)-aI (((R.drop 8).drop 8).take 8) then(15,none) else
        resR (iD (bJ (aI (sub (B.drop 5) 0 8))) (bJ (aI (sub (B.drop 5) 8 8))) (bJ (aI (sub (B.drop 5) 16 8))) (bJ (aI (sub (B.drop 5) 24 8))) (bJ (aI (R.take 8))) (aI (((R.drop 8).drop 8).take 8)) (cR (aI ((R.drop 8).take 8)-aI (((R.drop 8).drop 8).take 8)) (((R.drop 8).drop 8).drop 8))):=by
 have q:∀i,i+8<=m->(B.drop i).take 8=sub l i 8:=fun i hi=>by
   rw[hB];exact aBB hi
 have c:∀i,i+13<=m->sub (B.drop 5) i 8=sub l (5+i) 8:=fun i hi=>by rw[aKU,hB];exact aBB (by omega)
 have e0:R.take 8=sub l 37 8:=by rw[hR];exact q 37 (by omega)
 have e1:(R.drop 8).take 8=sub l 45 8:=by rw[hR,List.drop_drop];exact q 45 (by omega)
 have e2:((R.drop 8).drop 8).take 8=sub l 53 8:=by rw[hR,List.drop_drop,List.drop_drop];exact q 53 (by omega)
 have e3:((R.drop 8).drop 8).drop 8=(l.drop 61).take (m-61):=by rw[hR,List.drop_drop,List.drop_drop,List.drop_drop,hB,List.drop_take]
 rw[e0,e1,e2,e3,c 0 (by omega),c 8 (by omega),c 16 (by omega),c 24 (by omega)];unfold cX;rw[qC (by rw[h5,h65];simp;omega),show l.length-4=m by omega,<-hB];by_cases hs:aI (l.drop m)≠crc B
 · rw[qD hs,qD hs]
 {
 rw[qC hs,qC hs];simp only;rw[show l.length-65=m-61 by omega];by_cases hk:aI (sub l 45 8)<aI (sub l 53 8)∨(m-61)%32≠0∨(m-61)/32≠aI (sub l 45 8)-aI (sub l 53 8)
 · rw[qD hk,qD hk]
 {
 rw[qC hk,qC hk,rF _ _ _ (by omega)];unfold resR;rfl}}
theorem aBE{l:List Nat}(h:l.length<65):cX l=(15,none):=by unfold cX;rw[qD (.inl h)]
theorem aBF{l:List Nat}(h:l.take 5≠fC):cX l=(15,none):=by unfold cX;rw[qD (.inr h)]
theorem aBG{m E V D now:Int}{a g:Nat}{l:List R4}(ha:a<18446744073709551616)(hg:g<18446744073709551616)(hag:a≠g+l.length):
    cX (jJ (aO m E V D now a g l))=(15,none):=by
 obtain⟨b,hb⟩:∃b,b=jJ (aO m E V D now a g l):=⟨_,rfl⟩;have hlen:b.length=65+32*l.length:=by rw[hb,tY,dW];omega
 have l8:∀y,(beN 8 y).length=8:=aH 8;have e:b=fC++(beN 8 (aD m)++(beN 8 (aD E)++(beN 8 (aD V)++(beN 8 (aD D)++(beN 8 (aD now)++(beN 8 a++(beN 8 g++(aY l++beN 4 (crc (aO m E V D now a g l)))))))))):=by {
 rw[hb];unfold jJ;(conv=>lhs;lhs;unfold aO gZ gY);simp only[List.append_assoc]};have h5:b.take 5=fC:=by rw[e];exact List.take_left' rfl
 have q5:sub b 45 8=beN 8 a:=by rw[e,<-List.append_assoc,<-List.append_assoc,<-List.append_assoc,<-List.append_assoc,<-List.append_assoc];exact cK (by simp only[zE,l8];rfl) (l8 _)
 have q6:sub b 53 8=beN 8 g:=by rw[e,<-List.append_assoc,<-List.append_assoc,<-List.append_assoc,<-List.append_assoc,<-List.append_assoc,<-List.append_assoc];exact cK (by simp only[zE,l8];rfl) (l8 _)
 have q8:b.take (b.length-4)=aO m E V D now a g l:=by rw[hlen,hb];exact List.take_left' (by rw[dW];omega)
 have q9:b.drop (b.length-4)=beN 4 (crc (aO m E V D now a g l)):=by rw[hlen,hb];exact List.drop_left' (by rw[dW];omega)
 have hc:aI (beN 4 (crc (aO m E V D now a g l)))=crc (aO m E V D now a g l):=by rw[wL];exact Nat.mod_eq_of_lt (oY (gT _ _ _ _ _ _ _ _))
 rw[<-hb];unfold cX;rw[qC (by rw[h5,hlen];simp),qC (by rw[q8,q9,hc];simp)];simp only;rw[q5,q6,jK ha,jK hg,hlen,qD (by omega)]
theorem aHC{b:List Nat}(h:b.take 5≠fC):cX b=(15,none):=by
 unfold cX;rw[qD (.inr h)]
theorem aBH:∀(l:List R4) (o:Ob) (last:Int) (r:R4),r∈l->(∀(p:Ob) (last:Int),p.m=o.m->p.now=o.now->p.resOk last r=false)->o.resL last l=none
  | [],_,_,_,h,_=>by cases h
  | s::l,o,last,r,h,hb=>by
    unfold Ob.resL;by_cases hs:o.resOk last s=true
    · rw [qD hs]
      rcases qB.1 h with rfl|h
      · rw[hb o last rfl rfl]at hs;cases hs
      · exact aBH l (o.putT s.1 s.2.1 s.2.2.1 s.2.2.2) s.2.2.2 r h hb
    · rw[qC hs]
theorem aKZ{m E V D now:Int}{g:Nat}{l:List R4}{r:R4}(hr:r∈l)(h:r.1=r.2.1∨iK m now r.2.2.2=false):iD m E V D now g l=none:=by
 unfold iD;split
 {
 refine aBH l _ 0 r hr fun p last h1 h2=>?_;unfold Ob.resOk;rw[h1,h2];rcases h with h|h
 · rw[show p.chkO r.1 r.2.1=9 by unfold Ob.chkO;rw[qD h]];simp
 · rw[show iK (Ob.at m E.toNat V.toNat D now g).m (Ob.at m E.toNat V.toNat D now g).now r.2.2.2=false from h];simp}
 · rfl
theorem kI{m E V D now:Int}{g:Nat}{l:List R4}(h:9223372036854775807<g+l.length∨lO m E V D=false∨E<l.length∨now<0):iD m E V D now g l=none:=by
 unfold iD;rw[qC];rintro⟨h1,h2,h3,h4,h5⟩;rcases h with h|h|h|h
 · omega
 · rw[h]at h2;cases h2
 · omega
 · unfold dI at h5;rw[qD h]at h5;cases h5
def Ob.later(o:Ob)(k:Nat):Ob:={ o with L:=o.L.map (fun e=>{ e with seq:=e.seq+k }),last:=o.last+k,gone:=o.gone+k }
theorem aLA(L:List Lv)(k:Nat):kH (L.map (fun e=>{ e with seq:=e.seq+k }))=kH L:=by
 unfold kH;rw[List.foldl_map]
theorem Ob.later_ok{o:Ob}(h:o.Ok){k:Nat}(hk:o.last+k<=9223372036854775807):(o.later k).Ok:=by
 have hlen:(o.later k).L.length=o.L.length:=List.length_map _;refine⟨fun e he=>?_,?_,fun i hi=>?_,?_,hk,h.m1,h.m2,h.n0,h.n1,fun e he=>?_,fun e he=>?_,by rw[hlen];exact h.leE,?_,h.mE,h.mV,fun e he=>?_⟩
 · obtain⟨d,hd,rfl⟩:=qV.1 he;exact h.x d hd
 · exact List.pairwise_map.2 h.mono
 {
 have hi' :i<o.L.length:=by rw[<-hlen];exact hi
 have e:(o.later k).L[i]={ (o.L[i]'hi') with seq:=(o.L[i]'hi').seq+k }:=List.getElem_map ..;rw[e];have:=h.num i hi';show(o.L[i]).seq+k=o.gone+k+i+1
 omega}
 · rw[hlen];have:=h.last;show o.last+k=o.gone+k+_;omega
 · obtain⟨d,hd,rfl⟩:=qV.1 he;exact h.ne d hd
 · obtain⟨d,hd,rfl⟩:=qV.1 he;exact h.u64 d hd
 {
 show(kH (o.L.map _)).length<=o.V
 rw[aLA];exact h.leV}
 · obtain⟨d,hd,rfl⟩:=qV.1 he;exact h.sl d hd
theorem aDF{o:Ob}(h:o.Ok)(hc:lO o.m o.E o.V o.D=true){k:Nat}(hk:o.last+k<=9223372036854775807):iD o.m o.E o.V o.D o.now (o.gone+k) (o.L.map lvR)=some (o.later k):=by
 have e:=aHB (Ob.later_ok h hk) hc;have hm:(o.later k).L.map kL=o.L.map lvR:=by {
 show(o.L.map _).map kL=_
 rw[List.map_map];rfl};rw[hm]at e;exact e
end Go.Proofs.YtjdgpcjbgjnahaaGreatDoor
