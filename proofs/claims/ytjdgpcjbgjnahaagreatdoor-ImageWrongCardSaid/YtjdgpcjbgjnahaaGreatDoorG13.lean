/- The image of a window, and what an image is loaded as; the plain law. -/
import Derived.Test.YtjdgpcjbgjnahaaGreatDoorG12
import Derived.Test.YtjdgpcjbgjnahaaGreatDoorG4
import Derived.Test.YtjdgpcjbgjnahaaGreatDoorG11
import Derived.Test.YtjdgpcjbgjnahaaGreatDoorG10
import Derived.Test.YtjdgpcjbgjnahaaGreatDoorG1
import Derived.Test.YtjdgpcjbgjnahaaGreatDoorG8
import Derived.Deep.RegionHeld3
import Derived.Shelf.SlGeneric
import Derived.Ground.SlgnProg
import Derived.Shelf.SlicesE.Clone
import Derived.Ground.SlmcProg
import Derived.Shelf.SlMaps.Clone
import Derived.StillTailTactics
set_option maxRecDepth 10000
set_option maxHeartbeats 1600000
set_option linter.unusedSimpArgs false
set_option linter.unusedVariables false
/- A window: is there room. -/
namespace Go.Proofs.YtjdgpcjbgjnahaaGreatDoor
open Go.RowKit
theorem fG.uniq{to:Int}{Q Q1:Nat->Option Int}{ds:List Nat}(h:fG to Q ds Q1):∀{es:List Nat} {Q2:Nat->Option Int},fG to Q es Q2->ds=es/\Q1=Q2:=by
 induction h with
 | done Q h=>{
 intro es Q2 k;cases k with
 | done _ _=>exact⟨rfl,rfl⟩
 | more _ i x ds _ hq hx _ _=>have:=h i x hq;omega}
 | more Q i x ds Q' hq hx hm h ih=>{
 intro es Q2 k;cases k with
 | done _ h2=>have:=h2 i x hq;omega
 | more _ j y ds2 _ hq2 hx2 hm2 k2=>{
 have h1:=hm j y hq2;have h2:=hm2 i x hq;have e:i=j:=by omega
 subst e;obtain⟨e1,e2⟩:=ih k2;exact⟨by rw[e1],e2⟩}}
def RI(w:World)(pr:Nat)(v:Value)(ds:List Nat)(to:Int)(SE:Sm)(k:Nat)(wr:World):Prop:=
  ∃s1 Q1 Q' G1 Kr,bH wr pr s1 Kr/\dK wr v ds/\(∀q,v.ownBlock=some q->q∉Kr)/\Fr [] w wr/\(∀q∈Kr,w.heap.size<=q)/\Lk s1 Q1 G1/\s1.Ok/\fG to Q1 (ds.drop k) Q' /\ s1.rems (ds.drop k)=SE
section
variable {w w' :World} {pw pc ps px pf:Nat} {P:Wp} {Ks lx Lf K:List Nat} {cl:Nat->Nat}
theorem aOG(h:dR w pw pc ps px pf P Ks lx Lf cl)(hl:Lk P.s P.Q P.G)(hok:P.s.Ok)(u v:Nat)(hu:u<18446744073709551616)(hv:v<18446744073709551616)(wt t:Int):
    Calls Tryz.prog 112 #[eQ pw,pI u v wt t] w fun e w' =>∃c:Nat,e=.returned (.int .i64 c)/\Fr [] w w' /\ ((P.s.chk u v=0/\c=0)∨∃ds Q', P.s.chk u v≠0/\fG t P.Q ds Q' /\ c=(P.s.rems ds).chk u v):=by
 have hf0:Fr [] w (w.alloc (.cells #[.int .u64 u,.int .u64 v,.int .i64 wt,.int .i64 t] 72)):=(Fr.refl _ _).alloc _;have hbx:=Blk.new w [.int .u64 u,.int .u64 v,.int .i64 wt,.int .i64 t] 72;have hB:=h.fr0 hf0;obtain⟨w1,hw1⟩:∃w1,w1=w.alloc (.cells #[.int .u64 u,.int .u64 v,.int .i64 wt,.int .i64 t] 72):=⟨_,rfl⟩;rw[show w.alloc (.cells [.int .u64 u,.int .u64 v,.int .i64 wt,.int .i64 t].toArray 72)=w.alloc (.cells #[.int .u64 u,.int .u64 v,.int .i64 wt,.int .i64 t] 72) from rfl,<-hw1]at hbx;rw[<-hw1]at hf0 hB;have hsx:w.heap.size<w1.heap.size:=by rw[hw1];simp
 have HCk:=qA (fun(nq:Nat)=>oB (hB.st.fr0 ((Fr.refl [] w1).drewN nq)) u v hu hv wt t);have c5:=hB.hd.cell 5;have r0:=hbx.cell 0;have r1:=hbx.cell 1;have r2:=hbx.cell 2;have r3:=hbx.cell 3;simp only[zI,zJ]at c5 r0 r1 r2 r3;have HB:=qA (zH hB (zH hf0 hbx));have HL:=qA (zH hl hok);clear hB hf0 hbx hl hok h;go_enter Tryz.func112,Tryz.ntmps112
 obtain⟨xb,hxb⟩:∃xb,xb=w.heap.size:=⟨_,rfl⟩;have c5' :=c5;have r0' :=r0;have r1' :=r1;have r2' :=r2;have r3' :=r3;rw[hw1]at c5' r0' r1' r2' r3';go_wp2_with fail
 rw[<-hw1,<-hxb];rw[<-hxb]at HB r0 r1 r2 r3 hsx;clear c5' r0' r1' r2' r3' hw1;have HXB:=qA hxb;clear hxb;refine bF 5 (fun w' =>Fr [] w1 w') (by kernel_rfl) (by kernel_rfl) (by kernel_rfl) ?_;iterate 5 (refine bO (by decide) (fun K hK=>?_);go_simp;refine hK _ ?_;clear hK K)
 refine aW rfl (.int .i64 (P.s.chk u v)) (fun w' hw' =>?_) ?_
 {
 obtain⟨nq,rfl⟩:=hw';go_simp;refine(HCk.out nq).mono ?_;rintro _ w1 ⟨rfl,hf⟩;exact⟨rfl,((Fr.refl [] _).drewN nq).trans' hf⟩};iterate 1 (refine eA (by decide) (fun K hK=>?_);go_simp;refine hK _ ?_;clear hK K)
 refine bP ?_;rintro W2 hF2;have hB2:=HB.out.1.fr0 hF2;have hb2:=hF2.blk HB.out.2.2 (by simp);clear c5 r0 r1 r2 r3;have c5:=hB2.hd.cell 5;have c6:=hB2.hd.cell 6;have r0:=hb2.cell 0;have r1:=hb2.cell 1;have r2:=hb2.cell 2;have r3:=hb2.cell 3;simp only[zI,zJ]at c5 c6 r0 r1 r2 r3;have hF20:=HB.out.2.1.trans' hF2;have hsx2:xb<W2.heap.size:=by have:=hF2.size;omega
 have HN:=qA (aNU hB2.sch);have H2:=qA (zH hB2 (zH hb2 hF20));clear hB2 hb2 hF20 hF2 HB HCk;by_cases hc:P.s.chk u v=0
 {
 have HC:=qA hc;rw[hc];clear hc;go_wp2
 go_ret;exact⟨0,rfl,H2.out.2.2,.inl ⟨HC.out,rfl⟩⟩}
 {
 have HC:=qA hc;obtain⟨cc,hcc⟩:∃cc,cc=P.s.chk u v:=⟨_,rfl⟩;rw[<-hcc]at hc ⊢;have d1:((cc:Int) == 0)=false:=by simp;omega
 have HCC:=qA hcc;clear hcc hc;go_wp2_with fail
 refine HN.out.mono ?_;rintro r W3 ⟨hF3,hr⟩;have hB3:=H2.out.1.fr0 hF3;have hb3:=hF3.blk H2.out.2.1 (by simp);clear c5 c6 r0 r1 r2 r3;have c5:=hB3.hd.cell 5;have c6:=hB3.hd.cell 6;have r0:=hb3.cell 0;have r1:=hb3.cell 1;have r2:=hb3.cell 2;have r3:=hb3.cell 3;simp only[zI,zJ]at c5 c6 r0 r1 r2 r3;have hF30:=H2.out.2.2.trans' hF3;have hsx3:xb<W3.heap.size:=by have:=hF3.size;omega
 have H3:=qA (zH hB3 (zH hb3 hF30));clear hB3 hb3 hF30 hF3 H2 HN hsx2 hsx;have nodue:∀W,Fr [] w W->(∀j y,P.Q j=some y->t<y)->∃c:Nat,Ending.returned (.int .i64 (cc:Nat))=.returned (.int .i64 c)/\Fr [] w W/\((P.s.chk u v=0/\c=0)∨∃ds Q', P.s.chk u v≠0/\fG t P.Q ds Q' /\ c=(P.s.rems ds).chk u v):=fun W hf hq=>
   ⟨cc,rfl,hf,.inr ⟨[],P.Q,HC.out,.done _ hq,HCC.out⟩⟩
 have HND:=qA nodue;clear nodue;rcases hr with⟨hn,rfl⟩|⟨hn,i,k,hq,hm,rfl⟩
 {
 have Hn:=qA hn;clear hn;go_wp2
 go_ret;refine HND.out _ (H3.out.2.2.trans' ((Fr.refl _ _).alloc _)) (fun j y hy=>?_);obtain⟨ph', lh', _,⟨e,pl,v,gp,cp,bs,_,_,_,hQ,_⟩,_,_⟩:=H3.out.1.sch;obtain⟨p,hp,_⟩:=(hQ j y).1 hy;have:=Hn.out;omega}
 {
 have Hq:=qA (zH hn (zH hq hm));clear hn hq hm;by_cases hk:t<k
 {
 have d2:decide (k>t)=true:=qG hk;have Hk:=qA hk;clear hk;have hxe:xb≠W3.heap.size:=by omega
 have r3' :(W3.alloc (.cells #[.int .i64 (i:Nat),.int .i64 k] 223)).cell? ⟨xb,3,none⟩=some (.int .i64 t):=((Fr.refl [] W3).alloc _).cell r3 (by simp);go_wp2
 go_ret;refine HND.out _ (H3.out.2.2.trans' ((Fr.refl _ _).alloc _)) (fun j y hy=>?_);have h1:=Hq.out.2.2 j y hy;have h2:=Hk.out;unfold elt at h1;simp only at h1;omega}
 {
 have d2:decide (k>t)=false:=qF hk;clear hk HND Hq;have hF4:Fr [] W3 (W3.alloc (.cells #[.int .i64 (i:Nat),.int .i64 k] 223)):=(Fr.refl [] W3).alloc _;have hB4:=H3.out.1.fr0 hF4;have hb4:=hF4.blk H3.out.2.1 (by simp);have c5' :=hB4.hd.cell 5;have r3' :=hb4.cell 3;simp only[zI,zJ]at c5' r3';have hF40:=H3.out.2.2.trans' hF4;have hsx4:xb<(W3.alloc (.cells #[.int .i64 (i:Nat),.int .i64 k] 223)).heap.size:=by simp;omega
 have HCo:=qA (aOF hB4.st);have H4:=qA (zH hB4 (zH hb4 hF40));clear hB4 hb4 hF40 hF4;go_wp2_with fail
 clear c5 c6 r0 r1 r2 r3 c5' r3' H3;generalize (W3.alloc (.cells #[.int .i64 (i:Nat),.int .i64 k] 223))=W4 at *;refine HCo.out.mono ?_;rintro _ W5 ⟨pr,rfl,Kr,hS5,hF5,hN5⟩;have hB5:=H4.out.1.fr0 hF5;have hb5:=hF5.blk H4.out.2.1 (by simp);have HC5:=qA (show ∀w', Fr [] W5 w' -> w'.cell? ⟨pw,6,none⟩=some (aS px)/\w'.cell? ⟨xb,3,none⟩=some (.int .i64 t) from fun w' hf=>⟨(hf.blk hB5.hd (by simp)).cell 6,(hf.blk hb5 (by simp)).cell 3⟩);have HCp:=qA (fun(w' :World) (hf:Fr [] W5 w')=>aOB (hB5.sch.fr0 hf));have H5:=qA (zH hS5 (zH hF5 hN5));clear hB5 hb5 hS5 hF5 hN5 HCo;go_wp2_with fail
 go_region_held3 (fun w' => w'.cell? ⟨pw, 6, none⟩ = some (aS px) /\ w'.cell? ⟨xb, 3, none⟩ = some (.int .i64 t))
   (first
     | with_reducible exact HC5.out _ HF7.out
     | with_reducible exact HC5.out _ HF6.out
     | with_reducible exact HC5.out _ (Fr.refl [] W5).drew)
   (first
     | (go_at_call 77;with_reducible refine Calls.mono (HCp.out _ ((Fr.refl [] W5).drew)) ?_;rintro r w6 ⟨px2,rfl,l6,hS6,hF6,hN6⟩;have HF6:=qA (Fr.trans' (Fr.refl [] W5).drew hF6))
     | (go_at_call 107;with_reducible refine Calls.mono (aPH hS6 t) ?_;rintro r w7 ⟨v7,ds,Q', n', l7,rfl,hm,hS7,hR7,hF7,hN7,hV7⟩;obtain⟨av,cv,rfl⟩:=hR7.slice;have HF7:=qA (HF6.out.trans hF7 (fun b hb=>.inr (by simpa using hN6 b hb)))))
 rename_i hHH;clear hHH;have hT:RI W4 pr (.slice av ds.length cv) ds t (P.s.rems ds) 0 w7:=by {
 obtain⟨hS5,hF5,hN5⟩:=H5.out;have hs6:=HF6.out.size;refine⟨P.s,P.Q,Q', P.G,Kr,hS5.fr0 HF7.out,hR7,fun q hq hm=>?_,hF5.trans' HF7.out,hN5,HL.out.1,HL.out.2,by simpa using hm,by simp⟩;have:=(hV7 q hq).1;have:=hS5.lt q hm;omega};have hdn:(ds.length:Int)<=9223372036854775807:=by {
 obtain⟨_,_,_,k4⟩:=hm.law HL.out.1 HL.out.2;have h1:=Sm.len_used HL.out.2;have h2:=HL.out.2.leE;have h3:=HL.out.2.ar.hs;have h4:=HL.out.2.ar.hb;have h5:P.s.A.used<=P.s.A.begun:=Nat.sub_le _ _;omega};have HT:=qA hT;have Hm:=qA hm;clear hT hS7 hR7 hF7 hN7 hV7 hS6 hF6 hN6 HF6 HF7 HC5 HCp H5 hm;obtain⟨SE,hSE⟩:∃SE,SE=P.s.rems ds:=⟨_,rfl⟩;rw[<-hSE]at HT;have HSE:=qA hSE;clear hSE;go_wp2_with fail
 go_loopw [51] (fun x wr=>∃k:Nat,k<=ds.length/\x=.int .i64 k/\Hid (RI W4 pr (.slice av ds.length cv) ds t SE k wr)) (fun x _=>ds.length-(intOf x).toNat)
 case atStart=>exact⟨0,qR _,rfl,HT⟩
 case round=>
  obtain⟨k,hk,rfl,HI⟩:=hrel;clear HT;by_cases hkl:k<ds.length
  {
  have hki:(k:Int)<ds.length:=by omega
  obtain⟨s1,Q1,Q2,G1,Kr1,hst,hrow,hvq,hF,hnw,hlk,hsok,hmin,hSE⟩:=HI.out;obtain⟨i,hi⟩:∃i,i=ds[k]:=⟨_,rfl⟩;rw[aEU hkl,<-hi]at hmin hSE;obtain⟨bv,cv', ev,_,hat⟩:=hrow.at hkl;rw[<-hi]at hat;simp only[qO,true_and]at ev;obtain⟨rfl,rfl⟩:=ev;cases hmin with
  | more _ _ x _ _ hq hx hmn hrest=>
  have HR:=qA (tT hst i (oD hlk hsok hq));have HX:=qA (zH hst (zH hrow (zH hvq (zH hF (zH hnw (zH hlk (zH hsok (zH hrest (zH hSE hq)))))))));clear hst hrow hvq hF hnw hlk hsok hrest hSE hq hmn hi;go_wp2_with fail
  refine HR.out.mono ?_;rintro _ w8 ⟨rfl,Kr2,hs8,hF8,hn8⟩;have H8:=qA (zH hs8 (zH hF8 hn8));clear hs8 hF8 hn8 HR;go_wp2_with fail
  go_roundw
  case rel=>
   refine⟨k+1,by omega,by go_num,qA ?_⟩;obtain⟨hst,hrow,hvq,hF,hnw,hlk,hsok,hrest,hSE,hq⟩:=HX.out;obtain⟨hs8,hF8,hn8⟩:=H8.out;have hsz:=hF.size;refine⟨s1.rem i,_,Q2,_,Kr2,hs8,hrow.fr hF8 (fun q hq hm=>hvq q hq hm),fun q hq hm=>?_,hF.trans hF8 (fun b hb=>.inr (hnw b hb)),fun q hm=>?_,hlk.drop hsok i,Sm.ok_rem hsok (oD hlk hsok hq),hrest,hSE⟩
   {
   rcases hn8 q hm with h|h
   · exact hvq q hq h
   · have:=hrow.lt hq;omega}
   {
   rcases hn8 q hm with h|h
   · exact hnw q h
   · omega}
  case measure=>simp[intOf];omega}
  {
  obtain rfl:k=ds.length:=by omega
  obtain⟨s1,Q1,Q2,G1,Kr1,hst,hrow,hvq,hF,hnw,hlk,hsok,hmin,hSE⟩:=HI.out;rw[List.drop_eq_nil_of_le (qJ _)]at hSE;have e1:s1=SE:=hSE;rw[e1]at hst;have hb9:=hF.blk H4.out.2.1 (by simp);have r0:=hb9.cell 0;have r1:=hb9.cell 1;have r2:=hb9.cell 2;have r3:=hb9.cell 3;simp only[zI,zJ]at r0 r1 r2 r3;have HCk:=qA (oB hst u v hu hv wt t);have HF:=qA hF;clear hst hrow hvq hF hnw hlk hsok hmin hSE e1 hb9;go_wp2_with fail
  refine HCk.out.mono ?_;rintro _ w9 ⟨rfl,hF9⟩;have HF9:=qA (HF.out.trans' hF9);clear hF9 HF HCk r0 r1 r2 r3;go_wp2_with fail
  go_ret;exact⟨_,rfl,H4.out.2.2.trans' HF9.out,.inr ⟨ds,Q', HC.out,Hm.out,by rw[HSE.out]⟩⟩}}}}
end
section
variable {w w' :World} {pw:Nat} {W:Wm} {K:List Nat}
theorem aEV(W:Wm)(to:Int)(ds:List Nat)(Q' :Nat->Option Int)(n n' :Nat):({ (W.wp n) with now:=to,s:=(W.wp n).s.rems ds,Q:=Q', nq:=n', G:=fun j=>if j∈ds then none else(W.wp n).G j,gone:=(W.wp n).gone+ds.length }:Wp)=(W.tick to ds Q').wp n' :=by
 simp[Wm.wp,Wm.tick,(iY W.s ds).2.2]
theorem Wm.Ok.sum(h:W.Ok):W.gone+W.s.L.length<=9223372036854775807:=by have:=h.last;have:=h.max;omega
def aKG(w w' :World)(pw:Nat)(W' :Wm)(K:List Nat):Prop:=∃K', eP w' pw W' K' /\ Fr K w w' /\ ∀q∈K', q∈K∨w.heap.size<=q
theorem aKH(h:eP w pw W K)(to:Int)(h1:-9223372036854775808<=to)(h2:to<=9223372036854775807)(hc:dI W.m W.now to=0):
    Calls Tryz.prog 67 #[eQ pw,.int .i64 to] w fun e w' =>e=.returned (.int .i64 0)/\∃ds Q', fG to W.Q ds Q' /\ aKG w w' pw (W.tick to ds Q') K:=by
 obtain⟨hok,pc,ps,px,pf,nq,Ks,lx,Lf,cl,hB,rfl⟩:=h;refine(vZ hB hok.lk hok.ok to h1 h2 hc hok.sum).mono ?_;rintro _ w' ⟨rfl,ds,Q', n', Ks', lx', Lf', cl', hm,hB', hF,hn⟩;obtain⟨k1,k2⟩:=mG hc;rw[aEV]at hB';exact⟨rfl,ds,Q', hm,_,⟨(Wm.tick_ok hok k1 k2 hm).1,pc,ps,px,pf,n', Ks', lx', Lf', cl', hB', rfl⟩,hF,hn⟩
theorem aAT(h:eP w pw W K)(to:Int)(h1:-9223372036854775808<=to)(h2:to<=9223372036854775807)(hc:dI W.m W.now to≠0):
    Calls Tryz.prog 67 #[eQ pw,.int .i64 to] w fun e w' =>e=.returned (.int .i64 (dI W.m W.now to))/\w' =w:=by
 obtain⟨hok,pc,ps,px,pf,nq,Ks,lx,Lf,cl,hB,rfl⟩:=h;exact aKF hB to h1 h2 hc
theorem aRB(W:Wm)(u v:Nat)(wt:Int)(a b n:Nat):({ (W.wp n) with s:=(W.wp n).s.ins u v wt W.now (W.now+(W.wp n).m),Q:=fun j=>if j=(W.wp n).s.slot then some (W.now+(W.wp n).m) else(W.wp n).Q j,nq:=(W.wp n).nq+1,G:=fun j=>if j=(W.wp n).s.slot then some (a,b,W.now+(W.wp n).m) else(W.wp n).G j,added:=(W.wp n).added+1 }:Wp)=(W.put u v wt a b).wp (n+1):=by
 simp[Wm.wp,Wm.put,Sm.ins];exact⟨rfl,rfl⟩
def aTE(w w' :World)(pw:Nat)(W:Wm)(K:List Nat)(u v:Nat)(wt t:Int)(c:Nat):Prop:=
  ∃ds Q', fG t W.Q ds Q' /\ ((c≠0/\W.s.chk u v≠0/\c=(W.s.rems ds).chk u v/\Fr [] w w') ∨
    (c=0/\(W.s.rems ds).chk u v=0/\∃a b,((W.s.rems ds).ins u v wt t (t+W.m)).M.find u=some a/\((W.s.rems ds).ins u v wt t (t+W.m)).M.find v=some b/\aKG w w' pw ((W.tick t ds Q').put u v wt a b) K))
theorem aOH(h:eP w pw W K)(u v:Nat)(hu:u<18446744073709551616)(hv:v<18446744073709551616)(hne:u≠v)(wt t:Int)(ht1:-9223372036854775808<=t)(ht2:t<=9223372036854775807)(hc:dI W.m W.now t=0)(hl:W.s.last<9223372036854775807):
    Calls Tryz.prog 69 #[eQ pw,pI u v wt t] w fun e w' =>∃c:Nat,e=.returned (.int .i64 c)/\aTE w w' pw W K u v wt t c:=by
 obtain⟨hok,pc,ps,px,pf,nq,Ks,lx,Lf,cl,hB,rfl⟩:=h;obtain⟨hc1,hc2⟩:=mG hc;have hI:=(IS.start hB).box [.int .u64 u,.int .u64 v,.int .i64 wt,.int .i64 t] 72;obtain⟨w1,hw1⟩:∃w1,w1=w.alloc (.cells #[.int .u64 u,.int .u64 v,.int .i64 wt,.int .i64 t] 72):=⟨_,rfl⟩;rw[show w.alloc (.cells [.int .u64 u,.int .u64 v,.int .i64 wt,.int .i64 t].toArray 72)=w.alloc (.cells #[.int .u64 u,.int .u64 v,.int .i64 wt,.int .i64 t] 72) from rfl,<-hw1]at hI;have hsx:w.heap.size<w1.heap.size:=by rw[hw1];simp
 have HF01:=qA (show Fr [] w w1 by rw[hw1];exact(Fr.refl _ _).alloc _);obtain⟨cl1,hB1⟩:=hI.1;have hbx:Blk w1 w.heap.size 72 [.int .u64 u,.int .u64 v,.int .i64 wt,.int .i64 t]:=hI.blk (z:=(w.heap.size,72,[.int .u64 u,.int .u64 v,.int .i64 wt,.int .i64 t])) (by simp);have HV:=qA (eS hB1);have HCk:=qA (fun(nq:Nat)=>lL (hB1.clk.fr0 ((Fr.refl [] w1).drewN nq)) t ht1 ht2);rw[show dI (W.wp nq).m (W.wp nq).now t=0 from hc]at HCk;have c4:=hB1.hd.cell 4;have r0:=hbx.cell 0;have r1:=hbx.cell 1;have r3:=hbx.cell 3;simp only[zI,zJ]at c4 r0 r1 r3;have hFs:=hI.2.1.size;have HI:=qA hI;have HH:=qA (zH hok (zH hc1 hc2));have d1:((u:Int) == v)=false:=by simp;omega
 have d2:decide ((W.s.last:Int)≥9223372036854775807)=false:=qF (by omega);have d3:decide (W.s.last≥9223372036854775807)=false:=qF (by omega);clear hB hI hB1 hbx hok hc;go_enter Tryz.func69,Tryz.ntmps69
 obtain⟨xb,hxb⟩:∃xb,xb=w.heap.size:=⟨_,rfl⟩;have HW1:=qA hw1;rw[hw1]at r0 r1 HV;clear hw1;go_wp2_with fail
 refine HV.out.mono ?_;rintro _ _ ⟨rfl,rfl⟩;go_wp2_with fail
 rw[<-HW1.out,<-hxb];rw[<-HW1.out]at r0 r1;rw[<-hxb]at HI r0 r1 r3 hsx;have HXB:=qA hxb;clear hxb HV HW1;refine bF 6 (fun w' =>∃nq,w' =w1.drewN nq) (by kernel_rfl) (by kernel_rfl) (by kernel_rfl) ?_;iterate 6 (refine bO (by decide) (fun K hK=>?_);go_simp;refine hK _ ?_;clear hK K)
 refine aW rfl (.int .i64 0) (fun w' hw' =>?_) ?_
 {
 obtain⟨nq,rfl⟩:=hw';go_simp;refine(HCk.out nq).mono ?_;rintro _ _ ⟨rfl,rfl⟩;exact⟨rfl,nq,rfl⟩};iterate 1 (refine eA (by decide) (fun K hK=>?_);go_simp;refine hK _ ?_;clear hK K)
 refine bP ?_;rintro _ ⟨nq2,rfl⟩;have hI2:=HI.out.fr0 ((Fr.refl [] w1).drewN nq2);have HF02:=qA (HF01.out.drewN nq2);clear c4 r0 r1 r3 HCk HI HF01;generalize w1.drewN nq2=W2 at *;obtain⟨cl2,hB2⟩:=hI2.1;have hbx:Blk W2 xb 72 [.int .u64 u,.int .u64 v,.int .i64 wt,.int .i64 t]:=hI2.blk (z:=(xb,72,[.int .u64 u,.int .u64 v,.int .i64 wt,.int .i64 t])) (by simp);have c8:=hB2.hd.cell 8;have r0:=hbx.cell 0;have r1:=hbx.cell 1;have r2:=hbx.cell 2;have r3:=hbx.cell 3;simp only[zI,zJ]at c8 r0 r1 r2 r3;rw[show(W.wp nq).added=W.s.last from rfl]at c8;have HR:=qA (aOG hB2 HH.out.1.lk HH.out.1.ok u v hu hv wt t);have HI2:=qA hI2;clear hI2 hB2 hbx;go_wp2_with fail
 refine HR.out.mono ?_;rintro _ W3 ⟨c,rfl,hF3,hres⟩;have hI3:=HI2.out.fr0 hF3;have HF03:=qA (HF02.out.trans' hF3);have HRes:=qA hres;clear hF3 hres HR HF02 HI2 c8 r0 r1 r2 r3;by_cases hc:c=0
 {
 subst hc;obtain⟨cl3,hB3⟩:=hI3.1;have hbx:Blk W3 xb 72 [.int .u64 u,.int .u64 v,.int .i64 wt,.int .i64 t]:=hI3.blk (z:=(xb,72,[.int .u64 u,.int .u64 v,.int .i64 wt,.int .i64 t])) (by simp);have r3:=hbx.cell 3;simp only[zI,zJ]at r3;have HT:=qA (vZ hB3 HH.out.1.lk HH.out.1.ok t ht1 ht2 (by unfold dI;rw[qC (by have:=HH.out.2.1;show ¬t<W.now;omega)];unfold lK;exact qD HH.out.2.2) HH.out.1.sum);have HI3:=qA hI3;clear hI3 hB3 hbx;go_wp2_with fail
 refine HT.out.mono ?_;rintro _ W4 ⟨rfl,ds,Q', n', Ks4,lx4,Lf4,cl4,hm,hB4,hF4,hn4⟩;rw[aEV]at hB4;obtain⟨k1,k2,k3⟩:=Wm.tick_ok HH.out.1 HH.out.2.1 HH.out.2.2 hm;have hI4:=HI3.out.step ⟨cl4,hB4⟩ hF4 (fun q hq=>hq) hn4;have hck:(W.s.rems ds).chk u v=0:=by {
 rcases HRes.out with⟨h1,_⟩|⟨es,Q2,_,h2,h3⟩
 {
 refine aIE HH.out.1.ok k1.ok (iY W.s ds).1 (iY W.s ds).2.1 (fun e he=>aKC ds he) ?_ h1;have:=(hm.law HH.out.1.lk HH.out.1.ok).2.2.2;show(W.s.rems ds).L.length<=_
 omega}
 · rw[(hm.uniq h2).1];exact h3.symm};have hbx:Blk W4 xb 72 [.int .u64 u,.int .u64 v,.int .i64 wt,.int .i64 t]:=hI4.blk (z:=(xb,72,[.int .u64 u,.int .u64 v,.int .i64 wt,.int .i64 t])) (by simp);clear r3;have r0:=hbx.cell 0;have r1:=hbx.cell 1;have r2:=hbx.cell 2;have r3:=hbx.cell 3;simp only[zI,zJ]at r0 r1 r2 r3;have hls:(W.tick t ds Q').s.last=W.s.last:=k3;have h0:=HH.out.1.n0;have HN:=qA (pR hB4 k1.lk k1.ok k1.hV k1.hE u v hu hv wt t (by have:=HH.out.2.1;omega) HH.out.2.2 hck (by show(W.tick t ds Q').s.last+1<=_;omega) (by show(W.tick t ds Q').s.last+1<=_;omega));have H4:=qA (zH hm (zH k1 (zH hck (zH hI4 hls))));clear hm hB4 hF4 hn4 k1 k2 k3 hI4 hck hbx HT HI3 hls h0;go_wp2_with fail
 refine HN.out.mono ?_;rintro _ W5 ⟨rfl,a,b,Ks5,lx5,Lf5,ha,hb,hI5⟩;have HX:=qA (zH ha (zH hb hI5));clear ha hb hI5 HN r0 r1 r2 r3;go_wp2
 go_ret;obtain⟨hm,k1,hck,hI4,hls⟩:=H4.out;obtain⟨ha,hb,hI5⟩:=HX.out;obtain⟨⟨cl5,hB5⟩,hF5,hn5,_⟩:=hI5;have hP:=aRB (W.tick t ds Q') u v wt a b n';have hB6:dR W5 pw pc ps px pf (((W.tick t ds Q').put u v wt a b).wp (n' + 1)) Ks5 lx5 Lf5 cl5:=by rw[<-hP];exact hB5
 refine⟨0,rfl,ds,Q', hm,.inr ⟨rfl,hck,a,b,ha,hb,bY pw pc Ks5 lx5 Lf5,⟨Wm.put_ok k1 hu hv wt hck (by omega) ha hb,pc,ps,px,pf,n' + 1,Ks5,lx5,Lf5,cl5,hB6,rfl⟩,?_,?_⟩⟩
 · exact hI4.2.1.trans hF5 hI4.2.2.1
 {
 intro q hq;rcases hn5 q hq with h|h
 · exact hI4.2.2.1 q h
 · exact .inr (zG hI4.2.1.size h)}}
 {
 have d4:((c:Int) != 0)=true:=by simp;omega
 clear hI3;have HC:=qA hc;clear hc;go_wp2
 go_ret;rcases HRes.out with⟨_,h1⟩|⟨ds,Q', h1,h2,h3⟩
 · exact absurd h1 HC.out
 · exact⟨c,rfl,ds,Q', h2,.inl ⟨HC.out,h1,h3,HF03.out⟩⟩}
end
theorem Tryz.infoe39:∃i,Tryz.prog.info? 39=some i:=qU.1 (by kernel_rfl)
@[go_sem] theorem aSG(w:World):(Op.equalIn 10000 125 (.agg #[.int .i64 0,.int .i64 0,.int .i64 0,.int .i64 0]) (.agg #[.int .i64 0,.int .i64 0,.int .i64 0,.int .i64 0])).run Tryz.prog w=.ok true w:=by
 obtain⟨i,hi⟩:=Tryz.infoe39;have u3:=Tryz.underlying39;have a3:=Tryz.isAgg39;have z3:=Tryz.sizeOf39;have hc:Tryz.prog.cellsOf 39=1:=by kernel_rfl
 rw[show(10000:Nat)=9999+1 from rfl,run_equalIn_array w 9999 _ _ Tryz.underlying125 hi,hc];have r2:List.range 4=[0,1,2,3]:=rfl;rw[r2];simp only[Op.eqItems];go_simp
@[go_sem] theorem aRC(x y:Operand)(xs ys:Array Value)(w:World):(eqGuard .neq 125 x y (.agg xs) (.agg ys)).run Tryz.prog w=.ok () w:=run_eqGuard_agg w .neq 125 x y xs ys (by kernel_rfl)
theorem aTF(m D:Int)(E V:Nat)(w:World)(h1:1<=m)(h2:1<=E)(h3:E<=16384)(h4:2<=V)(h5:V<=4096)(h6:0<=D)(h7:D<=16384):
    Calls Tryz.prog 82 #[.agg #[.int .i64 m,.int .i64 E,.int .i64 V,.int .i64 D]] w fun e w' =>e=.returned (.bool true)/\Fr [] w w' :=by
 have d1:decide (m≥1)=true:=qG h1;have d2:decide ((E:Int)≥1)=true:=qG (by omega);have d3:decide ((E:Int)<=16384)=true:=qG (by omega);have d4:decide ((V:Int)≥2)=true:=qG (by omega);have d5:decide ((V:Int)<=4096)=true:=qG (by omega);have d6:decide (D≥0)=true:=qG h6;have d7:decide (D<=16384)=true:=qG h7;go_enter Tryz.func82,Tryz.ntmps82
 go_wp2
 go_ret;exact⟨rfl,(Fr.refl _ _).alloc _⟩
structure NS (w0 w:World) (b be bc:Nat) (l:List Value) (m D:Int) (E V:Nat):Prop where
  hd:Blk w b 38 l
  er:Blk w be 125 [.int .i64 0,.int .i64 0,.int .i64 0,.int .i64 0]
  co:Blk w bc 31 [.int .i64 m,.int .i64 E,.int .i64 V,.int .i64 D]
  fr:Fr [] w0 w
  lb:w0.heap.size<=bc
  le:bc<be
  lw:be<b
theorem NS.go{w0 w w' :World}{b be bc:Nat}{l:List Value}{m D:Int}{E V:Nat}(h:NS w0 w b be bc l m D E V)(hf:Fr [] w w'):NS w0 w' b be bc l m D E V:=
  ⟨hf.blk h.hd (by simp),hf.blk h.er (by simp),hf.blk h.co (by simp),h.fr.trans' hf,h.lb,h.le,h.lw⟩
theorem NS.put{w0 w:World}{b be bc:Nat}{l:List Value}{m D:Int}{E V:Nat}(h:NS w0 w b be bc l m D E V)(i j:Nat)(v:Value)(hj:j<4):
    NS w0 ((w.setCell ⟨b,i,none⟩ v).setCell ⟨be,j,none⟩ (.int .i64 0)) b be bc (l.set i v) m D E V/\Fr [b,be] w ((w.setCell ⟨b,i,none⟩ v).setCell ⟨be,j,none⟩ (.int .i64 0)):=by
 have h1:=h.lb;have h2:=h.le;have h3:=h.lw;have f1:Fr [b] w (w.setCell ⟨b,i,none⟩ v):=(Fr.refl _ _).setCell _ _ (.inl (by simp));have f2:Fr [be] (w.setCell ⟨b,i,none⟩ v) ((w.setCell ⟨b,i,none⟩ v).setCell ⟨be,j,none⟩ (.int .i64 0)):=(Fr.refl _ _).setCell _ _ (.inl (by simp));have he:=(f1.blk h.er (by simp;omega)).set j (.int .i64 0);refine⟨⟨f2.blk (h.hd.set i v) (by simp;omega),?_,f2.blk (f1.blk h.co (by simp;omega)) (by simp;omega),(h.fr.setCell _ _ (.inr (by simp;omega))).setCell _ _ (.inr (by simp;omega)),h1,h2,h3⟩,((Fr.refl _ _).setCell _ _ (.inl (by simp))).setCell _ _ (.inl (by simp))⟩;match j,hj with
 | 0,_=>exact he
 | 1,_=>exact he
 | 2,_=>exact he
 | 3,_=>exact he
theorem NS.mid{w0 w:World}{b be bc:Nat}{l:List Value}{m D:Int}{E V:Nat}(h:NS w0 w b be bc l m D E V)(i:Nat)(v:Value):NS w0 (w.setCell ⟨b,i,none⟩ v) b be bc (l.set i v) m D E V:=by
 have h1:=h.lb;have h2:=h.le;have h3:=h.lw;have f1:Fr [b] w (w.setCell ⟨b,i,none⟩ v):=(Fr.refl _ _).setCell _ _ (.inl (by simp));exact⟨h.hd.set i v,f1.blk h.er (by simp;omega),f1.blk h.co (by simp;omega),h.fr.setCell _ _ (.inr (by simp;omega)),h1,h2,h3⟩
theorem aEW(m D:Int)(E V g:Nat)(w:World)(h1:1<=m)(h1' :m<=9223372036854775807)(h2:1<=E)(h3:E<=16384)(h4:2<=V)(h5:V<=4096)(h6:0<=D)(h7:D<=16384)(hg:g<=9223372036854775807):
    Calls Tryz.prog 46 #[.agg #[.int .i64 m,.int .i64 E,.int .i64 V,.int .i64 D],.int .u64 g] w fun e w' =>∃pw,e=.returned (.tuple #[eQ pw,.int .i64 0])/\∃K,eP w' pw (Wm.new m E V D g) K/\Fr [] w w' /\ ∀q∈K,w.heap.size<=q:=by
 have HC:=qA (aTF m D E V (w.alloc (.cells #[.int .i64 m,.int .i64 E,.int .i64 V,.int .i64 D] 31)) h1 h2 h3 h4 h5 h6 h7);have bc:=Blk.new w [.int .i64 m,.int .i64 E,.int .i64 V,.int .i64 D] 31;have HNC:=qA (fun w' =>aQR m h1 h1' w');have HNS:=qA (fun w' =>aNS V E g w' h5 h3 hg);have HNX:=qA (fun w' =>aQQ E w' (by omega));have HNF:=qA (fun w' =>aQN V E w' h5 h3);have HOK:=qA (Wm.new_ok (m:=m) (E:=E) (V:=V) (D:=D) (gone:=g) h1 h1' h3 h5 hg);go_enter Tryz.func46,Tryz.ntmps46
 go_wp2_with fail
 refine HC.out.mono ?_;rintro _ w1 ⟨rfl,hF1⟩;have hs1:=hF1.size;simp only[World.size_alloc]at hs1;obtain⟨W,hW⟩:∃W,W=(w1.alloc (.cells #[.int .i64 0,.int .i64 0,.int .i64 0,.int .i64 0] 125)).alloc (.cells #[.int .i64 m,.int .i64 E,.int .i64 V,.int .i64 D,.pointer none,.pointer none,.pointer none,.pointer none,.int .u64 g,.int .u64 g] 38):=⟨_,rfl⟩;have hN:NS w W (w1.heap.size+1) w1.heap.size w.heap.size [.int .i64 m,.int .i64 E,.int .i64 V,.int .i64 D,.pointer none,.pointer none,.pointer none,.pointer none,.int .u64 g,.int .u64 g] m D E V:=by {
 have k1:=(Blk.new w1 [.int .i64 0,.int .i64 0,.int .i64 0,.int .i64 0] 125).alloc (.cells #[.int .i64 m,.int .i64 E,.int .i64 V,.int .i64 D,.pointer none,.pointer none,.pointer none,.pointer none,.int .u64 g,.int .u64 g] 38);have k2:=Blk.new (w1.alloc (.cells #[.int .i64 0,.int .i64 0,.int .i64 0,.int .i64 0] 125)) [.int .i64 m,.int .i64 E,.int .i64 V,.int .i64 D,.pointer none,.pointer none,.pointer none,.pointer none,.int .u64 g,.int .u64 g] 38;rw[World.size_alloc]at k2;subst hW;exact⟨k2,k1,((hF1.blk bc (by simp)).alloc _).alloc _,((((Fr.refl _ _).alloc _).trans' hF1).alloc _).alloc _,qJ _,by omega,by omega⟩};have x0:=((hF1.blk bc (by simp)).alloc (.cells #[.int .i64 0,.int .i64 0,.int .i64 0,.int .i64 0] 125)).cell 0;have x1:=((hF1.blk bc (by simp)).alloc (.cells #[.int .i64 0,.int .i64 0,.int .i64 0,.int .i64 0] 125)).cell 1;have x2:=((hF1.blk bc (by simp)).alloc (.cells #[.int .i64 0,.int .i64 0,.int .i64 0,.int .i64 0] 125)).cell 2;have x3:=((hF1.blk bc (by simp)).alloc (.cells #[.int .i64 0,.int .i64 0,.int .i64 0,.int .i64 0] 125)).cell 3;have y0:=hN.co.cell 0;rw[hW]at y0;simp only[zI,zJ]at x0 x1 x2 x3 y0;have HN:=qA hN;clear hN bc hF1 HC;go_wp2_with fail
 clear x0 x1 x2 x3 y0;rw[<-hW];clear hW;generalize hb:w1.heap.size+1=b at *;generalize hbe:w1.heap.size=be at *;generalize hbc:w.heap.size=bc at *;clear hb hbe;refine(HNC.out W).mono ?_;rintro _ W1 ⟨pc,rfl,hc,hF1,hpc⟩;have hN1:=HN.out.go hF1;have hp1:=hN1.put 4 0 (kG pc) (by decide);have b4:=hN1.hd.cell 4;have z4:=hN1.hd.frozen 4;have e0:=(hN1.mid 4 (kG pc)).er.cell 0;have f0:=(hN1.mid 4 (kG pc)).er.frozen 0;have c1:=hp1.1.co.cell 1;have c2:=hp1.1.co.cell 2;simp only[zI,zJ,qT,qX]at b4 e0 c1 c2 hp1;have H1:=qA (zH hc (zH hF1 (zH hpc hp1)));have HNb:=qA (zH HN.out.hd.lt HN.out.lw);clear hc hF1 hpc hN1 hp1 HNC HN;go_wp2_with fail
 clear b4 z4 e0 f0 c1 c2;generalize (W1.setCell ⟨b,4,none⟩ (kG pc)).setCell ⟨be,0,none⟩ (.int .i64 0)=V1 at *;refine(HNS.out V1).mono ?_;rintro _ W2 ⟨ps,rfl,Ks,hc,hF2,hk2⟩;have hN2:=H1.out.2.2.2.1.go hF2;have hp2:=hN2.put 5 1 (iO ps) (by decide);have b4:=hN2.hd.cell 5;have z4:=hN2.hd.frozen 5;have e0:=(hN2.mid 5 (iO ps)).er.cell 1;have f0:=(hN2.mid 5 (iO ps)).er.frozen 1;have c1:=hp2.1.co.cell 1;simp only[zI,zJ,qT,qX]at b4 e0 c1 hp2;have H2:=qA (zH hc (zH hF2 (zH hk2 hp2)));clear hc hF2 hk2 hN2 hp2 HNS;go_wp2_with fail
 clear b4 z4 e0 f0 c1;generalize (W2.setCell ⟨b,5,none⟩ (iO ps)).setCell ⟨be,1,none⟩ (.int .i64 0)=V2 at *;refine(HNX.out V2).mono ?_;rintro _ W3 ⟨px,rfl,lx,hc,hF3,hk3⟩;have hN3:=H2.out.2.2.2.1.go hF3;have hp3:=hN3.put 6 2 (aS px) (by decide);have b4:=hN3.hd.cell 6;have z4:=hN3.hd.frozen 6;have e0:=(hN3.mid 6 (aS px)).er.cell 2;have f0:=(hN3.mid 6 (aS px)).er.frozen 2;have c1:=hp3.1.co.cell 1;have c2:=hp3.1.co.cell 2;simp only[zI,zJ,qT,qX]at b4 e0 c1 c2 hp3;have H3:=qA (zH hc (zH hF3 (zH hk3 hp3)));clear hc hF3 hk3 hN3 hp3 HNX;go_wp2_with fail
 clear b4 z4 e0 f0 c1 c2;generalize (W3.setCell ⟨b,6,none⟩ (aS px)).setCell ⟨be,2,none⟩ (.int .i64 0)=V3 at *;refine(HNF.out V3).mono ?_;rintro _ W4 ⟨pf,rfl,Lf,hc,hF4,hk4⟩;have hN4:=H3.out.2.2.2.1.go hF4;have hp4:=hN4.put 7 3 (eO pf) (by decide);have b4:=hN4.hd.cell 7;have z4:=hN4.hd.frozen 7;have e0:=(hN4.mid 7 (eO pf)).er.cell 3;have f0:=(hN4.mid 7 (eO pf)).er.frozen 3;have g0:=hp4.1.er.cell 0;have g1:=hp4.1.er.cell 1;have g2:=hp4.1.er.cell 2;have g3:=hp4.1.er.cell 3;simp only[zI,zJ,qT,qX]at b4 e0 g0 g1 g2 g3 hp4;have H4:=qA (zH hc (zH hF4 (zH hk4 hp4)));clear hc hF4 hk4 hN4 hp4 HNF;go_wp2_with fail
 clear b4 z4 e0 f0 g0 g1 g2 g3;generalize (W4.setCell ⟨b,7,none⟩ (eO pf)).setCell ⟨be,3,none⟩ (.int .i64 0)=V4 at *;go_ret2;obtain⟨hc1,hF1,hpc,hn1,hG1⟩:=H1.out;obtain⟨hc2,hF2,hk2,hn2,hG2⟩:=H2.out;obtain⟨hc3,hF3,hk3,hn3,hG3⟩:=H3.out;obtain⟨hc4,hF4,hk4,hn4,hG4⟩:=H4.out;have hbW:=HNb.out.1;have hbb:=HNb.out.2;have s1:=hF1.size;have s2:=hF2.size;have s3:=hF3.size;have s4:=hF4.size;have t1:=hG1.size;have t2:=hG2.size;have t3:=hG3.size;have t4:=hG4.size;have e1:=hc1.hd.lt;have hlb:=hn4.lb;have hle:=hn4.le;have a1:∀q,W.heap.size<=q->q∉[b,be]:=fun q hq hm=>by
   simp only[qB,List.not_mem_nil,or_false]at hm;rcases hm with rfl|rfl<;>omega
 have k2:∀q∈Ks,W1.heap.size<=q:=fun q hq=>zG t1 (hk2 q hq);have k3:∀q∈lx,W2.heap.size<=q:=fun q hq=>zG t2 (hk3 q hq);have k4:∀q∈Lf,W3.heap.size<=q:=fun q hq=>zG t3 (hk4 q hq);refine⟨b,rfl,bY b pc Ks lx Lf,⟨HOK.out,pc,ps,px,pf,0,Ks,lx,Lf,fun x=>if x=b then 0 else if x=pc then 1 else if x<W2.heap.size then 2 else if x<W3.heap.size then 3 else 4,⟨hn4.hd,?_,?_,?_,?_,by simp,?_,?_,?_,?_⟩,rfl⟩,hn4.fr,?_⟩
 · exact((((((hc1.fr hG1 (a1 _ (by omega))).fr0 hF2).fr hG2 (a1 _ (by omega))).fr0 hF3).fr hG3 (a1 _ (by omega))).fr0 hF4).fr hG4 (a1 _ (by omega))
 · exact((((hc2.fr hG2 (fun q hq=>a1 q (by have:=k2 q hq;omega))).fr0 hF3).fr hG3 (fun q hq=>a1 q (by have:=k2 q hq;omega))).fr0 hF4).fr hG4 (fun q hq=>a1 q (by have:=k2 q hq;omega))
 · exact((hc3.fr hG3 (fun q hq=>a1 q (by have:=k3 q hq;omega))).fr0 hF4).fr hG4 (fun q hq=>a1 q (by have:=k3 q hq;omega))
 · exact hc4.fr hG4 (fun q hq=>a1 q (by have:=k4 q hq;omega))
 · rw[qC (by omega),qD rfl]
 {
 intro q hq;have:=k2 q hq;have:=hc2.lt q hq;rw[qC (by omega),qC (by omega),qD (by omega)]}
 {
 intro q hq;have:=k3 q hq;have:=hc3.lt q hq;rw[qC (by omega),qC (by omega),qC (by omega),qD (by omega)]}
 {
 intro q hq;have:=k4 q hq;rw[qC (by omega),qC (by omega),qC (by omega),qC (by omega)]}
 {
 intro q hq;simp only[bY,qB,qE]at hq;rcases hq with rfl|rfl|hq|hq|hq
 · omega
 · omega
 · have:=k2 q hq;omega
 · have:=k3 q hq;omega
 · have:=k4 q hq;omega}
theorem aRD(m D:Int)(E V:Nat)(w:World)(h1:1<=m)(h1' :m<=9223372036854775807)(h2:1<=E)(h3:E<=16384)(h4:2<=V)(h5:V<=4096)(h6:0<=D)(h7:D<=16384):
    Calls Tryz.prog 18 #[.agg #[.int .i64 m,.int .i64 E,.int .i64 V,.int .i64 D]] w fun e w' =>∃pw,e=.returned (.tuple #[eQ pw,.int .i64 0])/\∃K,eP w' pw (Wm.new m E V D 0) K/\Fr [] w w' /\ ∀q∈K,w.heap.size<=q:=by
 have HF:=qA (aEW m D E V 0 (w.alloc (.cells #[.int .i64 m,.int .i64 E,.int .i64 V,.int .i64 D] 31)) h1 h1' h2 h3 h4 h5 h6 h7 (by decide));have x0:=(Blk.new w [.int .i64 m,.int .i64 E,.int .i64 V,.int .i64 D] 31).cell 0;have x1:=(Blk.new w [.int .i64 m,.int .i64 E,.int .i64 V,.int .i64 D] 31).cell 1;have x2:=(Blk.new w [.int .i64 m,.int .i64 E,.int .i64 V,.int .i64 D] 31).cell 2;have x3:=(Blk.new w [.int .i64 m,.int .i64 E,.int .i64 V,.int .i64 D] 31).cell 3;simp only[zI,zJ]at x0 x1 x2 x3;go_enter Tryz.func18,Tryz.ntmps18
 go_wp2_with fail
 refine HF.out.mono ?_;rintro _ w1 ⟨pw,rfl,K,h1,h2,h3⟩;have HH:=qA (zH h1 (zH h2 h3));clear h1 h2 h3 x0 x1 x2 x3;go_wp2
 go_ret2;exact⟨pw,rfl,K,HH.out.1,((Fr.refl _ _).alloc _).trans' HH.out.2.1,fun q hq=>by have:=HH.out.2.2 q hq;simp at this;omega⟩
section
variable {w w' :World} {pw:Nat} {W:Wm} {K:List Nat}
theorem aOI(h:eP w pw W K):Calls Tryz.prog 29 #[eQ pw] w fun e w' =>e=.returned (.int .i64 W.now)/\w' =w:=by
 obtain⟨hok,pc,ps,px,pf,nq,Ks,lx,Lf,cl,hB,rfl⟩:=h;exact aQU hB
end
end Go.Proofs.YtjdgpcjbgjnahaaGreatDoor
namespace Go.Proofs.YtjdgpcjbgjnahaaGreatDoor
open Go.RowKit Classical
end Go.Proofs.YtjdgpcjbgjnahaaGreatDoor
namespace Go.Proofs.YtjdgpcjbgjnahaaGreatDoor
open Go.RowKit
section
variable {w0 wr w' :World} {pw:Nat} {W W' :Wm} {K:List Nat}
end
structure Bg (W:Wm) (k:Nat):Prop where
  m:W.m=20
  E:W.E=40
  V:W.V=12
  D:W.D=0
  now:W.now<=3*k
  id:∀e∈W.s.L,e.u<12/\e.v<12
  last:W.s.last<=k
structure Wm.Later (W1 W2:Wm):Prop where
  G:∀i a b x,W2.G i=some (a,b,x)↔W1.G i=some (a,b,x)/\W2.now<x
  find:∀u j,W2.s.M.find u=some j->W1.s.M.find u=some j
end Go.Proofs.YtjdgpcjbgjnahaaGreatDoor
namespace Go.Proofs.YtjdgpcjbgjnahaaGreatDoor
open Go.RowKit Classical
section
variable {S V:Nat} {z:Nat->Int×Int×Int} {P P' :Nat->Prop} {i:Nat}
end
end Go.Proofs.YtjdgpcjbgjnahaaGreatDoor
namespace Go.Proofs.YtjdgpcjbgjnahaaGreatDoor
open Classical
section
variable (use:Nat->Bool) (A B:Nat->Nat)
variable {use A B} {len n:Nat} {f:Nat->Bool}
end
end Go.Proofs.YtjdgpcjbgjnahaaGreatDoor
namespace Go.Proofs.YtjdgpcjbgjnahaaGreatDoor
open Go.RowKit Classical
end Go.Proofs.YtjdgpcjbgjnahaaGreatDoor
namespace Go.Proofs.YtjdgpcjbgjnahaaGreatDoor
open Classical
section
variable {S V:Nat} {z:Nat->Int×Int×Int} {P:Nat->Prop} {D:Nat->Prop} {t m k:Nat}
end
end Go.Proofs.YtjdgpcjbgjnahaaGreatDoor
namespace Go.Proofs.YtjdgpcjbgjnahaaGreatDoor
open Go.RowKit Classical
section
variable {W wr w' :World} {pf S V tb m:Nat} {G G' :cW} {f:Nat->Bool} {L:List Nat}
end
section
variable {S V:Nat} {z:Nat->Int×Int×Int} {P:Nat->Prop} {a b:Nat} {T:Int}
end
section
variable {W w wr:World} {pw:Nat} {X Y:Wm}
end
inductive Rl (L:List Lv) (f:Int):Nat->Nat->Prop
  | refl (u:Nat):Rl L f u u
  | step {a b c:Nat} (e:Lv):Rl L f a b->e∈L->f<=e.x->(e.u=b/\e.v=c∨e.u=c/\e.v=b)->Rl L f a c
section
variable {L L' :List Lv} {f g:Int} {a b c:Nat}
end
def inL(L:List Lv)(u:Nat):Prop:=∃e∈L,e.at u=true
def nR(e:Lv):Lv:={ e with slot:=0 }
theorem aAU{L:List Lv}{u:Nat}:inL (L.map nR) u↔inL L u:=by
 unfold inL;constructor
 {
 rintro⟨e,he,h⟩;obtain⟨d,hd,rfl⟩:=qV.1 he;exact⟨d,hd,h⟩}
 {
 rintro⟨e,he,h⟩;exact⟨nR e,qV.2 ⟨e,he,rfl⟩,h⟩}
section
variable {R R' :Nat->Nat->Prop} {l m:List Nat}
end
section
variable {W:Wm} {f:Int} {a b u v:Nat}
theorem aAV(h:W.Ok)(u:Nat):(W.s.M.find u).isSome=true↔inL W.s.L u:=by
 rw[h.ok.vert];constructor
 {
 intro hn;obtain⟨k,hk⟩:=List.exists_mem_of_ne_nil _ hn;obtain⟨e,he,hat,_⟩:=eM.1 hk;exact⟨e,he,hat⟩}
 {
 rintro⟨e,he,hat⟩;exact List.ne_nil_of_mem (eM.2 ⟨e,he,hat,rfl⟩)}
end
def nS(x:Nat):List Nat->List Nat
  | []=>[x]
  | a::r=>if x=a then a::r else if x<a then x::a::r else a::nS x r
theorem lN{x y:Nat}{l:List Nat}:y∈nS x l↔y=x∨y∈l:=by
 induction l with
 | nil=>simp[nS]
 | cons a r ih=>{
 unfold nS;by_cases h1:x=a
 {
 rw[qD h1,qB];constructor
 · exact fun h=>.inr h
 {
 rintro(rfl|h)
 · exact .inl h1
 · exact h}}
 {
 rw[qC h1];by_cases h2:x<a
 · rw[qD h2,qB]
 {
 rw[qC h2,qB,qB,ih];constructor
 {
 rintro(h|h|h)
 · exact .inr (.inl h)
 · exact .inl h
 · exact .inr (.inr h)}
 {
 rintro(h|h|h)
 · exact .inr (.inl h)
 · exact .inl h
 · exact .inr (.inr h)}}}}
theorem rX{x:Nat}{l:List Nat}(h:l.Pairwise (· < ·)):(nS x l).Pairwise (· < ·):=by
 induction l with
 | nil=>simp[nS]
 | cons a r ih=>{
 have h' :=List.pairwise_cons.1 h;unfold nS;by_cases h1:x=a
 · rw[qD h1];exact h
 {
 rw[qC h1];by_cases h2:x<a
 {
 rw[qD h2];refine List.pairwise_cons.2 ⟨fun y hy=>?_,h⟩;rcases qB.1 hy with rfl|hy
 · exact h2
 · have:=h'.1 y hy;omega}
 {
 rw[qC h2];refine List.pairwise_cons.2 ⟨fun y hy=>?_,ih h'.2⟩;rcases lN.1 hy with rfl|hy
 · omega
 · exact h'.1 y hy}}}
theorem aKI{l m:List Nat}(hl:l.Pairwise (· < ·))(hm:m.Pairwise (· < ·))(h:∀x,x∈l↔x∈m):l=m:=by
 refine List.Perm.eq_of_pairwise (le:=fun x y:Nat=>x<y) (fun a b _ _ h1 h2=>by omega) hl hm ?_;rw[List.perm_ext_iff_of_nodup (hl.imp fun h=>Nat.ne_of_lt h) (hm.imp fun h=>Nat.ne_of_lt h)];exact h
def kH(L:List Lv):List Nat:=L.foldl (fun o e=>nS e.v (nS e.u o)) []
theorem idsF(L:List Lv):∀o:List Nat,o.Pairwise (· < ·)->(L.foldl (fun o e=>nS e.v (nS e.u o)) o).Pairwise (· < ·)/\∀x,x∈L.foldl (fun o e=>nS e.v (nS e.u o)) o↔x∈o∨inL L x:=by
 induction L with
 | nil=>intro o ho;exact⟨ho,fun x=>by simp[inL]⟩
 | cons e r ih=>{
 intro o ho;obtain⟨h1,h2⟩:=ih _ (rX (x:=e.v) (rX (x:=e.u) ho));refine⟨h1,fun x=>?_⟩;rw[List.foldl_cons,h2,lN,lN];unfold inL;simp only[qB,exists_eq_or_imp,Lv.at,Bool.or_eq_true,beq_iff_eq];constructor
 {
 rintro((h|h|h)|h)
 · exact .inr (.inl (.inr h.symm))
 · exact .inr (.inl (.inl h.symm))
 · exact .inl h
 · exact .inr (.inr h)}
 {
 rintro(h|(h|h)|h)
 · exact .inl (.inr (.inr h))
 · exact .inl (.inr (.inl h.symm))
 · exact .inl (.inl h.symm)
 · exact .inr h}}
theorem oS(L:List Lv):(kH L).Pairwise (· < ·):=(idsF L [] .nil).1
theorem jI{L:List Lv}{x:Nat}:x∈kH L↔inL L x:=by
 have h:=(idsF L [] .nil).2 x;unfold kH;rw[h];simp
theorem aCW(L:List Lv):(kH L).Nodup:=(oS L).imp fun h=>Nat.ne_of_lt h
theorem aGT(L:List Lv):kH (L.map nR)=kH L:=
  aKI (oS _) (oS _) fun x=>by rw[jI,jI,aAU]
section
variable {W:Wm}
theorem Wm.Ok.ids_eq(h:W.Ok):W.s.ids=kH W.s.L:=by
 refine aKI (aHZ h.ok.md.ids) (oS _) fun x=>?_;rw[show W.s.ids=nY (W.s.M.L.map (·.1)) from rfl,aFU,jX h.ok.md,aAV h,jI]
theorem Wm.Ok.ids_len(h:W.Ok):W.s.M.L.length=(kH W.s.L).length:=by rw[<-h.ids_eq,Sm.ids_len]
end
section
variable (L:List Lv) (u v:Nat)
end
structure Ob where
  m:Int
  E:Nat
  V:Nat
  D:Int
  now:Int
  L:List Lv
  last:Nat
  gone:Nat
def Wm.ob(X:Wm):Ob:=⟨X.m,X.E,X.V,X.D,X.now,X.s.L.map nR,X.s.last,X.gone⟩
namespace Ob
def left(o:Ob)(to:Int):List Lv:=o.L.filter fun e=>decide (to<e.x)
def tick(o:Ob)(to:Int):Ob:={ o with now:=to,L:=o.left to,gone:=o.gone+(o.L.length-(o.left to).length) }
def put(o:Ob)(u v:Nat)(wt:Int):Ob:={ o with L:=o.L++[⟨0,o.last+1,u,v,wt,o.now,o.now+o.m⟩],last:=o.last+1 }
def idsUV(L:List Lv)(u v:Nat):List Nat:=nS v (nS u (kH L))
def addC(o:Ob)(u v:Nat)(t:Int):Nat:=
  if u=v then 9 else if t<o.now then 10 else if 9223372036854775807<t+o.m∨9223372036854775807<=o.last then 7 else if o.E<=(o.left t).length then 12 else if o.V<(idsUV (o.left t) u v).length then 11 else 0
def add(o:Ob)(u v:Nat)(wt t:Int):Ob:=if o.addC u v t=0 then(o.tick t).put u v wt else o
def tickS(o:Ob)(to:Int):Ob:=if dI o.m o.now to=0 then o.tick to else o
def new(m:Int)(E V:Nat)(D:Int)(g:Nat):Ob:=⟨m,E,V,D,0,[],g,g⟩
structure Ok (o:Ob):Prop where
  x:∀e∈o.L,e.x=e.t+o.m/\0<=e.t/\e.t<=o.now/\o.now<e.x
  mono:o.L.Pairwise fun a b=>a.t<=b.t
  num:∀i (h:i<o.L.length),(o.L[i]).seq=o.gone+i+1
  last:o.last=o.gone+o.L.length
  max:o.last<=9223372036854775807
  m1:1<=o.m
  m2:o.m<=9223372036854775807
  n0:0<=o.now
  n1:o.now+o.m<=9223372036854775807
  ne:∀e∈o.L,e.u≠e.v
  u64:∀e∈o.L,e.u<18446744073709551616/\e.v<18446744073709551616
  leE:o.L.length<=o.E
  leV:(kH o.L).length<=o.V
  mE:o.E<=16384
  mV:o.V<=4096
  sl:∀e∈o.L,e.slot=0
end Ob
section
variable {X:Wm}
theorem tW(X:Wm):X.ob.L.length=X.s.L.length:=List.length_map _
theorem Wm.Ok.lenE(h:X.Ok):X.s.L.length<=X.E:=by
 have h1:=Sm.len_used h.ok;have h2:=h.ok.ar.hb;have h3:=h.ok.sl;have h4:=h.hE;unfold Ar.used at h1;omega
theorem Wm.Ok.lenV(h:X.Ok):(kH X.s.L).length<=X.V:=by
 rw[<-h.ids_len];have h1:=h.ok.md.cnt;have h2:=h.ok.md.ar.hb;have h3:=h.ok.ms;have h4:=h.hV;have h6:X.s.M.ar.slots=X.s.M.slots:=rfl;have h7:X.s.M.ar.begun=X.s.M.given:=rfl;omega
theorem Wm.Ok.ob(h:X.Ok):X.ob.Ok:=by
 have hm:∀e∈X.ob.L,∃d∈X.s.L,nR d=e:=fun e he=>qV.1 he;refine⟨fun e he=>?_,?_,fun i hi=>?_,?_,h.max,h.m1,h.m2,h.n0,h.n1,fun e he=>?_,fun e he=>?_,?_,?_,?_,?_,fun e he=>?_⟩
 {
 obtain⟨d,hd,rfl⟩:=hm e he;exact h.x d hd}
 · exact List.pairwise_map.2 h.mono
 {
 have hi' :i<X.s.L.length:=by rw[<-tW];exact hi
 have e:X.ob.L[i]'hi=nR (X.s.L[i]'hi'):=List.getElem_map ..;rw[e];exact h.num i hi'}
 · rw[tW];exact h.last
 {
 obtain⟨d,hd,rfl⟩:=hm e he;exact h.ok.ne d hd}
 {
 obtain⟨d,hd,rfl⟩:=hm e he;exact h.ok.u64 d hd}
 · rw[tW];exact h.lenE
 · rw[show X.ob.L=X.s.L.map nR from rfl,aGT];exact h.lenV
 · show X.E<=_;rw[<-h.hE];exact h.ok.leE
 · show X.V<=_;rw[<-h.hV];exact h.ok.leV
 {
 obtain⟨d,hd,rfl⟩:=hm e he;rfl}
theorem aAW(L:List Lv)(to:Int):(L.map nR).filter (fun e=>decide (to<e.x))=(L.filter fun e=>decide (to<e.x)).map nR:=by
 rw[List.filter_map];rfl
theorem aRE(m:Int)(E V:Nat)(D:Int)(g:Nat):(Wm.new m E V D g).ob=Ob.new m E V D g:=rfl
theorem yA(h:X.Ok){to:Int}{ds:List Nat}{Q' :Nat->Option Int}(hm:fG to X.Q ds Q'):(X.tick to ds Q').ob=X.ob.tick to:=by
 obtain⟨k1,k2,k3,k4⟩:=hm.law h.lk h.ok;have e1:((X.s.rems ds).L.map nR)=X.ob.left to:=by rw[k2];exact(aAW X.s.L to).symm
 have e2:(X.ob.left to).length=(X.s.rems ds).L.length:=by rw[<-e1,List.length_map]
 have e3:X.gone+ds.length=X.gone+(X.ob.L.length-(X.ob.left to).length):=by rw[e2,tW];omega
 have e4:(X.s.rems ds).last=X.s.last:=(iY X.s ds).2.2;show Ob.mk _ _ _ _ _ ((X.s.rems ds).L.map nR) (X.s.rems ds).last (X.gone+ds.length)=_
 rw[e1,e3,e4];rfl
theorem aRF(u v:Nat)(wt:Int)(a b:Nat):(X.put u v wt a b).ob=X.ob.put u v wt:=by
 show Ob.mk _ _ _ _ _ ((X.s.L++[X.s.edge u v wt X.now (X.now+X.m)]).map nR) (X.s.last+1) _=_
 rw[List.map_append];rfl
theorem aGU(h:X.s.Ok)(u v:Nat)(hne:u≠v)(hi:∀x,(X.s.M.find x).isSome=true↔inL X.s.L x):X.s.M.L.length+X.s.more u v=(Ob.idsUV (X.s.L.map nR) u v).length:=by
 have h1:X.s.M.L.length+X.s.more u v=(jW X.s.M u v).length:=by rw[nG];rfl
 rw[h1];apply List.Perm.length_eq;unfold Ob.idsUV;rw[List.perm_ext_iff_of_nodup (oE h.md hne) ((rX (rX (oS _))).imp fun h=>Nat.ne_of_lt h)];intro x;rw[nH h.md,lN,lN,jI,aAU,hi];constructor
 {
 rintro(h|h|h)
 · exact .inr (.inr h)
 · exact .inr (.inl h)
 · exact .inl h}
 {
 rintro(h|h|h)
 · exact .inr (.inr h)
 · exact .inr (.inl h)
 · exact .inl h}
theorem aKJ(h:X.Ok)(u v:Nat)(hne:u≠v):X.s.chk u v=if X.E<=X.ob.L.length then 12 else if X.V<(Ob.idsUV X.ob.L u v).length then 11 else 0:=by
 unfold Sm.chk;rw[qC hne,Sm.len_used h.ok,h.hE,h.hV,aGU h.ok u v hne (aAV h),tW];rfl
theorem aGV(h:X.Ok){u v:Nat}{t:Int}(hne:u≠v)(hc:dI X.m X.now t=0)(hl:X.s.last<9223372036854775807){ds:List Nat}{Q' :Nat->Option Int}(hm:fG t X.Q ds Q'):X.ob.addC u v t=(X.s.rems ds).chk u v:=by
 obtain⟨h1,h2⟩:=mG hc;have hk:=(Wm.tick_ok h h1 h2 hm).1;have e:=aKJ hk u v hne;rw[yA h hm]at e;show _=(X.tick t ds Q').s.chk u v
 rw[e];unfold Ob.addC;rw[qC hne,qC (show ¬t<X.ob.now from by show ¬t<X.now;omega),qC (show ¬(9223372036854775807<t+X.ob.m∨9223372036854775807<=X.ob.last) from by show ¬(9223372036854775807<t+X.m∨9223372036854775807<=X.s.last);omega)];rfl
end
end Go.Proofs.YtjdgpcjbgjnahaaGreatDoor
namespace Go.Proofs.YtjdgpcjbgjnahaaGreatDoor
open Go.RowKit
structure Th where
  P:World->List Nat->Prop
  lt:∀{w:World} {K:List Nat},P w K->∀q∈K,q<w.heap.size
  fr:∀{w w' :World} {K S:List Nat},P w K->Fr S w w' -> (∀q∈K,q∉S)->P w' K
def Hs(n:Nat)(w:World):List Th->List Nat->Prop
  | [],K=>K=[]
  | t::ts,K=>∃K1 K2,t.P w K1/\(∀q∈K1,n<=q)/\Hs n w ts K2/\(∀q∈K1,q∉K2)/\K=K1++K2
section
variable {n:Nat} {w w' :World} {ts:List Th} {K S:List Nat}
theorem Hs.lt:∀{ts:List Th} {K:List Nat},Hs n w ts K->∀q∈K,n<=q/\q<w.heap.size
  | [],K,h=>by rw[show K=[] from h];simp
  | t::ts,K,h=>by
    obtain⟨K1,K2,h1,h2,h3,_,rfl⟩:=h;intro q hq;rcases qE.1 hq with hq|hq
    · exact⟨h2 q hq,t.lt h1 q hq⟩
    · exact Hs.lt h3 q hq
theorem Hs.fr(hf:Fr S w w'):∀{ts:List Th} {K:List Nat},Hs n w ts K->(∀q∈K,q∉S)->Hs n w' ts K
  | [],_,h,_=>h
  | t::ts,K,h,hs=>by
    obtain⟨K1,K2,h1,h2,h3,h4,rfl⟩:=h;exact⟨K1,K2,t.fr h1 hf (fun q hq=>hs q (qE.2 (.inl hq))),h2,Hs.fr hf h3 (fun q hq=>hs q (qE.2 (.inr hq))),h4,rfl⟩
end
def Wd(W wr:World)(ts:List Th):Prop:=Fr [] W wr/\∃K,Hs W.heap.size wr ts K
def Stp(w w' :World)(K:List Nat)(t:Th):Prop:=∃K', t.P w' K' /\ Fr K w w' /\ ∀q∈K', q∈K∨w.heap.size<=q
section
variable {W wr w' :World} {t t' a b c:Th} {ts:List Th} {K:List Nat}
theorem Wd.begin(W:World):Wd W W []:=⟨Fr.refl _ _,[],rfl⟩
theorem Wd.frm(h:Wd W wr ts):Fr [] W wr:=h.1
theorem Wd.below(h:Wd W wr ts):Below W.heap.size W wr:=h.1.below (by simp)
theorem Wd.fr0(h:Wd W wr ts)(hf:Fr [] wr w'):Wd W w' ts:=by
 obtain⟨h1,K,h2⟩:=h;exact⟨h1.trans' hf,K,h2.fr hf (by simp)⟩
theorem Wd.drop(h:Wd W wr (t::ts)):Wd W wr ts:=by
 obtain⟨h1,K,K1,K2,_,_,h2,_⟩:=h;exact⟨h1,K2,h2⟩
theorem Wd.get(h:Wd W wr (t::ts)):∃K,t.P wr K:=by
 obtain⟨_,K,K1,K2,h,_⟩:=h;exact⟨K1,h⟩
theorem Wd.open(h:Wd W wr (t::ts)):∃K,t.P wr K/\∀{w' :World} {t' :Th},Stp wr w' K t' -> Wd W w' (t' :: ts):=by
 obtain⟨h1,K,K1,K2,h2,h3,h4,h5,rfl⟩:=h;refine⟨K1,h2,?_⟩;rintro w' t' ⟨K', k1,k2,k3⟩;have hs:=h1.size;have hs2:=k2.size;refine⟨h1.trans k2 (fun q hq=>.inr (h3 q hq)),K' ++ K2,K', K2,k1,fun q hq=>?_,h4.fr k2 (fun q hq hm=>h5 q hm hq),fun q hq hm=>?_,rfl⟩
 {
 rcases k3 q hq with e|e
 · exact h3 q e
 · omega}
 {
 rcases k3 q hq with e|e
 · exact h5 q e hm
 · have:=h4.lt q hm;omega}
theorem Wd.new(h:Wd W wr ts)(hf:Fr [] wr w')(hp:t.P w' K)(hk:∀q∈K,wr.heap.size<=q):Wd W w' (t::ts):=by
 obtain⟨h1,K2,h2⟩:=h;have hs:=h1.size;refine⟨h1.trans' hf,K++K2,K,K2,hp,fun q hq=>?_,h2.fr hf (by simp),fun q hq hm=>?_,rfl⟩
 · have:=hk q hq;omega
 {
 have:=hk q hq;have:=h2.lt q hm;omega}
theorem Wd.swap(h:Wd W wr (a::b::ts)):Wd W wr (b::a::ts):=by
 obtain⟨h1,K,K1,K2,h2,h3,⟨K3,K4,h4,h5,h6,h7,rfl⟩,h8,rfl⟩:=h;refine⟨h1,K3++(K1++K4),K3,K1++K4,h4,h5,⟨K1,K4,h2,h3,h6,fun q hq hm=>h8 q hq (qE.2 (.inr hm)),rfl⟩,fun q hq hm=>?_,rfl⟩;rcases qE.1 hm with e|e
 · exact h8 q e (qE.2 (.inl hq))
 · exact h7 q hq e
theorem Wd.under(h:Wd W wr (t::ts)){us:List Th}(hu:∀K,Hs W.heap.size wr ts K->∃K', Hs W.heap.size wr us K' /\ ∀q∈K', q∈K):Wd W wr (t::us):=by
 obtain⟨h1,K,K1,K2,h2,h3,h4,h5,rfl⟩:=h;obtain⟨K', k1,k2⟩:=hu K2 h4;exact⟨h1,K1++K', K1,K', h2,h3,k1,fun q hq hm=>h5 q hq (k2 q hm),rfl⟩
theorem Wd.drop2(h:Wd W wr (a::b::ts)):Wd W wr (a::ts):=h.swap.drop
theorem Hs.swap{n:Nat}(h:Hs n wr (a::b::ts) K):∃K', Hs n wr (b::a::ts) K' /\ ∀q∈K', q∈K:=by
 obtain⟨K1,K2,h2,h3,⟨K3,K4,h4,h5,h6,h7,rfl⟩,h8,rfl⟩:=h;refine⟨K3++(K1++K4),⟨K3,K1++K4,h4,h5,⟨K1,K4,h2,h3,h6,fun q hq hm=>h8 q hq (qE.2 (.inr hm)),rfl⟩,fun q hq hm=>?_,rfl⟩,fun q hq=>?_⟩
 {
 rcases qE.1 hm with e|e
 · exact h8 q e (qE.2 (.inl hq))
 · exact h7 q hq e}
 {
 simp only[qE]at hq ⊢;rcases hq with e|e|e
 · exact .inr (.inl e)
 · exact .inl e
 · exact .inr (.inr e)}
theorem Wd.third(h:Wd W wr (a::b::c::ts)):Wd W wr (c::a::b::ts):=(h.under fun _ hk=>Hs.swap hk).swap
theorem Wd.back3(h:Wd W wr (a::b::c::ts)):Wd W wr (b::c::a::ts):=h.swap.under fun _ hk=>Hs.swap hk
end
section
variable {w w' :World} {pw pc ps px pf:Nat} {P:Wp} {Ks lx Lf:List Nat} {cl:Nat->Nat}
theorem aKK(h:dR w pw pc ps px pf P Ks lx Lf cl):Calls Tryz.prog 25 #[eQ pw] w fun e w' =>e=.returned (.tuple #[.int .u64 P.added,.int .u64 P.gone])/\Fr [] w w' :=by
 have HV:=qA (eS h);have c8:=h.hd.cell 8;have c9:=h.hd.cell 9;simp only[zI,zJ]at c8 c9;clear h;go_enter Tryz.func25,Tryz.ntmps25
 go_wp2_with fail
 refine HV.out.mono ?_;rintro _ w ⟨rfl,rfl⟩;go_wp2_with fail
 go_quiet (fail)
 go_wp2
 go_ret2;exact⟨rfl,(Fr.refl _ _).drewN _⟩
end
end Go.Proofs.YtjdgpcjbgjnahaaGreatDoor
namespace Go.Proofs.YtjdgpcjbgjnahaaGreatDoor
open Go.RowKit Classical
end Go.Proofs.YtjdgpcjbgjnahaaGreatDoor
namespace Go.Proofs.YtjdgpcjbgjnahaaGreatDoor
open Go.RowKit
section
variable {w w' :World} {pw pc ps px pf:Nat} {P:Wp} {Ks lx Lf:List Nat} {cl:Nat->Nat}
theorem aGW(h:dR w pw pc ps px pf P Ks lx Lf cl):Calls Tryz.prog 31 #[eQ pw] w fun e w' =>e=.returned (.agg #[.int .i64 P.m,.int .i64 P.E,.int .i64 P.V,.int .i64 P.D])/\Fr [] w w' :=by
 have h1:=h.fr0 ((Fr.refl [] w).alloc (.cells #[.int .i64 0,.int .i64 0,.int .i64 0,.int .i64 0] 31));have HV:=qA (eS h1);have c0:=h1.hd.cell 0;have c1:=h1.hd.cell 1;have c2:=h1.hd.cell 2;have c3:=h1.hd.cell 3;have hb:=Blk.new w [.int .i64 P.m,.int .i64 P.E,.int .i64 P.V,.int .i64 P.D] 31;have r0:=hb.cell 0;have r1:=hb.cell 1;have r2:=hb.cell 2;have r3:=hb.cell 3;simp only[zI,zJ]at c0 c1 c2 c3 r0 r1 r2 r3;have HF:=qA ((Fr.refl [] w).alloc (.cells #[.int .i64 P.m,.int .i64 P.E,.int .i64 P.V,.int .i64 P.D] 31));clear h h1 hb;go_enter Tryz.func31,Tryz.ntmps31
 go_wp2_with fail
 refine HV.out.mono ?_;rintro _ _ ⟨rfl,rfl⟩;go_wp2
 exact bodyPost_ret (v:=.agg #[.int .i64 P.m,.int .i64 P.E,.int .i64 P.V,.int .i64 P.D]) (by simp[results,Tryz.results31,go_sem,r0,r1,r2,r3]) rfl ⟨rfl,HF.out⟩
end
structure CpS (w wr:World) (b:Nat) (l:List Value):Prop where
  hd:Blk wr b 38 l
  fr:Fr [] w wr
  lb:w.heap.size=b
section
variable {w wr w' :World} {b:Nat} {l:List Value}
end
section
variable {w w' :World} {pw pc ps px pf:Nat} {P:Wp} {Ks lx Lf:List Nat} {cl:Nat->Nat}
end
end Go.Proofs.YtjdgpcjbgjnahaaGreatDoor
namespace Go.Proofs.YtjdgpcjbgjnahaaGreatDoor
open Go.RowKit Classical
def thO(p:Nat)(o:Ob):Th:=⟨fun w K=>∃X,X.ob=o/\eP w p X K,fun⟨_,_,h⟩=>h.lt,fun⟨X,e,h⟩ hf hs=>⟨X,e,h.fr hf hs⟩⟩
def thV(v:Value)(l:List Lv):Th:=⟨fun w K=>dJ w v l/\K=v.ownBlock.toList,fun⟨h,e⟩ q hq=>h.lt (by simpa[e] using hq),fun⟨h,e⟩ hf hs=>⟨h.fr hf (fun q hq=>hs q (by simp[e,hq])),e⟩⟩
def thB(b:Nat)(t:TypeId)(l:List Value):Th:=⟨fun w K=>Blk w b t l/\K=[b],fun⟨h,e⟩ q hq=>(show q=b by simpa[e] using hq)▸h.lt,fun⟨h,e⟩ hf hs=>⟨hf.blk h (hs b (by simp[e])),e⟩⟩
def aPI(o:Ob)(l:List Lv):Prop:=l.map nR=o.L/\(l.map (·.slot)).Nodup/\∀e∈l,e.slot<o.E
section
variable {W wr w' :World} {p:Nat} {o:Ob} {ts:List Th}
theorem Wd.rowV{v:Value}{l:List Lv}(h:Wd W wr (thV v l::ts)):dJ wr v l:=by obtain⟨K,h,_⟩:=h.get;exact h
theorem Wd.blk{b:Nat}{t:TypeId}{l:List Value}(h:Wd W wr (thB b t l::ts)):Blk wr b t l:=by obtain⟨K,h,_⟩:=h.get;exact h
theorem Wd.ob(h:Wd W wr (thO p o::ts)):o.Ok:=by
 obtain⟨K,X,e,hx⟩:=h.get;exact e▸hx.1.ob
theorem aKL{X:Wm}{K:List Nat}(h:aKG wr w' p X K):Stp wr w' K (thO p X.ob):=by
 obtain⟨K', h1,h2,h3⟩:=h;exact⟨K', ⟨X,rfl,h1⟩,h2,h3⟩
end
section
variable {W wr w' :World} {p:Nat} {o:Ob} {ts:List Th}
theorem yB(h:Wd W wr (thO p o::ts)):Calls Tryz.prog 29 #[eQ p] wr fun e w' =>e=.returned (.int .i64 o.now)/\w' =wr:=by
 obtain⟨K,X,rfl,h1⟩:=h.get;exact aOI h1
theorem tX(h:Wd W wr (thO p o::ts)):Calls Tryz.prog 25 #[eQ p] wr fun e w' =>e=.returned (.tuple #[.int .u64 o.last,.int .u64 o.gone])/\Fr [] wr w' :=by
 obtain⟨K,X,rfl,hok,pc,ps,px,pf,nq,Ks,lx,Lf,cl,hB,rfl⟩:=h.get;exact aKK hB
theorem aGX(h:Wd W wr (thO p o::ts)):Calls Tryz.prog 31 #[eQ p] wr fun e w' =>e=.returned (.agg #[.int .i64 o.m,.int .i64 o.E,.int .i64 o.V,.int .i64 o.D])/\Fr [] wr w' :=by
 obtain⟨K,X,rfl,hok,pc,ps,px,pf,nq,Ks,lx,Lf,cl,hB,rfl⟩:=h.get;exact aGW hB
theorem yC(h:Wd W wr (thO p o::ts)):Calls Tryz.prog 34 #[eQ p] wr fun e w' =>∃v l,e=.returned v/\aPI o l/\Wd W w' (thV v l::thO p o::ts):=by
 obtain⟨K,X,rfl,hok,pc,ps,px,pf,nq,Ks,lx,Lf,cl,hB,rfl⟩:=h.get;refine(aNX hB).mono ?_;rintro _ w' ⟨v,rfl,h1,h2,h3⟩;refine⟨v,X.s.L,rfl,⟨rfl,hok.ok.one,fun e he=>?_⟩,h.new h3 ⟨h1,rfl⟩ (fun q hq=>h2 q (by simpa using hq))⟩;have hu:=(hok.ok.used e.slot).2 ⟨e,he,rfl⟩;have h4:=hok.ok.ar.hb;have h5:=hok.ok.sl;have h6:=hok.hE;have h7:e.slot<X.s.A.begun:=hu.1;show e.slot<X.E
 omega
theorem aKM(h:Wd W wr ts)(m D:Int)(E V:Nat)(h1:1<=m)(h1' :m<=9223372036854775807)(h2:1<=E)(h3:E<=16384)(h4:2<=V)(h5:V<=4096)(h6:0<=D)(h7:D<=16384):
    Calls Tryz.prog 18 #[.agg #[.int .i64 m,.int .i64 E,.int .i64 V,.int .i64 D]] wr fun e w' =>∃p,e=.returned (.tuple #[eQ p,.int .i64 0])/\Wd W w' (thO p (Ob.new m E V D 0)::ts):=
  (aRD m D E V wr h1 h1' h2 h3 h4 h5 h6 h7).mono fun _ _ ⟨p,k,K,k1,k2,k3⟩=>⟨p,k,h.new k2 ⟨_,aRE m E V D 0,k1⟩ k3⟩
theorem aOJ(h:Wd W wr (thO p o::ts))(to:Int)(h1:-9223372036854775808<=to)(h2:to<=9223372036854775807):
    Calls Tryz.prog 67 #[eQ p,.int .i64 to] wr fun e w' =>e=.returned (.int .i64 (dI o.m o.now to))/\Wd W w' (thO p (o.tickS to)::ts):=by
 obtain⟨K,⟨X,rfl,k1⟩,hs⟩:=h.open;unfold Ob.tickS;by_cases hc:dI X.m X.now to=0
 {
 rw[show dI X.ob.m X.ob.now to=0 from hc,qD rfl];refine(aKH k1 to h1 h2 hc).mono ?_;rintro _ w' ⟨rfl,ds,Q', hm,k⟩;have:=aKL k;rw[yA k1.1 hm]at this;exact⟨rfl,hs this⟩}
 {
 rw[qC (show ¬dI X.ob.m X.ob.now to=0 from hc)];refine(aAT k1 to h1 h2 hc).mono ?_;rintro _ _ ⟨rfl,rfl⟩;exact⟨rfl,h⟩}
end
end Go.Proofs.YtjdgpcjbgjnahaaGreatDoor
namespace Go.Proofs.YtjdgpcjbgjnahaaGreatDoor
open Go.RowKit
def dS(w:World)(v:Value)(l:List Nat):Prop:=w.ownsRow 0 5 1 v l.length (bG l)
section
variable {w w' :World} {v:Value} {l:List Nat} {a:Option Addr}
theorem dS.fr{S:List Nat}(h:dS w v l)(hf:Fr S w w')(hs:∀q,v.ownBlock=some q->q∉S):dS w' v l:=
  aQ h (fun q hq=>hf.keep q (eZ h hq) (hs q hq))
theorem dS.fr0(h:dS w v l)(hf:Fr [] w w'):dS w' v l:=h.fr hf (by simp)
theorem dS.slice(h:dS w v l):∃a cap,v=.slice a l.length cap:=aT h
theorem dS.lt(h:dS w v l){q:Nat}(hq:v.ownBlock=some q):q<w.heap.size:=eZ h hq
theorem dS.at(h:dS w v l){i:Nat}(hi:i<l.length):∃b cap,v=.slice (some ⟨b,0,none⟩) l.length cap/\l.length<=cap/\b<w.heap.size/\(∀j,w.frozen? ⟨b,j,none⟩=false)/\w.cell? ⟨b,i,none⟩=some (.int .u8 (l[i]'hi:Nat)):=by
 obtain⟨h1,h2⟩:=h;rcases h2 with⟨rfl,h0⟩|⟨g,cap,cur,rfl,_,hh,hn,hm,hsz,hxs⟩
 · omega
 {
 refine⟨g,cap,rfl,hn,(qL.1 hh).1,fun j=>by simp[World.frozen?,hh],?_⟩;rw[<-aDR hi,<-hxs,List.getElem?_take,qD (by omega)];simp[World.cell?,hh]}
theorem dS.rd{cap:Nat}(h:dS w (.slice a l.length cap) l):RdB w a l:=fun i hi=>by
 obtain⟨b,cap', ev,_,hb,_,hc⟩:=h.at hi;simp only[qO]at ev;exact⟨b,0,ev.1,hb,by rw[Nat.zero_add];exact hc⟩
end
def thY(v:Value)(l:List Nat):Th:=⟨fun w K=>dS w v l/\K=v.ownBlock.toList,fun⟨h,e⟩ q hq=>h.lt (by simpa[e] using hq),fun⟨h,e⟩ hf hs=>⟨h.fr hf (fun q hq=>hs q (by simp[e,hq])),e⟩⟩
theorem Wd.rowB{W wr:World}{ts:List Th}{v:Value}{l:List Nat}(h:Wd W wr (thY v l::ts)):dS wr v l:=by obtain⟨K,h,_⟩:=h.get;exact h
section
variable {w w' :World} {pw:Nat} {W:Wm} {K:List Nat}
theorem yD(h:eP w pw W K)(u:Nat)(wt t:Int):Calls Tryz.prog 69 #[eQ pw,pI u u wt t] w fun e w' =>e=.returned (.int .i64 9)/\Fr [] w w' :=by
 have h1:=h.fr0 ((Fr.refl [] w).alloc (.cells #[.int .u64 u,.int .u64 u,.int .i64 wt,.int .i64 t] 72));obtain⟨hok,pc,ps,px,pf,nq,Ks,lx,Lf,cl,hB1,rfl⟩:=h1;have hbx:=Blk.new w [.int .u64 u,.int .u64 u,.int .i64 wt,.int .i64 t] 72;have HF:=qA ((Fr.refl [] w).alloc (.cells #[.int .u64 u,.int .u64 u,.int .i64 wt,.int .i64 t] 72));have HV:=qA (eS hB1);have r0:=hbx.cell 0;have r1:=hbx.cell 1;simp only[zI,zJ]at r0 r1;clear hB1 hbx h hok;go_enter Tryz.func69,Tryz.ntmps69
 go_wp2_with fail
 refine HV.out.mono ?_;rintro _ w1 ⟨rfl,rfl⟩;go_wp2
 go_ret;exact⟨rfl,HF.out⟩
theorem aCX(h:eP w pw W K)(u v:Nat)(hne:u≠v)(wt t:Int)(ht1:-9223372036854775808<=t)(ht2:t<=9223372036854775807)(hc:dI W.m W.now t≠0):
    Calls Tryz.prog 69 #[eQ pw,pI u v wt t] w fun e w' =>e=.returned (.int .i64 (dI W.m W.now t))/\Fr [] w w' :=by
 have h1:=h.fr0 ((Fr.refl [] w).alloc (.cells #[.int .u64 u,.int .u64 v,.int .i64 wt,.int .i64 t] 72));have hbx:=Blk.new w [.int .u64 u,.int .u64 v,.int .i64 wt,.int .i64 t] 72;obtain⟨w1,hw1⟩:∃w1,w1=w.alloc (.cells #[.int .u64 u,.int .u64 v,.int .i64 wt,.int .i64 t] 72):=⟨_,rfl⟩;rw[show w.alloc (.cells [.int .u64 u,.int .u64 v,.int .i64 wt,.int .i64 t].toArray 72)=w.alloc (.cells #[.int .u64 u,.int .u64 v,.int .i64 wt,.int .i64 t] 72) from rfl]at hbx;have HF:=qA ((Fr.refl [] w).alloc (.cells #[.int .u64 u,.int .u64 v,.int .i64 wt,.int .i64 t] 72));rw[<-hw1]at hbx h1 HF;obtain⟨hok,pc,ps,px,pf,nq,Ks,lx,Lf,cl,hB1,rfl⟩:=h1;have HV:=qA (eS hB1);have HCk:=qA (fun(nq:Nat)=>lL (hB1.clk.fr0 ((Fr.refl [] w1).drewN nq)) t ht1 ht2);rw[show dI (W.wp nq).m (W.wp nq).now t=dI W.m W.now t from rfl]at HCk;have c4:=hB1.hd.cell 4;have r0:=hbx.cell 0;have r1:=hbx.cell 1;have r3:=hbx.cell 3;simp only[zI,zJ]at c4 r0 r1 r3;generalize dI W.m W.now t=c at *;have d1:((u:Int) == v)=false:=by simp;omega
 have d4:(c != 0)=true:=by simp[hc]
 clear h hok hB1 hbx hc;go_enter Tryz.func69,Tryz.ntmps69
 obtain⟨xb,hxb⟩:∃xb,xb=w.heap.size:=⟨_,rfl⟩;have HW1:=qA hw1;rw[hw1]at r0 r1 HV;clear hw1;go_wp2_with fail
 refine HV.out.mono ?_;rintro _ _ ⟨rfl,rfl⟩;go_wp2_with fail
 rw[<-HW1.out,<-hxb];rw[<-HW1.out]at r0 r1;rw[<-hxb]at r0 r1 r3;clear hxb HV HW1;refine bF 6 (fun w' =>∃nq,w' =w1.drewN nq) (by kernel_rfl) (by kernel_rfl) (by kernel_rfl) ?_;iterate 6 (refine bO (by decide) (fun K hK=>?_);go_simp;refine hK _ ?_;clear hK K)
 refine aW rfl (.int .i64 c) (fun w' hw' =>?_) ?_
 {
 obtain⟨nq,rfl⟩:=hw';go_simp;refine(HCk.out nq).mono ?_;rintro _ _ ⟨rfl,rfl⟩;exact⟨rfl,nq,rfl⟩};iterate 1 (refine eA (by decide) (fun K hK=>?_);go_simp;refine hK _ ?_;clear hK K)
 refine bP ?_;rintro _ ⟨nq2,rfl⟩;have HF02:=qA (HF.out.drewN nq2);clear c4 r0 r1 r3 HCk HF;generalize w1.drewN nq2=W2 at *;go_wp2
 go_ret;exact⟨rfl,HF02.out⟩
theorem yE(h:eP w pw W K)(u v:Nat)(hne:u≠v)(wt t:Int)(ht1:-9223372036854775808<=t)(ht2:t<=9223372036854775807)(hc:dI W.m W.now t=0)(hl:9223372036854775807<=W.s.last):
    Calls Tryz.prog 69 #[eQ pw,pI u v wt t] w fun e w' =>e=.returned (.int .i64 7)/\Fr [] w w' :=by
 have h1:=h.fr0 ((Fr.refl [] w).alloc (.cells #[.int .u64 u,.int .u64 v,.int .i64 wt,.int .i64 t] 72));have hbx:=Blk.new w [.int .u64 u,.int .u64 v,.int .i64 wt,.int .i64 t] 72;obtain⟨w1,hw1⟩:∃w1,w1=w.alloc (.cells #[.int .u64 u,.int .u64 v,.int .i64 wt,.int .i64 t] 72):=⟨_,rfl⟩;rw[show w.alloc (.cells [.int .u64 u,.int .u64 v,.int .i64 wt,.int .i64 t].toArray 72)=w.alloc (.cells #[.int .u64 u,.int .u64 v,.int .i64 wt,.int .i64 t] 72) from rfl]at hbx;have HF:=qA ((Fr.refl [] w).alloc (.cells #[.int .u64 u,.int .u64 v,.int .i64 wt,.int .i64 t] 72));rw[<-hw1]at hbx h1 HF;obtain⟨hok,pc,ps,px,pf,nq,Ks,lx,Lf,cl,hB1,rfl⟩:=h1;have HV:=qA (eS hB1);have HCk:=qA (fun(nq:Nat)=>lL (hB1.clk.fr0 ((Fr.refl [] w1).drewN nq)) t ht1 ht2);rw[show dI (W.wp nq).m (W.wp nq).now t=0 from hc]at HCk;have c4:=hB1.hd.cell 4;have c8:=hB1.hd.cell 8;have r0:=hbx.cell 0;have r1:=hbx.cell 1;have r3:=hbx.cell 3;simp only[zI,zJ]at c4 c8 r0 r1 r3;rw[show(W.wp nq).added=W.s.last from rfl]at c8;have d1:((u:Int) == v)=false:=by simp;omega
 have d2:decide ((W.s.last:Int)≥9223372036854775807)=true:=qG (by omega);have d3:decide (W.s.last≥9223372036854775807)=true:=qG (by omega);clear h hok hB1 hbx hc;go_enter Tryz.func69,Tryz.ntmps69
 obtain⟨xb,hxb⟩:∃xb,xb=w.heap.size:=⟨_,rfl⟩;have HW1:=qA hw1;rw[hw1]at r0 r1 HV;clear hw1;go_wp2_with fail
 refine HV.out.mono ?_;rintro _ _ ⟨rfl,rfl⟩;go_wp2_with fail
 rw[<-HW1.out,<-hxb];rw[<-HW1.out]at r0 r1;rw[<-hxb]at r0 r1 r3;clear hxb HV HW1;refine bF 6 (fun w' =>∃nq,w' =w1.drewN nq) (by kernel_rfl) (by kernel_rfl) (by kernel_rfl) ?_;iterate 6 (refine bO (by decide) (fun K hK=>?_);go_simp;refine hK _ ?_;clear hK K)
 refine aW rfl (.int .i64 0) (fun w' hw' =>?_) ?_
 {
 obtain⟨nq,rfl⟩:=hw';go_simp;refine(HCk.out nq).mono ?_;rintro _ _ ⟨rfl,rfl⟩;exact⟨rfl,nq,rfl⟩};iterate 1 (refine eA (by decide) (fun K hK=>?_);go_simp;refine hK _ ?_;clear hK K)
 refine bP ?_;rintro _ ⟨nq2,rfl⟩;have HF02:=qA (HF.out.drewN nq2);have c8:=((Fr.refl [] w1).drewN nq2).cell c8 (by simp);clear c4 r0 r1 r3 HCk HF;generalize w1.drewN nq2=W2 at *;go_wp2
 go_ret;exact⟨rfl,HF02.out⟩
end
section
variable {W wr w' :World} {p:Nat} {o:Ob} {ts:List Th}
theorem aRG(h:Wd W wr (thO p o::ts))(u v:Nat)(hu:u<18446744073709551616)(hv:v<18446744073709551616)(wt t:Int)(ht1:-9223372036854775808<=t)(ht2:t<=9223372036854775807):
    Calls Tryz.prog 69 #[eQ p,pI u v wt t] wr fun e w' =>e=.returned (.int .i64 (o.addC u v t:Nat))/\Wd W w' (thO p (o.add u v wt t)::ts):=by
 obtain⟨K,⟨X,rfl,k1⟩,hs⟩:=h.open;by_cases hne:u=v
 {
 subst hne;have e:X.ob.addC u u t=9:=by unfold Ob.addC;exact qD rfl
 unfold Ob.add;rw[e,qC (by decide)];exact(yD k1 u wt t).mono fun _ _ k=>⟨k.1,h.fr0 k.2⟩}
 {
 by_cases hc:dI X.m X.now t=0
 {
 obtain⟨q1,q2⟩:=mG hc;by_cases hl:X.s.last<9223372036854775807
 {
 refine(aOH k1 u v hu hv hne wt t ht1 ht2 hc hl).mono ?_;rintro _ w' ⟨c,rfl,ds,Q', hm,hres⟩;have e:=aGV k1.1 hne hc hl hm;rcases hres with⟨g1,_,g2,g3⟩|⟨g1,g2,a,b,_,_,g3⟩
 {
 have e' :X.ob.addC u v t=c:=e.trans g2.symm;refine⟨by rw[e'],?_⟩;unfold Ob.add;rw[e', qC g1];exact h.fr0 g3}
 {
 have e' :X.ob.addC u v t=0:=e.trans g2;subst g1;refine⟨by rw[e'],?_⟩;unfold Ob.add;rw[e', qD rfl];have:=aKL g3;rw[aRF,yA k1.1 hm]at this;exact hs this}}
 {
 have e:X.ob.addC u v t=7:=by {
 unfold Ob.addC;rw[qC hne,qC (show ¬t<X.ob.now by show ¬t<X.now;omega),qD (.inr (by show _<=X.s.last;omega))]};unfold Ob.add;rw[e,qC (by decide)];exact(yE k1 u v hne wt t ht1 ht2 hc (by omega)).mono fun _ _ k=>⟨k.1,h.fr0 k.2⟩}}
 {
 have e:((X.ob.addC u v t:Nat):Int)=dI X.m X.now t:=by {
 unfold Ob.addC dI lK;rw[qC hne];by_cases h1:t<X.now
 · rw[qD (show t<X.ob.now from h1),qD h1];rfl
 {
 have h2:¬t+X.m<=9223372036854775807:=fun hh=>hc (by unfold dI lK;rw[qC h1,qD hh]);rw[qC (show ¬t<X.ob.now from h1),qC h1,qC h2,qD (.inl (by show _<t+X.m;omega))];rfl}};have e0:X.ob.addC u v t≠0:=fun hh=>hc (by rw[<-e,hh];rfl);unfold Ob.add;rw[qC e0,e];exact(aCX k1 u v hne wt t ht1 ht2 hc).mono fun _ _ k=>⟨k.1,h.fr0 k.2⟩}}
end
def lO(m E V D:Int):Bool:=decide (m≥1)&&(decide (E≥1)&&(decide (E<=16384)&&(decide (V≥2)&&(decide (V<=4096)&&(decide (D≥0)&&decide (D<=16384))))))
theorem fJ{m E V D:Int}:lO m E V D=true↔1<=m/\1<=E/\E<=16384/\2<=V/\V<=4096/\0<=D/\D<=16384:=by
 simp[lO]
theorem aCY(m E V D:Int)(w:World):Calls Tryz.prog 82 #[.agg #[.int .i64 m,.int .i64 E,.int .i64 V,.int .i64 D]] w fun e w' =>e=.returned (.bool (lO m E V D))/\Fr [] w w' :=by
 have HF:=qA ((Fr.refl [] w).alloc (.cells #[.int .i64 m,.int .i64 E,.int .i64 V,.int .i64 D] 31));unfold lO;by_cases h0:m≥1
 {
 have d0:decide (m≥1)=true:=qG h0;by_cases h1:E≥1
 {
 have d1:decide (E≥1)=true:=qG h1;by_cases h2:E<=16384
 {
 have d2:decide (E<=16384)=true:=qG h2;by_cases h3:V≥2
 {
 have d3:decide (V≥2)=true:=qG h3;by_cases h4:V<=4096
 {
 have d4:decide (V<=4096)=true:=qG h4;by_cases h5:D≥0
 {
 have d5:decide (D≥0)=true:=qG h5;by_cases h6:D<=16384
 {
 have d6:decide (D<=16384)=true:=qG h6;rw[d0,d1,d2,d3,d4,d5,d6];clear h0 h1 h2 h3 h4 h5 h6;go_enter Tryz.func82,Tryz.ntmps82
 go_wp2
 go_ret;exact⟨rfl,HF.out⟩}
 {
 have d6:decide (D<=16384)=false:=qF h6;rw[d0,d1,d2,d3,d4,d5,d6];clear h0 h1 h2 h3 h4 h5 h6;go_enter Tryz.func82,Tryz.ntmps82
 go_wp2
 go_ret;exact⟨rfl,HF.out⟩}}
 {
 have d5:decide (D≥0)=false:=qF h5;rw[d0,d1,d2,d3,d4,d5];clear h0 h1 h2 h3 h4 h5;go_enter Tryz.func82,Tryz.ntmps82
 go_wp2
 go_ret;exact⟨rfl,HF.out⟩}}
 {
 have d4:decide (V<=4096)=false:=qF h4;rw[d0,d1,d2,d3,d4];clear h0 h1 h2 h3 h4;go_enter Tryz.func82,Tryz.ntmps82
 go_wp2
 go_ret;exact⟨rfl,HF.out⟩}}
 {
 have d3:decide (V≥2)=false:=qF h3;rw[d0,d1,d2,d3];clear h0 h1 h2 h3;go_enter Tryz.func82,Tryz.ntmps82
 go_wp2
 go_ret;exact⟨rfl,HF.out⟩}}
 {
 have d2:decide (E<=16384)=false:=qF h2;rw[d0,d1,d2];clear h0 h1 h2;go_enter Tryz.func82,Tryz.ntmps82
 go_wp2
 go_ret;exact⟨rfl,HF.out⟩}}
 {
 have d1:decide (E≥1)=false:=qF h1;rw[d0,d1];clear h0 h1;go_enter Tryz.func82,Tryz.ntmps82
 go_wp2
 go_ret;exact⟨rfl,HF.out⟩}}
 {
 have d0:decide (m≥1)=false:=qF h0;rw[d0];clear h0;go_enter Tryz.func82,Tryz.ntmps82
 go_wp2
 go_ret;exact⟨rfl,HF.out⟩}
def iK(m now t:Int):Bool:=decide (t<=now/\t+m<=9223372036854775807/\now<t+m)
theorem aOK{w:World}{pc:Nat}{m now:Int}(h:Clk w pc m now)(t:Int)(ht:-9223372036854775808<=t)(ht2:t<=9223372036854775807):
    Calls Tryz.prog 89 #[kG pc,.int .i64 t] w fun e w' =>e=.returned (.bool (iK m now t))/\Fr [] w w' :=by
 have HV:=qA (oR h);have HA:=qA (xU h.m1 h.m2 t ht ht2 w);have c0:=h.hd.cell 0;have c1:=h.hd.cell 1;simp only[zI,zJ]at c0 c1;clear h;by_cases h1:t<=now
 {
 have d1:decide (t>now)=false:=qF (by omega);by_cases h2:t+m<=9223372036854775807
 {
 have e1:lK t m=0:=qD h2;have e2:tU t m=t+m:=qD h2;rw[e1,e2]at HA;have e3:iK m now t=decide (now<t+m):=decide_eq_decide.2 ⟨fun h=>h.2.2,fun h=>⟨h1,h2,h⟩⟩;rw[e3];clear e1 e2 e3 h1 h2;generalize t+m=x at *;go_enter Tryz.func89,Tryz.ntmps89
 go_wp2_with fail
 refine HV.out.mono ?_;rintro _ w ⟨rfl,rfl⟩;go_wp2_with fail
 refine HA.out.mono ?_;rintro _ w ⟨rfl,rfl⟩;go_wp2
 go_ret;exact⟨rfl,Fr.refl _ _⟩}
 {
 have e1:lK t m=7:=qC h2;rw[e1]at HA;have e3:iK m now t=false:=qF fun h=>h2 h.2.1;rw[e3];clear e1 e3 h1 h2;generalize tU t m=x at *;go_enter Tryz.func89,Tryz.ntmps89
 go_wp2_with fail
 refine HV.out.mono ?_;rintro _ w ⟨rfl,rfl⟩;go_wp2_with fail
 refine HA.out.mono ?_;rintro _ w ⟨rfl,rfl⟩;go_wp2
 go_ret;exact⟨rfl,Fr.refl _ _⟩}}
 {
 have d1:decide (t>now)=true:=qG (by omega);have e3:iK m now t=false:=qF fun h=>h1 h.1;rw[e3];clear h1 e3 HA;go_enter Tryz.func89,Tryz.ntmps89
 go_wp2_with fail
 refine HV.out.mono ?_;rintro _ w ⟨rfl,rfl⟩;go_wp2
 go_ret;exact⟨rfl,Fr.refl _ _⟩}
theorem aKN(m D E V:Int)(g:Nat)(w:World)(h:lO m E V D=false):
    Calls Tryz.prog 46 #[.agg #[.int .i64 m,.int .i64 E,.int .i64 V,.int .i64 D],.int .u64 g] w fun e w' =>e=.returned (.tuple #[.pointer none,.int .i64 2])/\Fr [] w w' :=by
 have HC:=aCY m E V D (w.alloc (.cells #[.int .i64 m,.int .i64 E,.int .i64 V,.int .i64 D] 31));rw[h]at HC;have HC:=qA HC;have hb:=Blk.new w [.int .i64 m,.int .i64 E,.int .i64 V,.int .i64 D] 31;have x0:=hb.cell 0;have x1:=hb.cell 1;have x2:=hb.cell 2;have x3:=hb.cell 3;simp only[zI,zJ]at x0 x1 x2 x3;clear hb h;go_enter Tryz.func46,Tryz.ntmps46
 go_wp2_with fail
 refine HC.out.mono ?_;rintro _ w1 ⟨rfl,hF⟩;have HF:=qA (((Fr.refl [] w).alloc _).trans' hF);clear hF x0 x1 x2 x3;go_wp2
 go_ret2;exact⟨rfl,HF.out⟩
def Wm.putT(W:Wm)(u v:Nat)(wt t:Int)(a b:Nat):Wm:={ W with s:=W.s.ins u v wt t (t+W.m),Q:=fun j=>if j=W.s.slot then some (t+W.m) else W.Q j,G:=fun j=>if j=W.s.slot then some (a,b,t+W.m) else W.G j }
theorem Wm.putT_ok{W:Wm}(h:W.Ok){u v:Nat}(hu:u<18446744073709551616)(hv:v<18446744073709551616)(wt t:Int)(h0:0<=t)(h1:t<=W.now)(h2:W.now<t+W.m)(hlt:∀e∈W.s.L,e.t<=t)(hc:W.s.chk u v=0)(hl:W.s.last<9223372036854775807){a b:Nat}
    (ha:(W.s.ins u v wt t (t+W.m)).M.find u=some a) (hb:(W.s.ins u v wt t (t+W.m)).M.find v=some b):(W.putT u v wt t a b).Ok:=by
 have hL:(W.putT u v wt t a b).s.L=W.s.L++[W.s.edge u v wt t (t+W.m)]:=rfl;refine⟨Sm.ok_ins h.ok hu hv hc (by omega) wt t (t+W.m),h.hV,h.hE,h.lk.ins h.ok hu hv hc wt t (t+W.m) ha hb,fun e he=>?_,?_,fun i hi=>?_,?_,?_,h.m1,h.m2,h.n0,h.n1⟩
 {
 rw[hL,qE,qH]at he;rcases he with he|rfl
 · exact h.x e he
 · exact⟨rfl,h0,h1,h2⟩}
 {
 rw[hL,List.pairwise_append];exact⟨h.mono,by simp,fun d hd e he=>by
   rw[qH]at he;subst he;exact hlt d hd⟩}
 {
 have hi' :i<(W.s.L++[W.s.edge u v wt t (t+W.m)]).length:=hi;show((W.s.L++[W.s.edge u v wt t (t+W.m)])[i]'hi').seq=W.gone+i+1
 rw[List.getElem_append];split
 · exact h.num i _
 {
 have:i=W.s.L.length:=by simp at hi'; omega
 subst this;simp only[Nat.sub_self,List.getElem_singleton];show W.s.last+1=_
 rw[h.last]}}
 {
 show W.s.last+1=W.gone+(W.s.L++[W.s.edge u v wt t (t+W.m)]).length
 rw[h.last];simp;omega}
 {
 show W.s.last+1<=_
 omega}
def Ob.putT(o:Ob)(u v:Nat)(wt t:Int):Ob:={ o with L:=o.L++[⟨0,o.last+1,u,v,wt,t,t+o.m⟩],last:=o.last+1 }
theorem aOL{W:Wm}(u v:Nat)(wt t:Int)(a b:Nat):(W.putT u v wt t a b).ob=W.ob.putT u v wt t:=by
 show Ob.mk _ _ _ _ _ ((W.s.L++[W.s.edge u v wt t (t+W.m)]).map nR) (W.s.last+1) _=_
 rw[List.map_append];rfl
def Ob.chkO(o:Ob)(u v:Nat):Nat:=if u=v then 9 else if o.E<=o.L.length then 12 else if o.V<(Ob.idsUV o.L u v).length then 11 else 0
theorem aEX{W:Wm}(h:W.Ok)(u v:Nat):W.s.chk u v=W.ob.chkO u v:=by
 by_cases hne:u=v
 · unfold Sm.chk Ob.chkO;rw[qD hne,qD hne]
 · rw[aKJ h u v hne];unfold Ob.chkO;rw[qC hne];rfl
abbrev R4:=Nat×Nat×Int×Int
def Ob.resOk(o:Ob)(last:Int)(r:R4):Bool:=decide (last<=r.2.2.2)&&(iK o.m o.now r.2.2.2&&decide (o.chkO r.1 r.2.1=0))
def Ob.resL:Ob->Int->List R4->Option Ob
  | o,_,[]=>some o
  | o,last,r::rs=>if o.resOk last r=true then(o.putT r.1 r.2.1 r.2.2.1 r.2.2.2).resL r.2.2.2 rs else none
def Ob.at(m:Int)(E V:Nat)(D:Int)(now:Int)(g:Nat):Ob:=⟨m,E,V,D,now,[],g,g⟩
def iD(m E V D now:Int)(g:Nat)(l:List R4):Option Ob:=
  if g<=9223372036854775807/\lO m E V D=true/\(l.length:Int)<=E/\l.length<=9223372036854775807-g/\dI m 0 now=0 then(Ob.at m E.toNat V.toNat D now g).resL 0 l else none
def fC:List Nat:=[83,69,69,80,1]
def aD(x:Int):Nat:=(x%18446744073709551616).toNat
def bJ(x:Nat):Int:=if x<9223372036854775808 then x else(x:Int)-18446744073709551616
theorem dY(x:Int):aD x<18446744073709551616:=by unfold aD;omega
theorem aKO{x:Nat}(h:x<18446744073709551616):aD (x:Int)=x:=by unfold aD;omega
theorem cY{x:Int}(h1:-9223372036854775808<=x)(h2:x<=9223372036854775807):bJ (aD x)=x:=by unfold bJ aD;split<;>omega
theorem wA{x:Nat}(h:x<18446744073709551616):aD (bJ x)=x:=by unfold bJ aD;split<;>omega
theorem gQ(x:Nat)(h:x<18446744073709551616):-9223372036854775808<=bJ x/\bJ x<=9223372036854775807:=by unfold bJ;split<;>omega
def oT(r:R4):List Nat:=beN 8 r.1++beN 8 r.2.1++beN 8 (aD r.2.2.1)++beN 8 (aD r.2.2.2)
def aY(l:List R4):List Nat:=l.flatMap oT
def gY(m E V D:Int):List Nat:=beN 8 (aD m)++beN 8 (aD E)++beN 8 (aD V)++beN 8 (aD D)
def lvR(e:Lv):R4:=(e.u,e.v,e.wt,e.t)
def gZ(m E V D now:Int)(a g:Nat):List Nat:=fC++gY m E V D++(beN 8 (aD now)++beN 8 a++beN 8 g)
def aO(m E V D now:Int)(a g:Nat)(l:List R4):List Nat:=gZ m E V D now a g++aY l
def jJ(l:List Nat):List Nat:=l++beN 4 (crc l)
def Ob.img(o:Ob):List Nat:=jJ (aO o.m o.E o.V o.D o.now o.last o.gone (o.L.map lvR))
theorem aAX(r:R4):(oT r).length=32:=by simp only[oT,zE,aH]
theorem mH(l:List R4):(aY l).length=32*l.length:=by
 induction l with
 | nil=>rfl
 | cons r l ih=>show(oT r++aY l).length=_;rw[zE,aAX,ih,qY];omega
theorem aA(m E V D:Int):(gY m E V D).length=32:=by simp only[gY,zE,aH]
theorem iA(m E V D now:Int)(a g:Nat):(gZ m E V D now a g).length=61:=by simp only[gZ,zE,aA,aH];rfl
theorem dW(m E V D now:Int)(a g:Nat)(l:List R4):(aO m E V D now a g l).length=61+32*l.length:=by rw[aO,zE,iA,mH]
theorem tY(l:List Nat):(jJ l).length=l.length+4:=by rw[jJ,zE,aH]
theorem aKP:Byt fC:=by unfold fC Byt;decide
theorem aKQ(r:R4):Byt (oT r):=((cP _ _).app (cP _ _)).app (cP _ _) |>.app (cP _ _)
theorem aGY(l:List R4):Byt (aY l):=fun b hb=>by
 obtain⟨r,_,h⟩:=List.mem_flatMap.1 hb;exact aKQ r b h
theorem aGZ(m E V D:Int):Byt (gY m E V D):=((cP _ _).app (cP _ _)).app (cP _ _) |>.app (cP _ _)
theorem aCZ(m E V D now:Int)(a g:Nat):Byt (gZ m E V D now a g):=(aKP.app (aGZ _ _ _ _)).app (((cP _ _).app (cP _ _)).app (cP _ _))
theorem gT(m E V D now:Int)(a g:Nat)(l:List R4):Byt (aO m E V D now a g l):=(aCZ _ _ _ _ _ _ _).app (aGY l)
theorem aAY{l:List Nat}(h:Byt l):Byt (jJ l):=h.app (cP _ _)
def sub(b:List Nat)(i n:Nat):List Nat:=(b.drop i).take n
def cR:Nat->List Nat->List R4
  | 0,_=>[]
  | n+1,b=>(aI (sub b 0 8),aI (sub b 8 8),bJ (aI (sub b 16 8)),bJ (aI (sub b 24 8)))::cR n (b.drop 32)
def cX(b:List Nat):Int×Option Ob:=
  if b.length<65∨b.take 5≠fC then(15,none)
  else if aI (b.drop (b.length-4))≠crc (b.take (b.length-4)) then(17,none)
  else
    let a:=aI (sub b 45 8)
    let g:=aI (sub b 53 8)
    if a<g∨(b.length-65)%32≠0∨(b.length-65)/32≠a-g then(15,none)
    else
      match iD (bJ (aI (sub b 5 8))) (bJ (aI (sub b 13 8))) (bJ (aI (sub b 21 8))) (bJ (aI (sub b 29 8))) (bJ (aI (sub b 37 8))) g (cR (a-g) (b.drop 61)) with
      | none=>(2,none)
      | some o=>(0,some o)
end Go.Proofs.YtjdgpcjbgjnahaaGreatDoor
