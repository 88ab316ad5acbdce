/- forest: Edges. -/
import Derived.Test.YtgmnemndjjmgkaaGreatB6
import Derived.Test.YtgmnemndjjmgkaaGreatB3
import Derived.BigQuiet
import Derived.WalkSpells
import Derived.Test.YtgmnemndjjmgkaaGreatB2
import Derived.Deep.RegionHeld3
import Derived.Maps.RangeWalk
import Derived.Shelf.Sort.Plain
import Derived.Shelf.Lay
import Derived.Shelf.Small.Bits
import Derived.Ground.NamesProg
import Derived.Sort.OwnSortedInts
import Derived.Test.YtgmnemndjjmgkaaGreatB1
set_option maxRecDepth 10000
set_option maxHeartbeats 1600000
set_option linter.unusedSimpArgs false
set_option linter.unusedVariables false
/- The heap: swap, above, below. -/
namespace Go.Proofs.YtgmnemndjjmgkaaGreat
open Go.RowKit
theorem aUF(e:Nat->Nat×Int)(p q:Nat):mW (mW e p (e q)) q (e p)=iM e p q:=by
 funext x
 unfold mW iM;by_cases h1:x=p
 {
 by_cases h2:x=q
 · rw[qI h2,qI h1];rw[<-h1,<-h2]
 · rw[qH h2,qI h1,qI h1]}
 {
 by_cases h2:x=q
 · rw[qI h2,qH h1,qI h2]
 · rw[qH h2,qH h1,qH h1,qH h2]}
section
variable {w w' :World} {ph slots n:Nat} {e:Nat->Nat×Int} {pl:Nat->Nat} {v:Value} {gp cp:Nat} {bs:Nat->Option Nat}
theorem HM.st{g cap:Nat}(h:HM w ph slots n e pl (.slice (some ⟨g,0,none⟩) n cap) gp cp bs){p:Nat}(hp:p<n)(x:Nat×Int):
    HM ((w.setCell ⟨g,p*2,none⟩ (.int .i64 (x.1:Int))).setCell ⟨g,p*2+1,none⟩ (.int .i64 x.2)) ph slots n (mW e p x) pl (.slice (some ⟨g,0,none⟩) n cap) gp cp bs:=by
 have a2:=h.ap2;have a3:=h.ap3;simp only[Value.ownBlock,ne_eq,qQ]at a2 a3;refine⟨(h.hd.other _ _ (fun e=>a2 e.symm)).other _ _ (fun e=>a2 e.symm),?_,(h.dir.other _ _ (fun e=>a3 e.symm)).other _ _ (fun e=>a3 e.symm),fun k b hk hb=>?_,h.none_,h.le,h.nb,h.pb,h.ap1,h.ap2,h.ap3,h.ap4,h.ap5⟩
 {
 have:=rB (i:=p*2+1) (rB (i:=p*2) h.items (.int .i64 (x.1:Int))) (.int .i64 x.2);rw[aPH hp]at this;exact this}
 {
 have a4:=(h.ap4 k b hk hb).2.2;simp only[Value.ownBlock,ne_eq,qQ]at a4;exact((h.some_ k b hk hb).other _ _ (fun e=>a4 e.symm)).other _ _ (fun e=>a4 e.symm)}
theorem aGW(h:HM w ph slots n e pl v gp cp bs){p q:Nat}(hp:p<n)(hq:q<n)(hlt:∀x,x<n->(e x).1<slots):
    Calls Tryz.prog 175 #[aL ph,.int .i64 p,.int .i64 q] w fun e' w' =>e' =.returned (.tuple #[])/\∃bs', HM w' ph slots n (iM e p q) (lN (lN pl (e q).1 (p+1)) (e p).1 (q+1)) v gp cp bs' /\
      Fr (hB slots ph v gp bs) w w' /\ ∀b∈hB slots ph v gp bs', b∈hB slots ph v gp bs∨w.heap.size<=b:=by
 have hnb:=h.nb;have c2:=h.hd.cell 2;simp only[zS,zT]at c2;obtain⟨g,cap,rfl,_,hgl,p0,p1,fz⟩:=iN h.items hp;obtain⟨g', cap', e1,_,_,q0,q1,_⟩:=iN h.items hq;simp only[qY,qQ,Addr.mk.injEq,and_true,true_and]at e1;obtain⟨rfl,rfl⟩:=e1;have fzp0:=fz (p*2);have fzp1:=fz (p*2+1);have hp1:(p:Int)<n:=by omega
 have hq1:(q:Int)<n:=by omega
 have hp0:(0:Int)<=p:=by omega
 have hq0:(0:Int)<=q:=by omega
 have hmem:g∈hB slots ph (.slice (some ⟨g,0,none⟩) n cap) gp bs:=by simp[hB,Value.ownBlock]
 have Hlt:=qB (zR (hlt p hp) (hlt q hq));clear hlt;have HH:=qB h;clear h fz;go_enter Tryz.func175,Tryz.ntmps175
 go_wp2
 refine mM [25,27] [9] (fun k w' =>match k with
   | 0=>∃m,w' =w.drewN m
   | 1=>HM w' ph slots n (mW e p (e q)) pl (.slice (some ⟨g,0,none⟩) n cap) gp cp bs/\Fr (hB slots ph (.slice (some ⟨g,0,none⟩) n cap) gp bs) w w'
   | _=>HM w' ph slots n (iM e p q) pl (.slice (some ⟨g,0,none⟩) n cap) gp cp bs/\Fr (hB slots ph (.slice (some ⟨g,0,none⟩) n cap) gp bs) w w') (fun w' =>Iff.rfl) (by kernel_rfl) (by kernel_rfl) (by kernel_rfl) ?_
 iterate 9 (refine iZ (by decide) (fun K hK=>?_);go_simp;refine hK _ ?_;clear hK K)
 refine gT (by decide) (fun K hK=>?_);go_simp;refine hK _ ?_;clear hK K;iterate 15 (refine iZ (by decide) (fun K hK=>?_);go_simp;refine hK _ ?_;clear hK K)
 refine fW (q:=0) (by decide) rfl undef (fun w' hw' =>?_) ?_
 {
 obtain⟨nq,rfl⟩:=hw';go_simp;exact⟨(HH.out.fr0 ((Fr.refl _ _).drewN nq)).st hp (e q),(((Fr.refl _ w).drewN nq).setCell _ _ (.inl hmem)).setCell _ _ (.inl hmem)⟩};iterate 1 (refine gT (by decide) (fun K hK=>?_);go_simp;refine hK _ ?_;clear hK K)
 refine fW (q:=1) (by decide) rfl undef (fun w' hw' =>?_) ?_
 {
 obtain⟨hA,hB'⟩:=hw';obtain⟨g', cap', e1,_,_,b0,b1,fz'⟩:=iN hA.items hq;simp only[qY,qQ,Addr.mk.injEq,and_true,true_and]at e1;obtain⟨rfl,rfl⟩:=e1;have fzq0:=fz' (q*2);have fzq1:=fz' (q*2+1);clear fz';go_simp;have h2:=hA.st hq (e p);rw[aUF]at h2;exact⟨h2,(hB'.setCell _ _ (.inl hmem)).setCell _ _ (.inl hmem)⟩};refine rY ?_;rintro w2 ⟨h2,f2⟩;clear p0 p1 q0 q1 c2 fzp0 fzp1 HH;have c2:=h2.hd.cell 2;simp only[zS,zT]at c2;obtain⟨g', cap', e1,_,_,p0,_,_⟩:=iN h2.items hp;simp only[qY,qQ,Addr.mk.injEq,and_true,true_and]at e1;obtain⟨rfl,rfl⟩:=e1;rw[fR]at p0;have HP:=qB (aIU h2 Hlt.out.2 (x:=p+1) (by omega) (p:Int) (by omega));have HF2:=qB f2;clear f2 h2;go_wp2_with fail
 refine HP.out.mono ?_;rintro _ w3 ⟨rfl,bs3,h3,f3,s3⟩;have hs2:=HF2.out.size;have HF3:=qB (HF2.out.trans' f3);have HS3:Hid (∀b∈hB slots ph (.slice (some ⟨g,0,none⟩) n cap) gp bs3,b∈hB slots ph (.slice (some ⟨g,0,none⟩) n cap) gp bs∨w.heap.size<=b):=qB (fun b hb=>(s3 b hb).imp (fun h=>h) (fun h=>by omega));clear c2 p0 HP f3 s3;have c2:=h3.hd.cell 2;simp only[zS,zT]at c2;obtain⟨g', cap', e1,_,_,q0,_,_⟩:=iN h3.items hq;simp only[qY,qQ,Addr.mk.injEq,and_true,true_and]at e1;obtain⟨rfl,rfl⟩:=e1;rw[lL]at q0;have HP:=qB (aIU h3 Hlt.out.1 (x:=q+1) (by omega) (q:Int) (by omega));clear h3;go_wp2_with fail
 refine HP.out.mono ?_;rintro _ w4 ⟨rfl,bs4,h4,f4,s4⟩;have hs3:=HF3.out.size;have H4:=qB (zR h4 (zR (HF3.out.trans f4 (fun b hb=>HS3.out b hb)) (show ∀b∈hB slots ph (.slice (some ⟨g,0,none⟩) n cap) gp bs4,b∈hB slots ph (.slice (some ⟨g,0,none⟩) n cap) gp bs∨w.heap.size<=b from fun b hb=>(s4 b hb).elim (HS3.out b) (fun h=>.inr (by omega)))));clear h4 f4 s4;go_wp2
 go_end0
 exact⟨rfl,bs4,H4.out⟩
end
def rD(e:Nat->Nat×Int)(p:Nat):Int:=if 0<p/\elt (e p) (e ((p-1)/2)) then((p-1)/2:Nat) else -1
def sJ(n:Nat)(e:Nat->Nat×Int)(p:Nat):Int:=if blw n e p=p then -1 else(blw n e p:Nat)
def lX(n:Nat)(e:Nat->Nat×Int)(p k:Nat):Nat:=if k=0 then p else if k=1 then aDZ n e p else blw n e p
theorem aBQ(n:Nat)(e:Nat->Nat×Int)(p:Nat):lX n e p 0=p:=by simp[lX]
theorem aBR(n:Nat)(e:Nat->Nat×Int)(p:Nat):lX n e p 1=aDZ n e p:=by simp[lX]
theorem aGX(n:Nat)(e:Nat->Nat×Int)(p:Nat):lX n e p 2=blw n e p:=by simp[lX]
theorem aEA{n:Nat}{e:Nat->Nat×Int}{p k q:Nat}(hk:k<2)(hq:q=2*p+1+k)(h:q<n/\elt (e q) (e (lX n e p k))):lX n e p (k+1)=q:=by
 subst hq;rcases(show k=0∨k=1 by omega) with rfl|rfl
 · rw[aBQ]at h;rw[aBR];unfold aDZ;rw[qI h]
 · rw[aBR]at h;rw[aGX];unfold blw;rw[qI h]
theorem aIV{n:Nat}{e:Nat->Nat×Int}{p k q:Nat}(hk:k<2)(hq:q=2*p+1+k)(h:¬(q<n/\elt (e q) (e (lX n e p k)))):lX n e p (k+1)=lX n e p k:=by
 subst hq;rcases(show k=0∨k=1 by omega) with rfl|rfl
 · rw[aBQ]at h ⊢;rw[aBR];unfold aDZ;rw[qH h]
 · rw[aBR]at h ⊢;rw[aGX];unfold blw;rw[qH h]
theorem aUG{n:Nat}{e:Nat->Nat×Int}{p k:Nat}(hp:p<n)(hk:k<=2):lX n e p k<n:=by
 induction k with
 | zero=>rw[aBQ];exact hp
 | succ k ih=>{
 by_cases h:2*p+1+k<n/\elt (e (2*p+1+k)) (e (lX n e p k))
 · rw[aEA (by omega) rfl h];exact h.1
 · rw[aIV (by omega) rfl h];exact ih (by omega)}
section
variable {w w' :World} {ph slots n:Nat} {e:Nat->Nat×Int} {pl:Nat->Nat} {v:Value} {gp cp:Nat} {bs:Nat->Option Nat}
theorem aBS(h:HM w ph slots n e pl v gp cp bs){p:Nat}(hp:p<n):
    Calls Tryz.prog 205 #[aL ph,.int .i64 p] w fun e' w' =>e' =.returned (.int .i64 (rD e p))/\Fr [] w w' :=by
 have hnb:=h.nb;have c2:=h.hd.cell 2;simp only[zS,zT]at c2;by_cases h0:p=0
 {
 subst h0;have e1:rD e 0=-1:=by unfold rD;rw[qH (by omega)]
 rw[e1];clear e1 h;have t1:decide (((0:Nat):Int)>0)=false:=by decide
 have t1' :decide ((0:Int)>0)=false:=by decide
 go_enter Tryz.func205,Tryz.ntmps205
 go_wp2
 go_quiet (fail)
 go_wp2
 go_ret;exact⟨rfl,(Fr.refl _ _).drewN _⟩}
 {
 obtain⟨q,hq⟩:∃q,q=(p-1)/2:=⟨_,rfl⟩;have hqi:((p:Int)-1)/2=(q:Int):=by omega
 have hqn:q<n:=by omega
 obtain⟨g,cap,rfl,_,hgl,p0,p1,_⟩:=iN h.items hp;obtain⟨g', cap', e1,_,_,q0,q1,_⟩:=iN h.items hqn;simp only[qY,qQ,Addr.mk.injEq,and_true,true_and]at e1;obtain⟨rfl,rfl⟩:=e1;have HO:=qB (fun W=>aIS (e p) (e q) W);have hp1:(p:Int)<n:=by omega
 have hq1:(q:Int)<n:=by omega
 have hp0:(0:Int)<=p:=by omega
 have hq0:(0:Int)<=q:=by omega
 have t1:decide (0<p)=true:=qO (by omega);have hcase:(wC (e p) (e q)<0/\rD e p=q)∨(¬wC (e p) (e q)<0/\rD e p=-1):=by {
 rw[aIR];unfold rD;rw[<-hq];by_cases hl:elt (e p) (e q)
 · exact .inl ⟨hl,by rw[qI ⟨by omega,hl⟩]⟩
 · exact .inr ⟨hl,by rw[qH (fun h=>hl h.2)]⟩};have HQ:=qB hq;clear hq h;generalize wC (e p) (e q)=r at *;generalize e p=x at *;generalize e q=y at *;obtain⟨x1,x2⟩:=x;obtain⟨y1,y2⟩:=y;rcases hcase with⟨hr,ha⟩|⟨hr,ha⟩
 {
 have t2:decide (r<0)=true:=qO hr;have HA:=qB ha;clear ha hr;go_enter Tryz.func205,Tryz.ntmps205
 go_wp2
 go_region_held3 (fun w' => w'.cell? ⟨ph, 2, none⟩ = some (.slice (some ⟨g, 0, none⟩) n cap) /\ w'.cell? ⟨g, p * 2, none⟩ = some (.int .i64 x1) /\ w'.cell? ⟨g, p * 2 + 1, none⟩ = some (.int .i64 x2) /\ w'.cell? ⟨g, q * 2, none⟩ = some (.int .i64 y1) /\ w'.cell? ⟨g, q * 2 + 1, none⟩ = some (.int .i64 y2))
   (first
     | go_keep
     | (exact⟨hF3.cell (by assumption) (by simp),hF3.cell (by assumption) (by simp),hF3.cell (by assumption) (by simp),hF3.cell (by assumption) (by simp),hF3.cell (by assumption) (by simp)⟩))
   (first
     | (go_at_call 224;refine(HO.out _).mono ?_;rintro e w3 ⟨rfl,hF3⟩))
 go_wp2
 go_ret;exact⟨by rw[HA.out];rfl,((Fr.refl [] w).drew).trans' hF3⟩}
 {
 have t2:decide (r<0)=false:=qK hr;have HA:=qB ha;clear ha hr;go_enter Tryz.func205,Tryz.ntmps205
 go_wp2
 go_region_held3 (fun w' => w'.cell? ⟨ph, 2, none⟩ = some (.slice (some ⟨g, 0, none⟩) n cap) /\ w'.cell? ⟨g, p * 2, none⟩ = some (.int .i64 x1) /\ w'.cell? ⟨g, p * 2 + 1, none⟩ = some (.int .i64 x2) /\ w'.cell? ⟨g, q * 2, none⟩ = some (.int .i64 y1) /\ w'.cell? ⟨g, q * 2 + 1, none⟩ = some (.int .i64 y2))
   (first
     | go_keep
     | (exact⟨hF3.cell (by assumption) (by simp),hF3.cell (by assumption) (by simp),hF3.cell (by assumption) (by simp),hF3.cell (by assumption) (by simp),hF3.cell (by assumption) (by simp)⟩))
   (first
     | (go_at_call 224;refine(HO.out _).mono ?_;rintro e w3 ⟨rfl,hF3⟩))
 go_wp2
 go_ret;exact⟨by rw[HA.out];rfl,((Fr.refl [] w).drew).trans' hF3⟩}}
theorem aIW(h:HM w ph slots n e pl v gp cp bs){p:Nat}(hp:p<n):
    Calls Tryz.prog 206 #[aL ph,.int .i64 p] w fun e' w' =>e' =.returned (.int .i64 (sJ n e p))/\Fr [] w w' :=by
 have hnb:=h.nb;have c2:=h.hd.cell 2;simp only[zS,zT]at c2;obtain⟨g,cap,rfl,_,hgl,_,_,_⟩:=iN h.items hp;have HE:Hid (∀(W:World) (x:Nat),Fr [] w W->x<n->W.cell? ⟨g,x*2,none⟩=some (.int .i64 ((e x).1:Int))/\W.cell? ⟨g,x*2+1,none⟩=some (.int .i64 (e x).2)):=qB (fun W x hf hx=>by
   obtain⟨g', cap', e1,_,_,q0,q1,_⟩:=iN (h.fr0 hf).items hx;simp only[qY,qQ,Addr.mk.injEq,and_true,true_and]at e1;obtain⟨rfl,rfl⟩:=e1;exact⟨q0,q1⟩)
 have HC:Hid (∀(W:World),Fr [] w W->W.cell? ⟨ph,2,none⟩=some (.slice (some ⟨g,0,none⟩) n cap)):=qB (fun W hf=>hf.cell c2 (by simp));have HO:=qB (fun(a b:Nat×Int) (W:World)=>aIS a b W);clear h c2;go_enter Tryz.func206,Tryz.ntmps206
 go_wp2
 go_loopw [5,9] (fun sf sk wr=>∃k:Nat,k<=2/\sk=.int .i64 k/\sf=.int .i64 (lX n e p k:Nat)/\Hid (Fr [] w wr)) (fun _ sk _=>2-(intOf sk).toNat)
 case atStart=>exact⟨0,by omega,rfl,by rw[aBQ],qB (Fr.refl _ _)⟩
 case round=>
  obtain⟨k,hk,rfl,rfl,HF⟩:=hrel;have hfl:=aUG (e:=e) hp hk;by_cases hk2:k<2
  {
  obtain⟨q,hq⟩:∃q,q=2*p+1+k:=⟨_,rfl⟩;have hqi:2*(p:Int)+1+(k:Int)=(q:Int):=by omega
  have hki:(k:Int)<2:=by omega
  have Hy:=qB (fun(h:q<n/\elt (e q) (e (lX n e p k)))=>aEA hk2 hq h);have Hn:=qB (fun(h:¬(q<n/\elt (e q) (e (lX n e p k))))=>aIV hk2 hq h);have HQ:=qB hq;clear hq;have c2:=HC.out _ HF.out;have hq0:(0:Int)<=q:=by omega
  generalize hF1:lX n e p (k+1)=f1 at *;have HF1:=qB hF1;clear hF1;generalize lX n e p k=f0 at *;have hf0:(0:Int)<=f0:=by omega
  have hf1:(f0:Int)<n:=by omega
  by_cases hqn:q<n
  {
  have hqn1:(q:Int)<n:=by omega
  have t1:decide (q<n)=true:=qO hqn;obtain⟨q0,q1⟩:=HE.out _ q HF.out hqn;obtain⟨p0,p1⟩:=HE.out _ f0 HF.out hfl;have HO2:=qB (fun W=>HO.out (e q) (e f0) W);have hcase:(wC (e q) (e f0)<0/\f1=q)∨(¬wC (e q) (e f0)<0/\f1=f0):=by {
  rw[aIR];by_cases hl:elt (e q) (e f0)
  · exact .inl ⟨hl,Hy.out ⟨hqn,hl⟩⟩
  · exact .inr ⟨hl,Hn.out (fun h=>hl h.2)⟩};clear Hy Hn;generalize wC (e q) (e f0)=r at *;generalize e q=x at *;generalize e f0=y at *;obtain⟨x1,x2⟩:=x;obtain⟨y1,y2⟩:=y;rcases hcase with⟨hr,ha⟩|⟨hr,ha⟩
  {
  have t2:decide (r<0)=true:=qO hr;have HA:=qB ha;clear ha hr;go_wp2
  go_region_held3 (fun w' => w'.cell? ⟨ph, 2, none⟩ = some (.slice (some ⟨g, 0, none⟩) n cap) /\ w'.cell? ⟨g, q * 2, none⟩ = some (.int .i64 x1) /\ w'.cell? ⟨g, q * 2 + 1, none⟩ = some (.int .i64 x2) /\ w'.cell? ⟨g, f0 * 2, none⟩ = some (.int .i64 y1) /\ w'.cell? ⟨g, f0 * 2 + 1, none⟩ = some (.int .i64 y2))
    (first
      | go_keep
      | (exact⟨hF3.cell (by assumption) (by simp),hF3.cell (by assumption) (by simp),hF3.cell (by assumption) (by simp),hF3.cell (by assumption) (by simp),hF3.cell (by assumption) (by simp)⟩))
    (first
      | (go_at_call 224;refine(HO2.out _).mono ?_;rintro e w3 ⟨rfl,hF3⟩))
  have HF3:=qB ((HF.out.drew).trans' hF3);clear hF3;go_wp2
  go_roundw
  case rel=>exact⟨k+1,by omega,by go_num,by rw[HF1.out,HA.out],HF3⟩
  case measure=>simp[intOf];omega}
  {
  have t2:decide (r<0)=false:=qK hr;have HA:=qB ha;clear ha hr;go_wp2
  go_region_held3 (fun w' => w'.cell? ⟨ph, 2, none⟩ = some (.slice (some ⟨g, 0, none⟩) n cap) /\ w'.cell? ⟨g, q * 2, none⟩ = some (.int .i64 x1) /\ w'.cell? ⟨g, q * 2 + 1, none⟩ = some (.int .i64 x2) /\ w'.cell? ⟨g, f0 * 2, none⟩ = some (.int .i64 y1) /\ w'.cell? ⟨g, f0 * 2 + 1, none⟩ = some (.int .i64 y2))
    (first
      | go_keep
      | (exact⟨hF3.cell (by assumption) (by simp),hF3.cell (by assumption) (by simp),hF3.cell (by assumption) (by simp),hF3.cell (by assumption) (by simp),hF3.cell (by assumption) (by simp)⟩))
    (first
      | (go_at_call 224;refine(HO2.out _).mono ?_;rintro e w3 ⟨rfl,hF3⟩))
  have HF3:=qB ((HF.out.drew).trans' hF3);clear hF3;go_wp2
  go_roundw
  case rel=>exact⟨k+1,by omega,by go_num,by rw[HF1.out,HA.out],HF3⟩
  case measure=>simp[intOf];omega}}
  {
  have t1:decide (q<n)=false:=qK hqn;have HA:=qB (Hn.out (fun h=>hqn h.1));clear Hy Hn hqn;go_wp2
  go_quiet (fail)
  go_wp2
  go_roundw
  case rel=>exact⟨k+1,by omega,by go_num,by rw[HF1.out,HA.out],qB (HF.out.drewN _)⟩
  case measure=>simp[intOf];omega}}
  {
  obtain rfl:k=2:=by omega
  rw[aGX]at *;have hres:(blw n e p=p/\sJ n e p=-1)∨(blw n e p≠p/\sJ n e p=(blw n e p:Nat)):=by {
  unfold sJ;by_cases hb:blw n e p=p
  · exact .inl ⟨hb,by rw[qI hb]⟩
  · exact .inr ⟨hb,by rw[qH hb]⟩};generalize blw n e p=b at *;rcases hres with⟨hb,hr⟩|⟨hb,hr⟩
  {
  have t1:((b:Int) == (p:Int))=true:=by simp;omega
  have HR:=qB hr;clear hr hb;go_wp2
  go_ret;exact⟨by rw[HR.out];rfl,HF.out⟩}
  {
  have t1:((b:Int) == (p:Int))=false:=by simp;omega
  have HR:=qB hr;clear hr hb;go_wp2
  go_ret;exact⟨by rw[HR.out];rfl,HF.out⟩}}
end
structure Sft (W w:World) (ph slots n:Nat) (e0 e:Nat->Nat×Int) (pl:Nat->Nat) (v:Value) (gp cp:Nat) (bs0 bs:Nat->Option Nat) (b1 b2 p:Nat):Prop where
  hm:HM w ph slots n e pl v gp cp bs
  ok:lM slots n e pl
  mem:∀y,(∃x,x<n/\e x=y)↔∃x,x<n/\e0 x=y
  c1:Blk w b1 122 [aL ph]
  c2:Blk w b2 3 [.int .i64 p]
  a1:b1∉hB slots ph v gp bs
  a2:b2∉hB slots ph v gp bs
  a12:b1≠b2
  fr:Fr (b2::hB slots ph v gp bs0) W w
  new:∀b∈hB slots ph v gp bs,b∈hB slots ph v gp bs0∨W.heap.size<=b
  lt:p<n
section
variable {W w w' :World} {ph slots n:Nat} {e0 e:Nat->Nat×Int} {pl:Nat->Nat} {v:Value} {gp cp:Nat} {bs0 bs:Nat->Option Nat} {b1 b2 p:Nat}
theorem Sft.keep(h:Sft W w ph slots n e0 e pl v gp cp bs0 bs b1 b2 p)(hf:Fr [] w w'):Sft W w' ph slots n e0 e pl v gp cp bs0 bs b1 b2 p:=
  ⟨h.hm.fr0 hf,h.ok,h.mem,hf.blk h.c1 (by simp),hf.blk h.c2 (by simp),h.a1,h.a2,h.a12,h.fr.trans' (hf.mono (by simp)),h.new,h.lt⟩
theorem Sft.step(h:Sft W w ph slots n e0 e pl v gp cp bs0 bs b1 b2 p){q:Nat}(hq:q<n){bs' :Nat->Option Nat}(hm:HM w' ph slots n (iM e p q) (lN (lN pl (e q).1 (p+1)) (e p).1 (q+1)) v gp cp bs')
    (hf:Fr (hB slots ph v gp bs) w w') (hn:∀b∈hB slots ph v gp bs', b∈hB slots ph v gp bs∨w.heap.size<=b):
    Sft W (w'.setCell ⟨b2,0,none⟩ (.int .i64 (q:Int))) ph slots n e0 (iM e p q) (lN (lN pl (e q).1 (p+1)) (e p).1 (q+1)) v gp cp bs0 bs' b1 b2 q:=by
 have k1:=h.c1.lt;have k2:=h.c2.lt;have hs:=hf.size;have hs0:=h.fr.size;have n1:b1∉hB slots ph v gp bs' :=fun hm=>(hn b1 hm).elim h.a1 (fun e=>by omega);have n2:b2∉hB slots ph v gp bs' :=fun hm=>(hn b2 hm).elim h.a2 (fun e=>by omega);have hset:Fr [b2] w' (w'.setCell ⟨b2,0,none⟩ (.int .i64 (q:Int))):=(Fr.refl _ _).setCell _ _ (.inl (by simp));refine⟨hm.fr hset (fun b hb hm=>?_),h.ok.swap h.lt hq,fun y=>(aPF h.lt hq y).trans (h.mem y),(hf.blk h.c1 h.a1).other _ _ h.a12,?_,n1,n2,h.a12,?_,fun b hb=>?_,hq⟩
 · simp at hm;subst hm;exact n2 hb
 · have:=(hf.blk h.c2 h.a2).set 0 (.int .i64 (q:Int));exact this
 {
 refine(h.fr.trans hf (fun b hb=>(h.new b hb).imp (fun e=>List.mem_cons_of_mem _ e) (fun e=>e))).trans' (hset.mono (fun b hb=>.inl ?_));simp at hb;subst hb;exact List.mem_cons_self}
 {
 rcases hn b hb with e|e
 · exact h.new b e
 · exact .inr (by omega)}
def msd(n:Nat):Value->Nat
  | .int _ x=>if x<0 then 0 else n-x.toNat
  | _=>0
theorem aUH(n:Nat):msd n (.int .i64 (-1))=0:=by simp[msd]
theorem aBT(n z:Nat):msd n (.int .i64 (z:Int))=n-z:=by
 show(if (z:Int)<0 then 0 else n-(z:Int).toNat)=n-z
 rw[qH (by omega)];simp
theorem bCC(e:Nat->Nat×Int){q:Nat}(_hq:q<n):blw n e q=q∨(q<blw n e q/\blw n e q<n):=by
 rcases yU n e q with h|⟨h1,h2,_⟩
 · exact .inl h
 · exact .inr ⟨by omega,h1⟩
theorem aUI(h:Sft W w ph slots n e0 e pl v gp cp bs0 bs b1 b2 p)(hu:UpI n e p):
    Calls Tryz.prog 204 #[.func (.func 205) #[aL ph] #[],aL b2,aL b1] w fun r w' =>r=.returned (.tuple #[])/\∃e' pl' bs' p', Sft W w' ph slots n e0 e' pl' v gp cp bs0 bs' b1 b2 p' /\ Hp n e' :=by
 have hnb:=h.hm.nb;have x1:=h.c1.cell 0;have x2:=h.c2.cell 0;simp only[zS]at x1 x2;have HA:=qB (aBS h.hm h.lt);have HS:=qB (zR h hu);clear h hu;go_enter Tryz.func204,Tryz.ntmps204
 go_wp2_with fail
 refine HA.out.mono ?_;rintro _ w1 ⟨rfl,hf1⟩;have HS1:=qB (zR (HS.out.1.keep hf1) HS.out.2);clear HS HA hf1 x1 x2;go_wp2
 go_loopw [4] (fun sq wr=>∃(e:Nat->Nat×Int) (pl:Nat->Nat) (bs:Nat->Option Nat) (p:Nat),sq=.int .i64 (rD e p)/\Hid (Sft W wr ph slots n e0 e pl v gp cp bs0 bs b1 b2 p/\UpI n e p)) (fun s _=>(intOf s+1).toNat)
 case atStart=>exact⟨e,pl,bs,p,rfl,HS1⟩
 case round=>
  clear HS1;obtain⟨e,pl,bs,p,rfl,HS⟩:=hrel;have hplt:=HS.out.1.lt;by_cases hc:0<p/\elt (e p) (e ((p-1)/2))
  {
  obtain⟨q,hq⟩:∃q,q=(p-1)/2:=⟨_,rfl⟩;have hv:rD e p=(q:Int):=by unfold rD;rw[qI hc,<-hq]
  have hqn:q<n:=by omega
  have hstep:=aTZ HS.out.2 hc.1 hplt hc.2;rw[<-hq]at hstep;have HC:=qB hc;clear hc hq;have x1:=HS.out.1.c1.cell 0;have x2:=HS.out.1.c2.cell 0;simp only[zS]at x1 x2;have HW:=qB (aGW HS.out.1.hm HS.out.1.lt hqn HS.out.1.ok.lt);have t1:((q:Int) != -1)=true:=by simp
  have Hv:=qB hv;rw[hv];clear hv;go_wp2_with fail
  refine HW.out.mono ?_;rintro _ w2 ⟨rfl,bs2,hm2,hf2,hn2⟩;have hS2:=HS.out.1.step hqn hm2 hf2 hn2;have y1:=(hf2.blk HS.out.1.c1 HS.out.1.a1).cell 0;have y2:=(hf2.blk HS.out.1.c2 HS.out.1.a2).cell 0;have z2:=(hf2.blk HS.out.1.c2 HS.out.1.a2).frozen 0;have u2:=hS2.c2.cell 0;simp only[zS]at y1 y2 u2;have HA2:=qB (aBS hS2.hm hS2.lt);have HS2:=qB (zR hS2 hstep);clear hm2 hf2 hn2 hS2 hstep HW x1 x2;go_wp2_with fail
  refine HA2.out.mono ?_;rintro _ w3 ⟨rfl,hf3⟩;have HS3:=qB (zR (HS2.out.1.keep hf3) HS2.out.2);clear HS2 HA2 hf3 y1 y2 z2 u2;go_wp2
  go_roundw
  case rel=>exact⟨_,_,_,q,rfl,HS3⟩
  case measure=>(simp only[intOf];unfold rD;split<;>omega)}
  {
  have hv:rD e p=-1:=by unfold rD;rw[qH hc]
  have hdone:=aTY HS.out.2 hc;have HD:=qB hdone;clear hdone;rw[hv];clear hv;go_wp2
  go_end0
  exact⟨rfl,e,pl,bs,p,HS.out.1,HD.out⟩}
theorem aIX(h:Sft W w ph slots n e0 e pl v gp cp bs0 bs b1 b2 p)(hu:DnI n e p):
    Calls Tryz.prog 204 #[.func (.func 206) #[aL ph] #[],aL b2,aL b1] w fun r w' =>r=.returned (.tuple #[])/\∃e' pl' bs' p', Sft W w' ph slots n e0 e' pl' v gp cp bs0 bs' b1 b2 p' /\ Hp n e' :=by
 have hnb:=h.hm.nb;have x1:=h.c1.cell 0;have x2:=h.c2.cell 0;simp only[zS]at x1 x2;have HA:=qB (aIW h.hm h.lt);have HS:=qB (zR h hu);clear h hu;go_enter Tryz.func204,Tryz.ntmps204
 go_wp2_with fail
 refine HA.out.mono ?_;rintro _ w1 ⟨rfl,hf1⟩;have HS1:=qB (zR (HS.out.1.keep hf1) HS.out.2);clear HS HA hf1 x1 x2;go_wp2
 go_loopw [4] (fun sq wr=>∃(e:Nat->Nat×Int) (pl:Nat->Nat) (bs:Nat->Option Nat) (p:Nat),sq=.int .i64 (sJ n e p)/\Hid (Sft W wr ph slots n e0 e pl v gp cp bs0 bs b1 b2 p/\DnI n e p)) (fun s _=>msd n s)
 case atStart=>exact⟨e,pl,bs,p,rfl,HS1⟩
 case round=>
  clear HS1;obtain⟨e,pl,bs,p,rfl,HS⟩:=hrel;have hplt:=HS.out.1.lt;by_cases hc:blw n e p≠p
  {
  obtain⟨q,hq⟩:∃q,q=blw n e p:=⟨_,rfl⟩;have hv:sJ n e p=(q:Int):=by unfold sJ;rw[qH hc,<-hq]
  obtain⟨hstep,hpq,hqn⟩:=aUC HS.out.2 hc;rw[<-hq]at hstep hpq hqn;have HC:=qB hc;clear hc hq;have x1:=HS.out.1.c1.cell 0;have x2:=HS.out.1.c2.cell 0;simp only[zS]at x1 x2;have HW:=qB (aGW HS.out.1.hm HS.out.1.lt hqn HS.out.1.ok.lt);have t1:((q:Int) != -1)=true:=by simp
  have Hv:=qB hv;rw[hv];clear hv;go_wp2_with fail
  refine HW.out.mono ?_;rintro _ w2 ⟨rfl,bs2,hm2,hf2,hn2⟩;have hS2:=HS.out.1.step hqn hm2 hf2 hn2;have y1:=(hf2.blk HS.out.1.c1 HS.out.1.a1).cell 0;have y2:=(hf2.blk HS.out.1.c2 HS.out.1.a2).cell 0;have z2:=(hf2.blk HS.out.1.c2 HS.out.1.a2).frozen 0;have u2:=hS2.c2.cell 0;simp only[zS]at y1 y2 u2;have HA2:=qB (aIW hS2.hm hS2.lt);have HS2:=qB (zR hS2 hstep);clear hm2 hf2 hn2 hS2 hstep HW x1 x2;go_wp2_with fail
  refine HA2.out.mono ?_;rintro _ w3 ⟨rfl,hf3⟩;have HS3:=qB (zR (HS2.out.1.keep hf3) HS2.out.2);clear HS2 HA2 hf3 y1 y2 z2 u2;go_wp2
  go_roundw
  case rel=>exact⟨_,_,_,q,rfl,HS3⟩
  case measure=>
   rcases bCC (iM e p q) hqn with hb|⟨hb,hb2⟩
   {
   rw[show sJ n (iM e p q) q=-1 by unfold sJ;rw[qI hb],aUH,aBT];omega}
   {
   rw[show sJ n (iM e p q) q=(blw n (iM e p q) q:Nat) by unfold sJ;rw[qH (by omega)],aBT,aBT];omega}}
  {
  have hv:sJ n e p=-1:=by unfold sJ;rw[qI (Classical.not_not.1 hc)]
  have hdone:=aUB HS.out.2 (Classical.not_not.1 hc);have HD:=qB hdone;clear hdone;rw[hv];clear hv;go_wp2
  go_end0
  exact⟨rfl,e,pl,bs,p,HS.out.1,HD.out⟩}
theorem bCD(h:Hp n e)(hp:p<n):DnI n e p:=
  ⟨fun k h0 hk _=>h k h0 hk,fun h0 c hc0 hc hcp=>by
 have h1:=h c hc0 hc;rw[hcp]at h1;exact pC h1 (h p h0 hp)⟩
theorem aPL(h:Sft W w ph slots n e0 e pl v gp cp bs0 bs b1 b2 p)(hp0:p=0):
    Calls Tryz.prog 204 #[.func (.func 205) #[aL ph] #[],aL b2,aL b1] w fun r w' =>r=.returned (.tuple #[])/\Fr [] w w' :=by
 have x1:=h.c1.cell 0;have x2:=h.c2.cell 0;simp only[zS]at x1 x2;have hA:=aBS h.hm h.lt;have e1:rD e p=-1:=by unfold rD;rw[qH (by omega)]
 rw[e1]at hA;have HA:=qB hA;clear h hA e1 hp0;go_enter Tryz.func204,Tryz.ntmps204
 go_wp2_with fail
 refine HA.out.mono ?_;rintro _ w1 ⟨rfl,hf1⟩;have HF:=qB hf1;clear HA hf1 x1 x2;go_wp2
 go_loopw [4] (fun sq wr=>sq=.int .i64 (-1)/\wr=w1) (fun _ _=>0)
 case atStart=>exact⟨rfl,rfl⟩
 case round=>
  obtain⟨rfl,rfl⟩:=hrel;go_wp2
  go_end0
  exact⟨rfl,HF.out⟩
theorem aEB(h:HM w ph slots n e pl v gp cp bs)(hk:lM slots n e pl){p:Nat}(hp:p<n)(hi:UpI n e p∨(p=0/\DnI n e 0)):
    Calls Tryz.prog 177 #[aL ph,.int .i64 p] w fun r w' =>r=.returned (.tuple #[])/\∃e' pl' bs', HM w' ph slots n e' pl' v gp cp bs' /\ lM slots n e' pl' /\ Hp n e' /\ (∀y,(∃x,x<n/\e' x=y)↔∃x,x<n/\e x=y) /\
      Fr (hB slots ph v gp bs) w w' /\ ∀b∈hB slots ph v gp bs', b∈hB slots ph v gp bs∨w.heap.size<=b:=by
 have hlt:=h.lt;have k1:=Blk.new w [aL ph] 122;have k2:=Blk.new (w.alloc (.cells [aL ph].toArray 122)) [.int .i64 p] 3;have k1' :=k1.alloc (.cells [.int .i64 p].toArray 3);simp only[World.size_alloc]at k2;have hF0:Fr [] w ((w.alloc (.cells [aL ph].toArray 122)).alloc (.cells [.int .i64 p].toArray 3)):=((Fr.refl _ _).alloc _).alloc _;have hS:Sft w ((w.alloc (.cells [aL ph].toArray 122)).alloc (.cells [.int .i64 p].toArray 3)) ph slots n e e pl v gp cp bs bs w.heap.size (w.heap.size+1) p:=
   ⟨h.fr0 hF0,hk,fun y=>Iff.rfl,k1', k2,fun hm=>by have:=hlt _ hm;omega,fun hm=>by have:=hlt _ hm;omega,by omega,hF0.mono (by simp),fun b hb=>.inl hb,hp⟩
 have x1:=k1'.cell 0;simp only[zS]at x1;have HS:=qB hS;have HI:=qB hi;clear hS hi h hk k1 k2 k1' hF0 hlt;have hsz:((w.alloc (.cells [aL ph].toArray 122)).alloc (.cells [.int .i64 p].toArray 3)).heap.size=w.heap.size+2:=by simp
 have Hsz:=qB hsz;clear hsz;go_enter Tryz.func177,Tryz.ntmps177
 generalize hw0:((w.alloc (.cells #[aL ph] 122)).alloc (.cells #[.int .i64 (p:Int)] 3))=w0 at *;have HW0:=qB hw0;clear hw0;rcases HI.out with hu|⟨hp0,hd⟩
 {
 have HU:=qB (aUI HS.out hu);clear hu HI;go_wp2_with fail
 rw[HW0.out];refine HU.out.mono ?_;rintro _ w1 ⟨rfl,e1,pl1,bs1,p1,h1,g1⟩;have x1:=h1.c1.cell 0;simp only[zS]at x1;have HD:=qB (aIX h1 (bCD g1 h1.lt));clear h1 g1 HU HS;go_wp2_with fail
 refine HD.out.mono ?_;rintro _ w2 ⟨rfl,e2,pl2,bs2,p2,h2,g2⟩;have H2:=qB (zR h2 g2);clear h2 g2 HD;go_wp2
 go_end0
 exact⟨rfl,e2,pl2,bs2,H2.out.1.hm,H2.out.1.ok,H2.out.2,H2.out.1.mem,H2.out.1.fr.mono (fun b hb=>by
   rcases qF.1 hb with rfl|hb
   · exact .inr (by omega)
   · exact .inl hb),H2.out.1.new⟩}
 {
 have HU:=qB (aPL HS.out hp0);rw[<-hp0]at hd;have Hd:=qB hd;clear HI hp0 hd;go_wp2_with fail
 rw[HW0.out];refine HU.out.mono ?_;rintro _ w1 ⟨rfl,f1⟩;have h1:=HS.out.keep f1;have x1:=h1.c1.cell 0;simp only[zS]at x1;have HD:=qB (aIX h1 Hd.out);clear h1 HU HS f1;go_wp2_with fail
 refine HD.out.mono ?_;rintro _ w2 ⟨rfl,e2,pl2,bs2,p2,h2,g2⟩;have H2:=qB (zR h2 g2);clear h2 g2 HD;go_wp2
 go_end0
 exact⟨rfl,e2,pl2,bs2,H2.out.1.hm,H2.out.1.ok,H2.out.2,H2.out.1.mem,H2.out.1.fr.mono (fun b hb=>by
   rcases qF.1 hb with rfl|hb
   · exact .inr (by omega)
   · exact .inl hb),H2.out.1.new⟩}
end
def dI(w:World)(ph slots:Nat)(Q:Nat->Option Int)(n:Nat)(l:List Nat):Prop:=
  ∃e pl v gp cp bs,HM w ph slots n e pl v gp cp bs/\lM slots n e pl/\Hp n e/\(∀i k,Q i=some k↔∃p,p<n/\e p=(i,k))/\l=hB slots ph v gp bs
def oB(Q:Nat->Option Int)(i:Nat)(k:Option Int):Nat->Option Int:=fun x=>if x=i then k else Q x
theorem kS(Q:Nat->Option Int)(i:Nat)(k:Option Int):oB Q i k i=k:=by simp[oB]
theorem gY{Q:Nat->Option Int}{i x:Nat}{k:Option Int}(h:x≠i):oB Q i k x=Q x:=by simp[oB,h]
section
variable {w w' :World} {ph slots n:Nat} {Q:Nat->Option Int} {l S:List Nat}
theorem dI.lt(h:dI w ph slots Q n l):∀b∈l,b<w.heap.size:=by
 obtain⟨e,pl,v,gp,cp,bs,h1,_,_,_,rfl⟩:=h;exact h1.lt
theorem dI.fr(h:dI w ph slots Q n l)(hf:Fr S w w')(hs:∀b∈l,b∉S):dI w' ph slots Q n l:=by
 obtain⟨e,pl,v,gp,cp,bs,h1,h2,h3,h4,rfl⟩:=h;exact⟨e,pl,v,gp,cp,bs,h1.fr hf hs,h2,h3,h4,rfl⟩
theorem dI.le(h:dI w ph slots Q n l):n<=slots/\slots<=65536:=by
 obtain⟨e,pl,v,gp,cp,bs,h1,h2,_⟩:=h;exact⟨h2.le,h1.le⟩
end
section
variable {w w' :World} {ph slots n:Nat} {e:Nat->Nat×Int} {pl:Nat->Nat} {v:Value} {gp cp:Nat} {bs:Nat->Option Nat}
theorem HM.push(h:HM w ph slots n e pl v gp cp bs){w4:World}{g' cap' :Nat}(box:Obj)(x:Nat×Int)(hn:n+1<=65536)
    (hown:w4.ownsRow 0 136 2 (.slice (some ⟨g', 0,none⟩) (n+1) cap') (n+1) (jH n e++[.int .i64 x.1,.int .i64 x.2]))
    (hgrow:(w.alloc box).grownBy w4 v.ownBlock) (hg:v.ownBlock=some g' ∨ (w.alloc box).heap.size<=g'):
    HM (w4.setCell ⟨ph,2,none⟩ (.slice (some ⟨g', 0,none⟩) (n+1) cap')) ph slots (n+1) (mW e n x) pl (.slice (some ⟨g', 0,none⟩) (n+1) cap') gp cp bs /\
      Fr (hB slots ph v gp bs) w (w4.setCell ⟨ph,2,none⟩ (.slice (some ⟨g', 0,none⟩) (n+1) cap'))/\∀q∈hB slots ph (.slice (some ⟨g', 0,none⟩) (n+1) cap') gp bs,q∈hB slots ph v gp bs∨w.heap.size<=q:=by
 have hlt:=h.lt;simp only[World.size_alloc]at hg;have hF4:Fr v.ownBlock.toList w w4:=((Fr.refl _ _).alloc _).grown hgrow (fun q e=>.inl (by simp[e]));have e1:(Value.slice (some ⟨g', 0,none⟩) (n+1) cap').ownBlock=some g' :=rfl;have hne:∀b∈hB slots ph v gp bs,v.ownBlock≠some b->g' ≠ b:=by {
 rintro b hb hv rfl;rcases hg with e|e
 · exact hv e
 · have:=hlt _ hb;omega};have hg1:=hne ph (dX.2 (.inl rfl)) h.ap2;have hg2:=hne gp (dX.2 (.inr (.inl rfl))) h.ap3;rw[aLL]at hown;refine⟨⟨(hF4.blk h.hd (fun hm=>h.ap2 (by simpa using hm))).set 2 _,bQ hown _ _ (by rw[e1];simpa using hg1),(hF4.blk h.dir (fun hm=>h.ap3 (by simpa using hm))).other _ _ (fun e=>h.ap1 e.symm),fun k b hk hb=>?_,h.none_,h.le,hn,h.pb,h.ap1,by rw[e1];simpa using hg1,by rw[e1];simpa using hg2,fun k b hk hb=>?_,h.ap5⟩,?_,?_⟩
 {
 have a4:=h.ap4 k b hk hb;exact(hF4.blk (h.some_ k b hk hb) (fun hm=>a4.2.2 (by simpa using hm))).other _ _ a4.1}
 {
 have a4:=h.ap4 k b hk hb;refine⟨a4.1,a4.2.1,?_⟩;rw[e1];simpa using hne b (dX.2 (.inr (.inr (.inr ⟨k,hk,hb⟩)))) a4.2.2}
 {
 refine(hF4.mono (fun q hq=>.inl ?_)).setCell _ _ (.inl (by simp[hB]));simp only[Option.mem_toList]at hq;exact dX.2 (.inr (.inr (.inl hq)))}
 {
 intro q hq;rcases dX.1 hq with hq|hq|hq|hq
 · exact .inl (dX.2 (.inl hq))
 · exact .inl (dX.2 (.inr (.inl hq)))
 {
 rw[e1]at hq;cases hq;rcases hg with e|e
 · exact .inl (dX.2 (.inr (.inr (.inl e))))
 · exact .inr (by omega)}
 · exact .inl (dX.2 (.inr (.inr (.inr hq))))}
def entZ:Value:=.agg #[.int .i64 0,.int .i64 0]
theorem Tryz.infoEnt:(Tryz.prog.info? 136).map (fun i=>(i.zero,i.size,i.bytes))=some (some entZ,2,16):=by kernel_rfl
end
theorem aIY{w:World}{ph slots n:Nat}{Q:Nat->Option Int}{l:List Nat}(h:dI w ph slots Q n l){i:Nat}(hi:i<slots)(hQ:Q i=none)(k:Int):
    Calls Tryz.prog 160 #[aL ph,.int .i64 i,.int .i64 k] w fun r w' =>r=.returned (.int .i64 0)/\∃l', dI w' ph slots (oB Q i (some k)) (n+1) l' /\ Fr l w w' /\ ∀b∈l', b∈l∨w.heap.size<=b:=by
 obtain⟨e,pl,v,gp,cp,bs,hm,hk,hp,hq,rfl⟩:=h;have hpl:pl i=0:=by {
 apply qZ;intro h0;obtain⟨p,hpn,hpe⟩:=hk.inv i h0;have:=(hq i (e p).2).2 ⟨p,hpn,by rw[<-hpe]⟩;rw[hQ]at this;cases this};have hk1:=hk.push (k:=k) hi hpl;have hn1:=hk1.le;have hle:=hm.le;have HV:=qB (mX hm);have HH:=qB (aPK hm hi);have hP:=aIT hm hi;rw[hpl]at hP;have HP:=qB hP;have c2:=hm.hd.cell 2;simp only[zS,zT]at c2;obtain⟨a,cap,rfl⟩:=aJ hm.items;have HM0:=qB hm;have HK:=qB (zR hk1 (aUA hp (i,k)));have HQ:=qB (zR hq hQ);have t1:(((0:Nat):Int)-1 != -1)=false:=by decide
 have t2:((0:Int)-1 != -1)=false:=by decide
 clear hm hk hp hq hQ hpl hP hk1;go_enter Tryz.func160,Tryz.ntmps160
 go_wp2_with fail
 refine HV.out.mono ?_;rintro _ w ⟨rfl,rfl⟩;go_wp2_with fail
 refine HH.out.mono ?_;rintro _ w ⟨rfl,rfl⟩;go_wp2_with fail
 refine HP.out.mono ?_;rintro _ w ⟨rfl,rfl⟩;go_wp2_with (at_builtin;refine iD rfl _ _ 214 rfl 136 entZ 2 16 Tryz.underlying214 Tryz.infoEnt rfl (by decide) (.slice a n cap) n _ rfl (HM0.out.items.alloc _) w.heap.size 136 [.int .i64 i,.int .i64 k] rfl (Blk.new w _ _) rfl (by simp[Value.oneCell']) (by omega) (by decide) ?_;intro g' cap' w4 hown4 hgrow4 hg4;obtain⟨hR4,hF4,hq4⟩:=HM.push HM0.out _ (i,k) (by omega) hown4 hgrow4 hg4;have hk4:=(((Fr.refl _ _).alloc _).grown (S:=(Value.slice a n cap).ownBlock.toList) hgrow4 (fun q e=>.inl (by simp[e]))).blk HM0.out.hd (fun hm=>HM0.out.ap2 (by simpa using hm));have z4:=hk4.frozen 2;have y4:=hk4.cell 2;simp only[zS,zT]at y4)
 have H4:=qB (zR hR4 (zR hF4 hq4));clear hR4 hF4 hq4 hown4 hgrow4 hg4 hk4 c2;generalize hw5:w4.setCell ⟨ph,2,none⟩ (.slice (some ⟨g', 0,none⟩) (n+1) cap')=w5 at *;have HW5:=qB hw5;clear hw5;have HPu:=qB (aIU H4.out.1 hi (x:=n+1) (by omega) (n:Int) (by omega));refine HPu.out.mono ?_;rintro _ w6 ⟨rfl,bs6,h6,f6,s6⟩;have hs0:=H4.out.2.1.size;have HF6:=qB (H4.out.2.1.trans f6 H4.out.2.2);have HN6:Hid (∀b∈hB slots ph (.slice (some ⟨g', 0,none⟩) (n+1) cap') gp bs6,b∈hB slots ph (.slice a n cap) gp bs∨w.heap.size<=b):=qB (fun b hb=>(s6 b hb).elim (H4.out.2.2 b) (fun e=>.inr (by omega)));have HSe:=qB (aEB h6 HK.out.1 (p:=n) (by omega) (.inl HK.out.2));clear h6 f6 s6 HPu;go_wp2_with fail
 refine HSe.out.mono ?_;rintro _ w7 ⟨rfl,e7,pl7,bs7,h7,k7,p7,m7,f7,s7⟩;have hs6:=HF6.out.size;have H7:=qB (zR h7 (zR k7 (zR p7 m7)));have HF7:=qB (zR (HF6.out.trans f7 HN6.out) (show ∀b∈hB slots ph (.slice (some ⟨g', 0,none⟩) (n+1) cap') gp bs7,b∈hB slots ph (.slice a n cap) gp bs∨w.heap.size<=b from fun b hb=>(s7 b hb).elim (HN6.out b) (fun e=>.inr (by omega))));clear h7 k7 p7 m7 f7 s7 HSe;go_wp2
 go_ret;refine⟨rfl,_,⟨e7,pl7,_,gp,cp,bs7,H7.out.1,H7.out.2.1,H7.out.2.2.1,fun j x=>?_,rfl⟩,HF7.out.1,HF7.out.2⟩;rw[H7.out.2.2.2];constructor
 {
 intro hx;by_cases e1:j=i
 {
 subst e1;rw[kS]at hx;cases hx;exact⟨n,by omega,fY _ _ _⟩}
 {
 rw[gY e1]at hx;obtain⟨p,hp,hpe⟩:=(HQ.out.1 j x).1 hx;exact⟨p,by omega,by rw[dQ (by omega)];exact hpe⟩}}
 {
 rintro⟨p,hp,hpe⟩;by_cases e1:p=n
 {
 subst e1;rw[fY]at hpe;simp only[zN]at hpe;obtain⟨rfl,rfl⟩:=hpe;exact kS _ _ _}
 {
 rw[dQ e1]at hpe;have h1:=(HQ.out.1 j x).2 ⟨p,by omega,hpe⟩;rw[gY (fun e2=>by rw[e2,HQ.out.2]at h1;cases h1)];exact h1}}
theorem aEC{w:World}{base:Nat}{e:TypeId}{size:Nat}{g n m cap:Nat}{xs ys:List Value}(h:w.ownsRow base e size (.slice (some ⟨g,0,none⟩) (n+m) cap) (n+m) (xs++ys))(hx:xs.length=n*size):
    w.ownsRow base e size (.slice (some ⟨g,0,none⟩) n cap) n xs:=by
 obtain⟨h1,h2⟩:=h;rcases h2 with⟨h2,_⟩|⟨g', cap', cur,e1,hb,hh,hn,hm,hsz,hxs⟩
 · cases h2
 {
 simp only[qY,qQ,Addr.mk.injEq,and_true,true_and]at e1;obtain⟨rfl,rfl⟩:=e1;refine⟨hx,.inr ⟨g,cap,cur,rfl,hb,hh,by omega,hm,hsz,?_⟩⟩;have:=congrArg (List.take (n*size)) hxs;have e2:(xs++ys).take (n*size)=xs:=by rw[<-hx,List.take_left'];rfl
 rw[List.take_take,Nat.min_eq_left (Nat.mul_le_mul_right _ (by omega)),e2]at this;exact this}
section
variable {w w' :World} {ph slots n:Nat} {e:Nat->Nat×Int} {pl:Nat->Nat} {v:Value} {gp cp:Nat} {bs:Nat->Option Nat}
theorem aPM(h:HM w ph slots 0 e pl v gp cp bs):Calls Tryz.prog 136 #[aL ph] w fun r w' =>r=.returned (.tuple #[.agg #[.int .i64 0,.int .i64 0],.bool false])/\Fr [] w w' :=by
 have hf0:Fr [] w (w.alloc (.cells #[.int .i64 0,.int .i64 0] 136)):=(Fr.refl _ _).alloc _;have HV:=qB (mX (h.fr0 hf0));obtain⟨a,cap,rfl⟩:=aJ h.items;have c2:=(h.fr0 hf0).hd.cell 2;simp only[zS,zT]at c2;have HF:=qB hf0;clear h hf0;go_enter Tryz.func136,Tryz.ntmps136
 go_wp2_with fail
 refine HV.out.mono ?_;rintro _ w1 ⟨rfl,rfl⟩;go_wp2
 refine bodyPost_ret (v:=.tuple #[.agg #[.int .i64 0,.int .i64 0],.bool false]) (by simp[results,Tryz.results136,go_sem]) rfl ⟨rfl,(Fr.refl _ _).alloc _⟩
theorem aIZ(h:HM w ph slots n e pl v gp cp bs)(hn:0<n):Calls Tryz.prog 136 #[aL ph] w fun r w' =>r=.returned (.tuple #[.agg #[.int .i64 ((e 0).1:Nat),.int .i64 (e 0).2],.bool true])/\Fr [] w w' :=by
 have hf0:Fr [] w (w.alloc (.cells #[.int .i64 0,.int .i64 0] 136)):=(Fr.refl _ _).alloc _;have HV:=qB (mX (h.fr0 hf0));obtain⟨g,cap,rfl,_,_,q0,q1,_⟩:=iN (h.fr0 hf0).items hn;have c2:=(h.fr0 hf0).hd.cell 2;simp only[zS,zT]at c2;simp only[Nat.zero_mul,Nat.zero_add]at q0 q1;have t1:((n:Int) == 0)=false:=by simp;omega
 have t2:(0:Int)<n:=by omega
 have HF:=qB hf0;clear h hf0;generalize (e 0).1=x at *;generalize (e 0).2=y at *;clear hn;go_enter Tryz.func136,Tryz.ntmps136
 go_wp2_with fail
 refine HV.out.mono ?_;rintro _ w1 ⟨rfl,rfl⟩;go_wp2
 exact bodyPost_ret (v:=.tuple #[.agg #[.int .i64 x,.int .i64 y],.bool true]) (by simp[results,Tryz.results136,go_sem]) rfl ⟨rfl,(Fr.refl _ _).alloc _⟩
theorem HM.cut{g cap:Nat}(h:HM w ph slots (n+1) e pl (.slice (some ⟨g,0,none⟩) (n+1) cap) gp cp bs):
    HM (w.setCell ⟨ph,2,none⟩ (.slice (some ⟨g,0,none⟩) n cap)) ph slots n e pl (.slice (some ⟨g,0,none⟩) n cap) gp cp bs:=by
 have a2:=h.ap2;have a3:=h.ap3;simp only[Value.ownBlock]at a2 a3;have h1:=h.items;rw[entC_succ']at h1;refine⟨h.hd.set 2 _,bQ (aEC h1 (kR n e)) _ _ a2,h.dir.other _ _ (fun e=>h.ap1 e.symm),fun k b hk hb=>(h.some_ k b hk hb).other _ _ (h.ap4 k b hk hb).1,h.none_,h.le,by have:=h.nb;omega,h.pb,h.ap1,a2,a3,h.ap4,h.ap5⟩
theorem aZF(h:HM w ph slots (n+1) e pl v gp cp bs)(hk:lM slots (n+1) e pl)(hp:Hp (n+1) e):
    Calls Tryz.prog 137 #[aL ph,.int .i64 0] w fun r w' =>r=.returned (.tuple #[])/\∃e' pl' v' bs', HM w' ph slots n e' pl' v' gp cp bs' /\ lM slots n e' pl' /\ Hp n e' /\ (∀y,(∃x,x<n/\e' x=y)↔∃x,x<n+1/\x≠0/\e x=y) /\
      Fr (hB slots ph v gp bs) w w' /\ ∀b∈hB slots ph v' gp bs', b∈hB slots ph v gp bs∨w.heap.size<=b:=by
 have hnb:=h.nb;have hlt:=hk.lt;have c2:=h.hd.cell 2;simp only[zS,zT]at c2;obtain⟨g,cap,rfl,hcap,_,_,_,_⟩:=iN h.items (show 0<n+1 by omega);have hks:=hk.swap (p:=0) (q:=n) (by omega) (by omega);have hkp:=hks.pop;have hmem:∀y,(∃x,x<n/\iM e 0 n x=y)↔∃x,x<n+1/\x≠0/\e x=y:=by {
 intro y;constructor
 {
 rintro⟨x,hx,rfl⟩;by_cases h0:x=0
 · subst h0;exact⟨n,by omega,by omega,(fR e 0 n).symm⟩
 · exact⟨x,by omega,h0,(eY h0 (by omega)).symm⟩}
 {
 rintro⟨x,hx,h0,rfl⟩;by_cases h1:x=n
 · subst h1;exact⟨0,by omega,fR e 0 x⟩
 · exact⟨x,by omega,eY h0 h1⟩}};have hdn:=aZE hp;have hidx:(iM e 0 n n).1<slots:=hks.lt n (by omega);have HS:=qB (aGW h (p:=0) (q:=n) (by omega) (by omega) hlt);have HK:=qB (zR hkp (zR hmem (zR hdn hidx)));clear h hk hp hlt hks hkp hmem hdn hidx;go_enter Tryz.func137,Tryz.ntmps137
 go_wp2_with fail
 refine HS.out.mono ?_;rintro _ w1 ⟨rfl,bs1,h1,f1,s1⟩;obtain⟨g', cap', e1,_,_,q0,_,_⟩:=iN h1.items (show n<n+1 by omega);simp only[qY,qQ,Addr.mk.injEq,and_true,true_and]at e1;obtain⟨rfl,rfl⟩:=e1;have d2:=h1.hd.cell 2;simp only[zS,zT]at d2;have HP:=qB (aIU h1 HK.out.2.2.2 (x:=0) (by omega) (-1) (by decide));have HF1:=qB (zR f1 s1);clear f1 s1 h1 HS c2;generalize hix:(iM e 0 n n).1=ix at *;have Hix:=qB hix;clear hix;have hn1:(n:Int)<((n+1:Nat):Int):=by omega
 go_wp2_with fail
 refine HP.out.mono ?_;rintro _ w2 ⟨rfl,bs2,h2,f2,s2⟩;have hs1:=HF1.out.1.size;have HF2:=qB (HF1.out.1.trans f2 HF1.out.2);have HN2:Hid (∀b∈hB slots ph (.slice (some ⟨g,0,none⟩) (n+1) cap) gp bs2,b∈hB slots ph (.slice (some ⟨g,0,none⟩) (n+1) cap) gp bs∨w.heap.size<=b):=qB (fun b hb=>(s2 b hb).elim (HF1.out.2 b) (fun e=>.inr (by omega)));have e2:=h2.hd.cell 2;have z2:=h2.hd.frozen 2;simp only[zS,zT]at e2;have h3:=h2.cut;have hF3:Fr (hB slots ph (.slice (some ⟨g,0,none⟩) (n+1) cap) gp bs) w (w2.setCell ⟨ph,2,none⟩ (.slice (some ⟨g,0,none⟩) n cap)):=HF2.out.setCell _ _ (.inl (by simp[hB]));have H3:=qB (zR h3 hF3);clear h3 hF3 h2 f2 s2 HP d2 q0;have hcap2:(n:Int)<=cap:=by omega
 by_cases h0:0<n
 {
 have t1:decide (0<n)=true:=qO h0;have HSe:=qB (aEB H3.out.1 HK.out.1 (p:=0) h0 (.inr ⟨rfl,HK.out.2.2.1⟩));go_wp2_with fail
 refine HSe.out.mono ?_;rintro _ w4 ⟨rfl,e4,pl4,bs4,h4,k4,p4,m4,f4,s4⟩;have hs3:=H3.out.2.size;have H4:=qB (zR h4 (zR k4 (zR p4 m4)));have HF4:=qB (zR f4 s4);clear h4 k4 p4 m4 f4 s4 HSe;go_wp2
 go_end0
 refine⟨rfl,e4,pl4,_,bs4,H4.out.1,H4.out.2.1,H4.out.2.2.1,fun y=>(H4.out.2.2.2 y).trans (HK.out.2.1 y),H3.out.2.trans HF4.out.1 (fun b hb=>HN2.out b hb),fun b hb=>?_⟩;rcases HF4.out.2 b hb with e|e
 · exact HN2.out b e
 · exact .inr (by omega)}
 {
 have t1:decide (0<n)=false:=qK h0;have hn0:n=0:=by omega
 have Hn0:=qB hn0;clear hn0 h0;go_wp2
 go_end0
 exact⟨rfl,iM e 0 n,_,_,bs2,H3.out.1,HK.out.1,fun k hk0 hk=>by have:=Hn0.out;omega,HK.out.2.1,H3.out.2,HN2.out⟩}
end
theorem aED{w:World}{ph slots n:Nat}{Q:Nat->Option Int}{l:List Nat}(h:dI w ph slots Q n l):
    Calls Tryz.prog 136 #[aL ph] w fun r w' =>Fr [] w w' /\ ((n=0/\r=.returned (.tuple #[.agg #[.int .i64 0,.int .i64 0],.bool false])) ∨
      (0<n/\∃i k,Q i=some k/\(∀j x,Q j=some x->¬elt (j,x) (i,k))/\r=.returned (.tuple #[.agg #[.int .i64 (i:Nat),.int .i64 k],.bool true]))):=by
 obtain⟨e,pl,v,gp,cp,bs,hm,hk,hp,hq,rfl⟩:=h;cases n with
 | zero=>{
 refine(aPM hm).mono ?_;rintro r w' ⟨rfl,hf⟩;exact⟨hf,.inl ⟨rfl,rfl⟩⟩}
 | succ n=>{
 refine(aIZ hm (by omega)).mono ?_;rintro r w' ⟨rfl,hf⟩;refine⟨hf,.inr ⟨by omega,(e 0).1,(e 0).2,(hq _ _).2 ⟨0,by omega,rfl⟩,fun j x hx=>?_,rfl⟩⟩;obtain⟨p,hpn,hpe⟩:=(hq j x).1 hx;rw[<-hpe];exact aPG hp p hpn}
theorem aXT{w:World}{ph slots n:Nat}{Q:Nat->Option Int}{l:List Nat}(h:dI w ph slots Q n l):
    Calls Tryz.prog 88 #[aL ph] w fun r w' =>(n=0/\r=.returned (.tuple #[.agg #[.int .i64 0,.int .i64 0],.bool false])/\Fr [] w w') ∨
      (0<n/\∃i k,Q i=some k/\(∀j x,Q j=some x->¬elt (j,x) (i,k))/\r=.returned (.tuple #[.agg #[.int .i64 (i:Nat),.int .i64 k],.bool true])/\∃l', dI w' ph slots (oB Q i none) (n-1) l' /\ Fr l w w' /\ ∀b∈l', b∈l∨w.heap.size<=b):=by
 obtain⟨e,pl,v,gp,cp,bs,hm,hk,hp,hq,rfl⟩:=h;have hf0:Fr [] w (w.alloc (.cells #[.int .i64 0,.int .i64 0] 136)):=(Fr.refl _ _).alloc _;have hbx:=Blk.new w [.int .i64 0,.int .i64 0] 136;have HBX:=qB hbx;clear hbx;cases n with
 | zero=>{
 have HMn:=qB (aPM (hm.fr0 hf0));clear hm hk hp hq hf0;go_enter Tryz.func88,Tryz.ntmps88
 go_wp2_with fail
 refine HMn.out.mono ?_;rintro _ w1 ⟨rfl,f1⟩;have k1:=f1.blk HBX.out (by simp);have k2:=k1.alloc (.cells #[.int .i64 0,.int .i64 0] 136);have x0:=k2.cell 0;have x1:=k2.cell 1;have z0:=k2.frozen 0;have z1:=k2.frozen 1;have x0' :=k1.cell 0;have x1' :=k1.cell 1;have z0' :=k1.frozen 0;have z1' :=k1.frozen 1;simp only[zS,zT]at x0 x1 x0' x1';have hsz:w.heap.size<w1.heap.size:=k1.lt;have HF1:=qB f1;have HK1:=qB k1;clear f1 k1 k2;go_wp2
 have hK:=((HK1.out.set 0 (.int .i64 0)).set 1 (.int .i64 0)).alloc (.cells #[.int .i64 0,.int .i64 0] 136);have r0:=hK.cell 0;have r1:=hK.cell 1;simp only[zH,zD,zS,zT]at r0 r1;refine bodyPost_ret (v:=.tuple #[.agg #[.int .i64 0,.int .i64 0],.bool false]) (by simp[results,Tryz.results88,go_sem,r0,r1]) rfl ?_;exact .inl ⟨trivial,rfl,(((((Fr.refl [] w).alloc _).trans' HF1.out).setCell _ _ (.inr (qS _))).setCell _ _ (.inr (qS _))).alloc _⟩}
 | succ n=>{
 have HMn:=qB (aIZ (hm.fr0 hf0) (by omega));have HD:=qB (fun(W:World) (hf:Fr [] w W)=>aZF (hm.fr0 hf) hk hp);have HQ:=qB (zR hk (zR hp hq));have hlt:=hm.lt;have HLt:=qB hlt;clear hlt;clear hm hk hp hq hf0;generalize hi:(e 0).1=i at *;generalize hkk:(e 0).2=kk at *;have HI:=qB (zR hi hkk);clear hi hkk;go_enter Tryz.func88,Tryz.ntmps88
 go_wp2_with fail
 refine HMn.out.mono ?_;rintro _ w1 ⟨rfl,f1⟩;have k1:=f1.blk HBX.out (by simp);have k2:=k1.alloc (.cells #[.int .i64 i,.int .i64 kk] 136);have hsz:w.heap.size<w1.heap.size:=k1.lt;have hF1:Fr [] w (w1.alloc (.cells #[.int .i64 i,.int .i64 kk] 136)):=(((Fr.refl [] w).alloc _).trans' f1).alloc _;have HD2:=qB (HD.out _ hF1);have b2:=Blk.new w1 [.int .i64 i,.int .i64 kk] 136;have HB:=qB (zR k2 (zR b2 hF1));clear f1 k1 k2 b2 hF1 HD HMn;go_wp2_with fail
 refine HD2.out.mono ?_;rintro _ w3 ⟨rfl,e3,pl3,v3,bs3,h3,k3,p3,m3,f3,s3⟩;have j1:=f3.blk HB.out.1 (fun hm=>by have:=HLt.out _ hm;omega);have j2:=f3.blk HB.out.2.1 (fun hm=>by have:=HLt.out _ hm;omega);have x0:=j1.cell 0;have x1:=j1.cell 1;have y0:=j2.cell 0;have y1:=j2.cell 1;have z0:=j1.frozen 0;have z1:=j1.frozen 1;simp only[zS,zT]at x0 x1 y0 y1;have hs1:=HB.out.2.2.size;have H3:=qB (zR h3 (zR k3 (zR p3 m3)));have HF3:=qB (zR ((HB.out.2.2.mono (S' :=hB slots ph v gp bs) (by simp)).trans' f3) (show ∀b∈hB slots ph v3 gp bs3,b∈hB slots ph v gp bs∨w.heap.size+1<b from fun b hb=>(s3 b hb).imp (fun h=>h) (fun h=>by simp at h;omega)));have HJ1:=qB j1;clear h3 k3 p3 m3 f3 s3 j1 j2 HD2;go_wp2
 have hK:=((HJ1.out.set 0 (.int .i64 (i:Int))).set 1 (.int .i64 kk));have r0:=hK.cell 0;have r1:=hK.cell 1;simp only[zH,zD,zS,zT]at r0 r1;refine bodyPost_ret (v:=.tuple #[.agg #[.int .i64 i,.int .i64 kk],.bool true]) (by simp[results,Tryz.results88,go_sem,r0,r1]) rfl ?_;have hset:Fr [w.heap.size] w3 ((w3.setCell ⟨w.heap.size,0,none⟩ (.int .i64 (i:Int))).setCell ⟨w.heap.size,1,none⟩ (.int .i64 kk)):=((Fr.refl _ _).setCell _ _ (.inl (by simp))).setCell _ _ (.inl (by simp));have hni:e 0=(i,kk):=by rw[<-HI.out.1,<-HI.out.2]
 refine .inr ⟨by omega,i,kk,(HQ.out.2.2 i kk).2 ⟨0,by omega,hni⟩,fun j x hx=>?_,rfl,_,⟨e3,pl3,v3,gp,cp,bs3,H3.out.1.fr hset (fun b hb hm=>?_),H3.out.2.1,H3.out.2.2.1,fun j x=>?_,rfl⟩,HF3.out.1.trans hset (fun b hb=>.inr (by simp at hb;omega)),fun b hb=>(HF3.out.2 b hb).imp (fun h=>h) (fun h=>by omega)⟩
 {
 obtain⟨p,hpn,hpe⟩:=(HQ.out.2.2 j x).1 hx;rw[<-hpe,<-hni];exact aPG HQ.out.2.1 p hpn}
 {
 simp at hm;subst hm;rcases HF3.out.2 _ hb with e|e
 · have:=HLt.out _ e;omega
 · omega}
 {
 show oB Q i none j=some x↔∃p,p<n+1-1/\e3 p=(j,x)
 rw[Nat.add_sub_cancel,H3.out.2.2.2];constructor
 {
 intro hx;have hji:j≠i:=by rintro rfl;rw[kS]at hx;cases hx
 rw[gY hji]at hx;obtain⟨p,hpn,hpe⟩:=(HQ.out.2.2 j x).1 hx;exact⟨p,hpn,by rintro rfl;rw[hni]at hpe;exact hji (by simpa using (congrArg Prod.fst hpe).symm),hpe⟩}
 {
 rintro⟨p,hpn,hp0,hpe⟩;have hji:j≠i:=by {
 rintro rfl;exact hp0 (HQ.out.1.inj hpn (by omega:0<n+1) (by rw[hpe,hni]))};rw[gY hji];exact(HQ.out.2.2 j x).2 ⟨p,hpn,hpe⟩}}}
theorem aLM(m:Nat):madeCells (Value.pointer none).cells m=((List.range m).map fun k=>gK ((fun _=>none:Nat->Option Nat) k)).toArray:=by
 apply Array.ext
 · simp[madeCells]
 {
 intro i h1 h2;simp[madeCells,Value.cells,Nat.mod_one,gK]}
theorem oI(m:Nat)(w:World)(hn:m<=1048576):(Instr.makeSlice 215 (.int .i64 m) (.int .i64 m)).run Tryz.prog w=.ok (.slice (some ⟨w.heap.size,0,none⟩) m m) (w.alloc (.cells ((List.range m).map fun k=>gK ((fun _=>none:Nat->Option Nat) k)).toArray 219)):=by
 obtain⟨i0,hi,hz0,hz1,hz2⟩:=info_parts (show(Tryz.prog.info? 219).map (fun i=>(i.zero,i.size,i.bytes))=some (some (.pointer none),1,8) by kernel_rfl);have h:=run_make (P:=Tryz.prog) w 215 219 i0 (.pointer none) Tryz.underlying215 hi hz0 .i64 .i64 m m (by omega) (by omega) (by rw[hz2];omega) (by omega);rw[hz1]at h;simp only[zM,Nat.mul_one]at h;rw[aLM]at h;exact h
theorem aPN(slots:Nat)(w:World)(hs:slots<=65536):
    Calls Tryz.prog 165 #[.int .i64 slots] w fun r w' =>∃ph,r=.returned (.tuple #[aL ph,.int .i64 0])/\∃l,dI w' ph slots (fun _=>none) 0 l/\Fr [] w w' /\ ∀b∈l,w.heap.size<=b:=by
 have hd0:decide ((slots:Int)<0)=false:=qK (by omega);have hd1:decide ((slots:Int)>65536)=false:=qK (by omega);obtain⟨m,hm⟩:∃m,m=(slots+63)/64:=⟨_,rfl⟩;have hmi:((slots:Int)+64-1)/64=(m:Int):=by omega
 have hmk:=oI m w (by omega);have HM0:=qB hm;clear hm;go_enter Tryz.func165,Tryz.ntmps165
 go_wp2
 go_ret2;have hb:=Blk.new (w.alloc (.cells ((List.range m).map fun k=>gK ((fun _=>none:Nat->Option Nat) k)).toArray 219)) [aL (w.heap.size+1),.int .i64 slots,.slice none 0 0,.slice (some ⟨w.heap.size,0,none⟩) m m] 217;have hd:=(Blk.new w ((List.range m).map fun k=>gK ((fun _=>none:Nat->Option Nat) k)) 219).alloc (.cells [aL (w.heap.size+1),.int .i64 slots,.slice none 0 0,.slice (some ⟨w.heap.size,0,none⟩) m m].toArray 217);rw[World.size_alloc]at hb;rw[HM0.out]at hb hd ⊢;refine⟨w.heap.size+1,rfl,_,⟨fun _=>(0,0),fun _=>0,.slice none 0 0,w.heap.size,_,fun _=>none,⟨hb,World.ownsRow_nil _ _ _ _,hd,fun k b _ h=>(by cases h),fun _ _ _ _ _=>rfl,hs,by omega,fun _=>by omega,by omega,by simp[Value.ownBlock],by simp[Value.ownBlock],fun k b _ h=>(by cases h),fun k k' b _ _ h=>(by cases h)⟩,⟨fun p hp=>by omega,fun p hp=>by omega,fun i hi=>absurd rfl hi⟩,fun k h0 hk=>by omega,fun i k=>⟨fun h=>by(cases h),fun⟨p,hp,_⟩=>by omega⟩,rfl⟩,((Fr.refl _ _).alloc _).alloc _,fun b hb=>?_⟩;rcases dX.1 hb with rfl|rfl|hb|⟨k,_,hb⟩
 · omega
 · omega
 · cases hb
 · cases hb
end Go.Proofs.YtgmnemndjjmgkaaGreat
namespace Go.Proofs.YtgmnemndjjmgkaaGreat
open Go.RowKit Classical
abbrev cA(b:Nat):Value:=.pointer (some ⟨b,0,none⟩)
def edV(e:Nat×Nat×Int)(t:Bool):Value:=.agg #[.int .i64 e.1,.int .i64 e.2.1,.int .i64 e.2.2,.bool t]
def edZ:Value:=.agg #[.int .i64 0,.int .i64 0,.int .i64 0,.bool false]
noncomputable def iG(G:bG)(T:Nat->Prop):Int->Option Value:=fun k=>if 0<=k then(G k.toNat).map (fun e=>edV e (decide (T k.toNat))) else none
theorem cZ(G:bG)(T:Nat->Prop)(s:Nat):iG G T s=(G s).map (fun e=>edV e (decide (T s))):=by simp[iG]
def qOf(G:bG):Nat->Option Int:=fun i=>(G i).map fun e=>e.2.2
def okA:Value->Bool:=fun _=>true
structure FB (w:World) (pf pl g ph mb S V:Nat) (G:bG) (T:Nat->Prop) (key:Nat->Int) (n:Nat):Prop where
  hd:Blk w pf 125 [.int .i64 V,.int .i64 S,cA pl,cA ph,.map (some mb),.int .i64 (bL S T)]
  lct:LM w pl g (S+V) (TE S G T) key
  edges:dF Tryz.prog 3 .i64 okA w mb (iG G T) n
  gw:GW S V G
  keys:aXS S V G T key
  cn:n=bL S (fun s=>(G s).isSome=true)
  leS:S<=16384
  leV:V<=4096
  ne1:pf≠pl
  ne2:pf≠g
  ne3:pf≠mb
  ne4:pl≠mb
  ne5:g≠mb
section
variable {w w' :World} {pf pl g ph mb S V n:Nat} {G:bG} {T:Nat->Prop} {key:Nat->Int} {l:List Nat}
theorem FB.fr{X:List Nat}(h:FB w pf pl g ph mb S V G T key n)(hf:Fr X w w')(h1:pf∉X)(h2:pl∉X)(h3:g∉X)(h4:mb∉X):FB w' pf pl g ph mb S V G T key n:=
  ⟨hf.blk h.hd h1,h.lct.fr hf h2 h3,h.edges.same (hf.keep mb h.edges.lt h4),h.gw,h.keys,h.cn,h.leS,h.leV,h.ne1,h.ne2,h.ne3,h.ne4,h.ne5⟩
theorem FB.fr0(h:FB w pf pl g ph mb S V G T key n)(hf:Fr [] w w'):FB w' pf pl g ph mb S V G T key n:=h.fr hf (by simp) (by simp) (by simp) (by simp)
theorem FB.lt(h:FB w pf pl g ph mb S V G T key n):pf<w.heap.size/\pl<w.heap.size/\g<w.heap.size/\mb<w.heap.size:=⟨h.hd.lt,(LG.lts h.lct).1,(LG.lts h.lct).2.1,h.edges.lt⟩
theorem FB.frs(h:FB w pf pl g ph mb S V G T key n):Frs (TE S G T):=LG.frs h.lct
@[go_sem] theorem bCO(w:World)(r:Option Nat):(binOp .neq 123 (.map r) (.map none)).run Tryz.prog w=.ok (.bool (!r.isNone)) w:=run_neq_map_nil w _ _ _ r Tryz.underlying123
theorem jI(h:FB w pf pl g ph mb S V G T key n):Calls Tryz.prog 87 #[cA pf] w fun e w' =>e=.returned (.bool true)/\w' =w:=by
 have c4:=h.hd.cell 4;simp only[zS,zT]at c4;clear h;go_enter Tryz.func87,Tryz.ntmps87
 go_wp2
 go_ret;exact⟨rfl,rfl⟩
theorem jJ(h:FB w pf pl g ph mb S V G T key n)(v:Int):Calls Tryz.prog 81 #[cA pf,.int .i64 v] w fun e w' =>e=.returned (.bool (inV V v))/\w' =w:=by
 have c0:=h.hd.cell 0;simp only[zS]at c0;have hV:=qB (jI h);clear h;by_cases h1:0<=v
 {
 by_cases h2:v<V
 {
 have e:inV V v=true:=by simp[inV,h1,h2]
 rw[e];clear e;go_enter Tryz.func81,Tryz.ntmps81
 go_wp2_with fail
 refine hV.out.mono ?_;rintro _ w1 ⟨rfl,rfl⟩;go_wp2
 go_ret;exact⟨rfl,rfl⟩}
 {
 have e:inV V v=false:=by simp[inV,h2]
 rw[e];clear e;have t2:decide (v<V)=false:=qK h2;go_enter Tryz.func81,Tryz.ntmps81
 go_wp2_with fail
 refine hV.out.mono ?_;rintro _ w1 ⟨rfl,rfl⟩;go_wp2
 go_ret;exact⟨rfl,rfl⟩}}
 {
 have e:inV V v=false:=by simp[inV,h1]
 rw[e];clear e;go_enter Tryz.func81,Tryz.ntmps81
 go_wp2_with fail
 refine hV.out.mono ?_;rintro _ w1 ⟨rfl,rfl⟩;go_wp2
 go_ret;exact⟨rfl,rfl⟩}
theorem aPO(h:FB w pf pl g ph mb S V G T key n):Calls Tryz.prog 49 #[cA pf] w fun e w' =>e=.returned (.int .i64 ((V:Int)-bL S T))/\Fr [] w w' :=by
 have c0:=h.hd.cell 0;have c5:=h.hd.cell 5;simp only[zS,zT]at c0 c5;have hV:=qB (jI h);have h1:=h.leV;have h2:=h.leS;have h3:=nQ S T;clear h;generalize bL S T=q at *;go_enter Tryz.func49,Tryz.ntmps49
 go_wp2_with fail
 refine hV.out.mono ?_;rintro _ w1 ⟨rfl,rfl⟩;go_wp2_with fail
 go_quiet (fail)
 go_wp2
 go_ret;exact⟨rfl,(Fr.refl _ _).drewN _⟩
end
def fH(n:Nat)(key:Nat->Int)(a:Int)(k:Int):Nat->Int:=fun v=>if inV n a=true/\v=a.toNat then k else key v
def nS(n:Nat)(a:Int):Int:=if inV n a then 0 else 3
theorem aXU{w:World}{pf g n:Nat}{E:Nat->Nat->Prop}{key:Nat->Int}{ed:Int}(h:LG w pf g n E key ed)(a:Int)(k:Int):
    Calls Tryz.prog 167 #[.pointer (some ⟨pf,0,none⟩),.int .i64 a,.int .i64 k] w fun e w' =>e=.returned (.int .i64 (nS n a))/\LG w' pf g n E (fH n key a k) ed/\Fr [g] w w' :=by
 have H:=qB h;obtain⟨hp1,hg1,hn1⟩:=LG.lts h;obtain⟨cap,σ,F,par,d,rt,hL,hF,hE,hk⟩:=h;have HF:=qB hF;clear hF;have HE:=qB hE;clear hE;have HK:=qB hk;clear hk;have hLa:aC (w.alloc (.cells #[.int .i64 a] 3)) pf g (n+1) cap σ ed:=hL.below ((Below.refl _ w).alloc (qS _) _) hp1 hg1;have hblk:=Blk.new w [.int .i64 a] 3;have hFa:Fr [] w (w.alloc (.cells #[.int .i64 a] 3)):=(Fr.refl _ _).alloc _;have HMa:=qB (LG.fr H.out hFa (by simp) (by simp));have hCk:=aBK hLa w.heap.size 1 (fun _=>a) (by decide) (fun k hk=>by
   rw[hblk.cell];obtain rfl:k=0:=by omega
   rfl)
 have HCk:=qB hCk;clear hCk hblk hL;go_enter Tryz.func167,Tryz.ntmps167
 go_wp2_with fail
 refine HCk.out.mono ?_;rintro _ w1 ⟨hcode,rfl⟩;clear HCk;generalize w.alloc (.cells #[.int .i64 a] 3)=w1 at *;rcases hcode with⟨rfl,hall⟩|⟨rfl,j,hj,hbad⟩
 {
 have va:inV n a=true:=hall 0 (by decide);clear hall;obtain⟨v,rfl,hv⟩:=cL va;have Hva:=qB va;clear va;go_wp2_with fail
 refine(mT hLa HF.out v hv).mono ?_;rintro _ w2 ⟨m1,τ1,l1,R1,rfl,hL1,hE1,hF1⟩;have HS:=qB (hE1.lf.set k);have HE1:=qB hE1;clear hE1;have d1:=hL1.hd.cell 1;simp only[zS,zT]at d1;have hfz:=hL1.nodes.frozen;have a4:=hL1.nodes.c4 (v+1) (by omega);obtain⟨hL2,hF2⟩:=hL1.st4 (Fr.refl [g] w2) (i:=v+1) (by omega) k;have HL2:=qB (show aC _ pf g (n+1) cap (set1 τ1 (v+1) k) ed from hL2);clear hL2;have hv2:((v+1:Nat):Int)<((n+1:Nat):Int):=by omega
 go_wp2_with fail
 refine(nP HL2.out v hv HS.out.2.2.2.2 HS.out.2.2.1 HS.out.2.2.2.1).mono ?_;rintro _ w3 ⟨rfl,hL3,hF3⟩;have HL3:=qB hL3;clear hL3;go_wp2
 go_ret;rw[show nS n (v:Int)=0 by unfold nS;rw[Hva.out];rfl];refine⟨rfl,⟨cap,_,_,par,d,rt,HL3.out,HS.out.1,HE.out,fun x hx=>?_⟩,(hFa.mono (S' :=[g]) (by simp)).then (hF1.then (hF2.then hF3))⟩;rw[HS.out.2.1];unfold fH;by_cases e:x=v
 · subst e;rw[qI rfl,qI ⟨Hva.out,by simp⟩]
 · rw[qH (by omega),qH (by simp;omega),HE1.out.key];exact HK.out x hx}
 {
 have hva:inV n a=false:=hbad;have Hva:=qB hva;clear hva hbad;go_wp2
 go_ret;rw[show nS n a=3 by unfold nS;rw[Hva.out];rfl];refine⟨rfl,?_,hFa.mono (by simp)⟩;have:fH n key a k=key:=by funext x;unfold fH;rw[qH (by simp[Hva.out])]
 rw[this];exact HMa.out}
theorem mY{N a:Nat}(h:a<N):inV N (a:Int)=true:=by simp[inV];omega
section
variable {w w' :World} {pl g N:Nat} {E:Nat->Nat->Prop} {key:Nat->Int}
theorem aPP(h:LM w pl g N E key){a b:Nat}(ha:a<N)(hb:b<N)(he:E a b)(b' :Int)(hb' :b' =b):
    Calls Tryz.prog 138 #[.pointer (some ⟨pl,0,none⟩),.int .i64 a,.int .i64 b'] w fun e w' =>e=.returned (.int .i64 0)/\LM w' pl g N (jX E a b) key/\Fr [pl,g] w w' :=by
 subst hb';have h1:=bBZ h a b;have e1:iC N E a b=0:=by unfold iC;rw[qI ⟨mY ha,mY hb⟩];simp[he]
 have e2:aBM N E a b=jX E a b:=by unfold aBM;rw[qI e1];rfl
 rw[e1,e2]at h1;exact h1
theorem link_ok' (h:LM w pl g N E key){a b:Nat}(ha:a<N)(hb:b<N)(hne:a≠b)(hc:¬bV E a b)(b' :Int)(hb' :b' =b):
    Calls Tryz.prog 197 #[.pointer (some ⟨pl,0,none⟩),.int .i64 a,.int .i64 b'] w fun e w' =>e=.returned (.int .i64 0)/\LM w' pl g N (eP E a b) key/\Fr [pl,g] w w' :=by
 subst hb';exact aTR h a b ha hb hne hc
end
section
variable {w w' :World} {pf pl g ph mb S V n:Nat} {G:bG} {T:Nat->Prop} {key:Nat->Int} {l:List Nat}
theorem aEE{s:Nat}{e:Nat×Nat×Int}{T' :Nat->Prop}{v:Value}(hg:G s=some e)(hv:v=edV e (decide (T' s)))(hT:∀t,t≠s->(T t↔T' t)):lC (iG G T) s (some v)=iG G T' :=by
 funext k
 by_cases hk:k=(s:Int)
 · subst hk;rw[cV,cZ,hg,hv];rfl
 {
 rw[bP hk];unfold iG;by_cases h0:0<=k
 {
 have:k.toNat≠s:=by omega
 simp only[hT _ this]}
 · simp only[h0,if_false]}
theorem gZ{s:Nat}(h:s<=100000):(Lit.int .i64 (s:Int)).wf=true:=by
 show(decide ((-9223372036854775808:Int)<=s)&&decide ((s:Int)<=9223372036854775807))=true
 simp;omega
theorem aEF(h:FB w pf pl g ph mb S V G T key n){m ma mz:Nat}{y:Int}(hg:G m=some (ma,mz,y))(ht:T m):
    Calls Tryz.prog 89 #[cA pf,.int .i64 m] w fun e w' =>e=.returned (.tuple #[])/\FB w' pf pl g ph mb S V G (fun t=>T t/\t≠m) key n/\Fr [pf,pl,g,mb] w w' :=by
 have hms:=h.gw.slot _ _ hg;have hen:=h.gw.ends _ _ _ _ hg;have hS:=h.leS;have hV:=h.leV;have hlt:=h.lt;have hcT:=gW hms ht;have hcle:=nQ S T;have hne:=zR h.ne1 (zR h.ne2 (zR h.ne3 (zR h.ne4 h.ne5)));have hl0:=h.edges.run_get (t:=123) (e:=128) (z:=edZ) Tryz.underlying3 Tryz.underlying123 (by kernel_rfl) rfl (gZ (s:=m) (by omega));rw[cZ,hg]at hl0;simp only[Option.map_some,Option.getD_some,ht,decide_true,edV]at hl0;have e1:TE S G T m (S+ma):=⟨m,ma,mz,y,hg,ht,.inl ⟨rfl,.inl rfl⟩⟩;have e2:jX (TE S G T) m (S+ma) m (S+mz):=⟨⟨m,ma,mz,y,hg,ht,.inl ⟨rfl,.inr rfl⟩⟩,by omega,by omega⟩;have c1:=(h.hd.alloc (.cells #[.int .i64 ma,.int .i64 mz,.int .i64 y,.bool true] 128)).cell 1;have c2:=(h.hd.alloc (.cells #[.int .i64 ma,.int .i64 mz,.int .i64 y,.bool true] 128)).cell 2;have c4:=h.hd.cell 4;simp only[zS,zT]at c1 c2 c4;have hw1:IntKind.i64.wrap ((S:Int)+ma)=(S:Int)+ma:=zP _ (by omega);have hw2:IntKind.i64.wrap ((S:Int)+mz)=(S:Int)+mz:=zP _ (by omega);have hf0:Fr [] w (w.alloc (.cells #[.int .i64 ma,.int .i64 mz,.int .i64 y,.bool true] 128)):=(Fr.refl _ _).alloc _;have hb:=Blk.new w [.int .i64 ma,.int .i64 mz,.int .i64 y,.bool true] 128;have HC1:=qB (aPP (h.fr0 hf0.drew).lct (a:=m) (b:=S+ma) (by omega) (by omega) e1 ((S:Int)+ma) (by omega));have H:=qB h;have E2:=qB e2;have HB:=qB (zR hf0 hb);have HN:=qB (zR hne hlt);clear h e1 e2 hf0 hb hne hlt;have x0:=HB.out.2.cell 0;have x1:=HB.out.2.cell 1;simp only[zS,zT]at x0 x1;go_enter Tryz.func89,Tryz.ntmps89
 go_wp2
 go_region_held3 (fun w' => w'.cell? ⟨pf, 1, none⟩ = some (.int .i64 S) /\ w'.cell? ⟨pf, 2, none⟩ = some (cA pl) /\ w'.cell? ⟨w.heap.size, 0, none⟩ = some (.int .i64 ma))
   (first
     | go_keep
     | (have N:=HN.out;exact⟨hF3.cell (by simp_all) (by simp;omega),hF3.cell (by simp_all) (by simp;omega),hF3.cell (by simp_all) (by simp;omega)⟩))
   (first
     | (go_at_call 138;refine HC1.out.mono ?_;rintro e w3 ⟨rfl,hL3,hF3⟩))
 have hlt3:=HN.out.2;have hpf3:Blk w3 pf _ _:=hF3.blk ((Fr.refl [] _).drew.blk (HB.out.1.blk H.out.hd (by simp)) (by simp)) (by have N:=HN.out;simp;omega);have hbx3:Blk w3 w.heap.size _ _:=hF3.blk ((Fr.refl [] _).drew.blk HB.out.2 (by simp)) (by simp;omega);have hF3' :Fr [pl,g] w w3:=(HB.out.1.drew.mono (S' :=[pl,g]) (by simp)).trans' hF3;have HC2:=qB (aPP (show LM w3.drew pl g (S+V) (jX (TE S G T) m (S+ma)) key from LG.fr hL3 (Fr.refl [] _).drew (by simp) (by simp)) (a:=m) (b:=S+mz) (by omega) (by omega) E2.out ((S:Int)+mz) (by omega));have d1:=hpf3.cell 1;have d2:=hpf3.cell 2;have y1:=hbx3.cell 1;simp only[zS,zT]at d1 d2 y1;have HF3:=qB (zR hF3' (zR hpf3 hbx3));clear hF3' hpf3 hbx3 hF3 hL3 HC1 c1 c2 x0 x1;go_wp2
 go_region_held3 (fun w' => w'.cell? ⟨pf, 1, none⟩ = some (.int .i64 S) /\ w'.cell? ⟨pf, 2, none⟩ = some (cA pl) /\ w'.cell? ⟨w.heap.size, 1, none⟩ = some (.int .i64 mz))
   (first
     | go_keep
     | (have N:=HN.out;exact⟨hF4.cell (by simp_all) (by simp;omega),hF4.cell (by simp_all) (by simp;omega),hF4.cell (by simp_all) (by simp;omega)⟩))
   (first
     | (go_at_call 138;refine HC2.out.mono ?_;rintro e w4 ⟨rfl,hL4,hF4⟩))
 have hpf4:Blk w4 pf _ _:=hF4.blk ((Fr.refl [] _).drew.blk HF3.out.2.1 (by simp)) (by have N:=HN.out;simp;omega);have hbx4:Blk w4 w.heap.size _ _:=hF4.blk ((Fr.refl [] _).drew.blk HF3.out.2.2 (by simp)) (by simp;omega);have hF4' :Fr [pl,g] w w4:=(HF3.out.1.drew).trans' hF4;rw[aZC H.out.gw.slot hg]at hL4;have y3:=hbx4.cell 3;have z3:=hbx4.frozen 3;simp only[zS,zT]at y3;have hbx5:=hbx4.set 3 (.bool false);have hpf5:=hpf4.other ⟨w.heap.size,3,none⟩ (.bool false) (by show pf≠w.heap.size;omega);have HL4:=qB (zR hL4 hF4');have HX5:=qB (zR hpf5 hbx5);clear hL4 hF4' hpf4 hbx4 hpf5 hbx5 hF4 HC2 d1 d2 y1;go_wp2
 have HS5:=qB (show Fr [w.heap.size] w4 (w4.setCell ⟨w.heap.size,3,none⟩ (.bool false)) from(Fr.refl _ _).setCell _ _ (.inl (by simp)));generalize w4.setCell ⟨w.heap.size,3,none⟩ (.bool false)=w5 at *;clear y3 z3;have hI5:dF Tryz.prog 3 .i64 okA w5 mb (iG G T) n:=H.out.edges.same (by
   rw[HS5.out.keep mb (by have:=HL4.out.2.size;omega) (by simp;omega),HL4.out.2.keep mb (by omega) (by have N:=HN.out;simp;omega)])
 have f4:=HX5.out.1.cell 4;have y0:=HX5.out.2.cell 0;have y1:=HX5.out.2.cell 1;have y2:=HX5.out.2.cell 2;have y3:=HX5.out.2.cell 3;simp only[zD,zH,zS,zT]at f4 y0 y1 y2 y3;have HI5:=qB hI5;clear hI5;refine bA 6 (fun w' =>dF Tryz.prog 3 .i64 okA w' mb (iG G (fun t=>T t/\t≠m)) n/\Fr [mb] w5 w') (by kernel_rfl) (by kernel_rfl) (by kernel_rfl) ?_;iterate 6 (refine bM (by decide) (fun K hK=>?_);go_simp;refine hK _ ?_;clear hK K)
 refine aO rfl undef (fun w' hw' =>?_) ?_
 {
 obtain⟨nq,rfl⟩:=hw';obtain⟨w6,hrun,hI6,hF6⟩:=(HI5.out.same (w' :=w5.drewN nq) rfl).put (t:=123) (e:=128) Tryz.underlying3 Tryz.underlying123 (by rw[H.out.cn];unfold maxLen;have:=nQ S (fun s=>(G s).isSome=true);omega) (gZ (s:=m) (by omega)) (v:=.agg #[.int .i64 ma,.int .i64 mz,.int .i64 y,.bool false]) rfl;rw[cZ,hg,aEE (T' :=fun t=>T t/\t≠m) hg (by simp[edV]) (fun t ht=>by simp[ht])]at hI6;go_simp;exact⟨hI6,(((Fr.refl [mb] w5).drewN nq)).trans' hF6⟩};refine bN ?_;rintro w6 ⟨hI6,hF6⟩;have hpf6:=hF6.blk HX5.out.1 (by have N:=HN.out;simp;omega);rw[<-hcT]at hpf6;generalize hz:bL S (fun t=>T t/\t≠m)=z at *;have f5:w6.cell? ⟨pf,5,none⟩=some (.int .i64 ((z:Int)+1)):=hpf6.cell 5;have q5:=hpf6.frozen 5;have hw5:IntKind.i64.wrap ((z:Int)+1-1)=(z:Int):=by rw[show(z:Int)+1-1=z by omega];exact zP _ (by omega)
 have hpf7:=hpf6.set 5 (.int .i64 (z:Int));have HP7:=qB hpf7;have HI6:=qB (zR hI6 hF6);have HZ:=qB hz;clear hpf6 hpf7 hI6 hF6 hz f4 y0 y1 y2 y3;go_wp2
 go_end0
 have e7:(z:Int)+1-1=z:=by omega
 have hF7:Fr [pf] w6 (w6.setCell ⟨pf,5,none⟩ (.int .i64 (z:Int))):=(Fr.refl _ _).setCell _ _ (.inl (by simp));have N:=HN.out;have s4:=HL4.out.2.size;have hF47:Fr [w.heap.size,mb,pf] w4 (w6.setCell ⟨pf,5,none⟩ (.int .i64 (z:Int))):=
   ((HS5.out.mono (fun q hq=>.inl (by simp at hq ⊢;exact .inl hq))).trans' (HI6.out.2.mono (fun q hq=>.inl (by simp at hq ⊢;exact .inr (.inl hq))))).trans' (hF7.mono (fun q hq=>.inl (by simp at hq ⊢;exact .inr (.inr hq))))
 try rw[e7]
 refine⟨rfl,⟨?_,LG.fr HL4.out.1 hF47 (by simp;omega) (by simp;omega),HI6.out.1.same (hF7.keep mb HI6.out.1.lt (by simp;omega)),H.out.gw,⟨fun t a b x h1 h2=>H.out.keys.slot t a b x h1 h2.1,H.out.keys.vert⟩,H.out.cn,H.out.leS,H.out.leV,H.out.ne1,H.out.ne2,H.out.ne3,H.out.ne4,H.out.ne5⟩,
   (HL4.out.2.mono (fun q hq=>.inl (by simp at hq ⊢;omega))).trans hF47 (fun q hq=>by simp at hq ⊢;omega)⟩
 rw[HZ.out];exact HP7.out
theorem aZG{w:World}{pl g N:Nat}{E:Nat->Nat->Prop}{key:Nat->Int}(h:LM w pl g N E key){a:Nat}(ha:a<N)(k:Int):
    Calls Tryz.prog 167 #[.pointer (some ⟨pl,0,none⟩),.int .i64 a,.int .i64 k] w fun e w' =>e=.returned (.int .i64 0)/\LM w' pl g N E (fH N key a k)/\Fr [pl,g] w w' :=by
 refine(aXU h a k).mono ?_;rintro e w' ⟨rfl,h1,h2⟩;exact⟨by unfold nS;rw[mY ha];rfl,h1,h2.mono (fun q hq=>.inl (by simp at hq ⊢;exact .inr hq))⟩
theorem aEG{N a:Nat}(ha:a<N)(key:Nat->Int)(k:Int):fH N key a k a=k:=by
 unfold fH;rw[qI ⟨mY ha,by simp⟩]
theorem rE{N a v:Nat}(key:Nat->Int)(k:Int)(hv:v≠a):fH N key a k v=key v:=by
 unfold fH;rw[qH (by simp;omega)]
theorem aEH(h:FB w pf pl g ph mb S V G T key n){m ma mz:Nat}{y:Int}(hg:G m=some (ma,mz,y))(ht:¬T m)(hc:¬Cx G T ma mz):
    Calls Tryz.prog 161 #[cA pf,.int .i64 m] w fun e w' =>e=.returned (.tuple #[])/\FB w' pf pl g ph mb S V G (fun t=>T t∨t=m) (fH (S+V) key m y) n/\Fr [pf,pl,g,mb] w w' :=by
 have hms:=h.gw.slot _ _ hg;have hen:=h.gw.ends _ _ _ _ hg;have hS:=h.leS;have hV:=h.leV;have hlt:=h.lt;have hcT:=aDW hms ht;have hcle:=nQ S T;have hne:=zR h.ne1 (zR h.ne2 (zR h.ne3 (zR h.ne4 h.ne5)));have hl0:=h.edges.run_get (t:=123) (e:=128) (z:=edZ) Tryz.underlying3 Tryz.underlying123 (by kernel_rfl) rfl (gZ (s:=m) (by omega));rw[cZ,hg]at hl0;simp only[Option.map_some,Option.getD_some,ht,decide_false,edV]at hl0;have hfr:=h.frs;have n1:¬bV (TE S G T) m (S+ma):=aDV ht hms (by omega) hfr;have n2:¬bV (TE S G T) m (S+mz):=aDV ht hms (by omega) hfr;have n3:¬bV (TE S G T) (S+ma) (S+mz):=fun e=>hc ((vU h.gw.slot hfr).1 e);have e2:Frs (eP (TE S G T) m (S+ma))->¬bV (eP (TE S G T) m (S+ma)) m (S+mz):=by {
 intro h' e;rcases(aDP hfr h' _ _).1 e with e|⟨_,e⟩|⟨_,e⟩
 · exact n2 e
 · exact n3 e
 · exact n2 e};have c1:=(h.hd.alloc (.cells #[.int .i64 ma,.int .i64 mz,.int .i64 y,.bool false] 128)).cell 1;have c2:=(h.hd.alloc (.cells #[.int .i64 ma,.int .i64 mz,.int .i64 y,.bool false] 128)).cell 2;have c4:=h.hd.cell 4;simp only[zS,zT]at c1 c2 c4;have hw1:IntKind.i64.wrap ((S:Int)+ma)=(S:Int)+ma:=zP _ (by omega);have hw2:IntKind.i64.wrap ((S:Int)+mz)=(S:Int)+mz:=zP _ (by omega);have hf0:Fr [] w (w.alloc (.cells #[.int .i64 ma,.int .i64 mz,.int .i64 y,.bool false] 128)):=(Fr.refl _ _).alloc _;have hb:=Blk.new w [.int .i64 ma,.int .i64 mz,.int .i64 y,.bool false] 128;have HC0:=qB (aZG (h.fr0 hf0.drew).lct (a:=m) (by omega) y);have H:=qB h;have E1:=qB n1;have E2:=qB e2;have HB:=qB (zR hf0 hb);have HN:=qB (zR hne hlt);clear h e2 n1 n2 n3 hf0 hb hne hlt hfr hc;have x2:=HB.out.2.cell 2;simp only[zS,zT]at x2;go_enter Tryz.func161,Tryz.ntmps161
 go_wp2
 go_region_held3 (fun w' => w'.cell? ⟨pf, 2, none⟩ = some (cA pl) /\ w'.cell? ⟨w.heap.size, 2, none⟩ = some (.int .i64 y))
   (first
     | go_keep
     | (have N:=HN.out;exact⟨hF2.cell (by simp_all) (by simp;omega),hF2.cell (by simp_all) (by simp;omega)⟩))
   (first
     | (go_at_call 167;refine HC0.out.mono ?_;rintro e w2 ⟨rfl,hL2,hF2⟩))
 have hlt3:=HN.out.2;have hpf2:Blk w2 pf _ _:=hF2.blk ((Fr.refl [] _).drew.blk (HB.out.1.blk H.out.hd (by simp)) (by simp)) (by have N:=HN.out;simp;omega);have hbx2:Blk w2 w.heap.size _ _:=hF2.blk ((Fr.refl [] _).drew.blk HB.out.2 (by simp)) (by simp;omega);have hF2' :Fr [pl,g] w w2:=(HB.out.1.drew.mono (S' :=[pl,g]) (by simp)).trans' hF2;have HC1:=qB (link_ok' (show LM w2.drew pl g (S+V) (TE S G T) (fH (S+V) key m y) from LG.fr hL2 (Fr.refl [] _).drew (by simp) (by simp)) (a:=m) (b:=S+ma) (by omega) (by omega) (by omega) E1.out ((S:Int)+ma) (by omega));have d1:=hpf2.cell 1;have d2:=hpf2.cell 2;have y1:=hbx2.cell 0;simp only[zS,zT]at d1 d2 y1;have HF2:=qB (zR hF2' (zR hpf2 hbx2));clear hF2' hpf2 hbx2 hF2 hL2 HC0 c1 c2 x2;go_wp2
 go_region_held3 (fun w' => w'.cell? ⟨pf, 1, none⟩ = some (.int .i64 S) /\ w'.cell? ⟨pf, 2, none⟩ = some (cA pl) /\ w'.cell? ⟨w.heap.size, 0, none⟩ = some (.int .i64 ma))
   (first
     | go_keep
     | (have N:=HN.out;exact⟨hF3.cell (by simp_all) (by simp;omega),hF3.cell (by simp_all) (by simp;omega),hF3.cell (by simp_all) (by simp;omega)⟩))
   (first
     | (go_at_call 197;refine HC1.out.mono ?_;rintro e w3 ⟨rfl,hL3,hF3⟩))
 have hpf3:Blk w3 pf _ _:=hF3.blk ((Fr.refl [] _).drew.blk HF2.out.2.1 (by simp)) (by have N:=HN.out;simp;omega);have hbx3:Blk w3 w.heap.size _ _:=hF3.blk ((Fr.refl [] _).drew.blk HF2.out.2.2 (by simp)) (by simp;omega);have hF3' :Fr [pl,g] w w3:=(HF2.out.1.drew).trans' hF3;have hL3' :LM w3.drew pl g (S+V) (eP (TE S G T) m (S+ma)) (fH (S+V) key m y):=LG.fr hL3 (Fr.refl [] _).drew (by simp) (by simp);have HC2:=qB (link_ok' hL3' (a:=m) (b:=S+mz) (by omega) (by omega) (by omega) (E2.out hL3'.frs) ((S:Int)+mz) (by omega));have d1:=hpf3.cell 1;have d2:=hpf3.cell 2;have y1:=hbx3.cell 1;simp only[zS,zT]at d1 d2 y1;have HF3:=qB (zR hF3' (zR hpf3 hbx3));clear hF3' hpf3 hbx3 hF3 hL3 hL3' HC1;go_wp2
 go_region_held3 (fun w' => w'.cell? ⟨pf, 1, none⟩ = some (.int .i64 S) /\ w'.cell? ⟨pf, 2, none⟩ = some (cA pl) /\ w'.cell? ⟨w.heap.size, 1, none⟩ = some (.int .i64 mz))
   (first
     | go_keep
     | (have N:=HN.out;exact⟨hF4.cell (by simp_all) (by simp;omega),hF4.cell (by simp_all) (by simp;omega),hF4.cell (by simp_all) (by simp;omega)⟩))
   (first
     | (go_at_call 197;refine HC2.out.mono ?_;rintro e w4 ⟨rfl,hL4,hF4⟩))
 have hpf4:Blk w4 pf _ _:=hF4.blk ((Fr.refl [] _).drew.blk HF3.out.2.1 (by simp)) (by have N:=HN.out;simp;omega);have hbx4:Blk w4 w.heap.size _ _:=hF4.blk ((Fr.refl [] _).drew.blk HF3.out.2.2 (by simp)) (by simp;omega);have hF4' :Fr [pl,g] w w4:=(HF3.out.1.drew).trans' hF4;rw[aZB hg]at hL4;have y3:=hbx4.cell 3;have z3:=hbx4.frozen 3;simp only[zS,zT]at y3;have hbx5:=hbx4.set 3 (.bool true);have hpf5:=hpf4.other ⟨w.heap.size,3,none⟩ (.bool true) (by show pf≠w.heap.size;omega);have HL4:=qB (zR hL4 hF4');have HX5:=qB (zR hpf5 hbx5);clear hL4 hF4' hpf4 hbx4 hpf5 hbx5 hF4 HC2 d1 d2 y1;go_wp2
 have HS5:=qB (show Fr [w.heap.size] w4 (w4.setCell ⟨w.heap.size,3,none⟩ (.bool true)) from(Fr.refl _ _).setCell _ _ (.inl (by simp)));generalize w4.setCell ⟨w.heap.size,3,none⟩ (.bool true)=w5 at *;clear y3 z3;have hI5:dF Tryz.prog 3 .i64 okA w5 mb (iG G T) n:=H.out.edges.same (by
   rw[HS5.out.keep mb (by have:=HL4.out.2.size;omega) (by simp;omega),HL4.out.2.keep mb (by omega) (by have N:=HN.out;simp;omega)])
 have f4:=HX5.out.1.cell 4;have y0:=HX5.out.2.cell 0;have y1:=HX5.out.2.cell 1;have y2:=HX5.out.2.cell 2;have y3:=HX5.out.2.cell 3;simp only[zD,zH,zS,zT]at f4 y0 y1 y2 y3;have HI5:=qB hI5;clear hI5;refine bA 6 (fun w' =>dF Tryz.prog 3 .i64 okA w' mb (iG G (fun t=>T t∨t=m)) n/\Fr [mb] w5 w') (by kernel_rfl) (by kernel_rfl) (by kernel_rfl) ?_;iterate 6 (refine bM (by decide) (fun K hK=>?_);go_simp;refine hK _ ?_;clear hK K)
 refine aO rfl undef (fun w' hw' =>?_) ?_
 {
 obtain⟨nq,rfl⟩:=hw';obtain⟨w6,hrun,hI6,hF6⟩:=(HI5.out.same (w' :=w5.drewN nq) rfl).put (t:=123) (e:=128) Tryz.underlying3 Tryz.underlying123 (by rw[H.out.cn];unfold maxLen;have:=nQ S (fun s=>(G s).isSome=true);omega) (gZ (s:=m) (by omega)) (v:=.agg #[.int .i64 ma,.int .i64 mz,.int .i64 y,.bool true]) rfl;rw[cZ,hg,aEE (T' :=fun t=>T t∨t=m) hg (by simp[edV]) (fun t ht=>by simp[ht])]at hI6;go_simp;exact⟨hI6,(((Fr.refl [mb] w5).drewN nq)).trans' hF6⟩};refine bN ?_;rintro w6 ⟨hI6,hF6⟩;have hpf6:=hF6.blk HX5.out.1 (by have N:=HN.out;simp;omega);generalize hz:bL S T=z at *;have f5:w6.cell? ⟨pf,5,none⟩=some (.int .i64 (z:Int)):=hpf6.cell 5;have q5:=hpf6.frozen 5;have hw5:IntKind.i64.wrap ((z:Int)+1)=(z:Int)+1:=zP _ (by omega);have hpf7:=hpf6.set 5 (.int .i64 ((z:Int)+1));have HP7:=qB hpf7;have HI6:=qB (zR hI6 hF6);have HZ:=qB (zR hz hcT);clear hpf6 hpf7 hI6 hF6 hz hcT f4 y0 y1 y2 y3;go_wp2
 go_end0
 have hF7:Fr [pf] w6 (w6.setCell ⟨pf,5,none⟩ (.int .i64 ((z:Int)+1))):=(Fr.refl _ _).setCell _ _ (.inl (by simp));have N:=HN.out;have s4:=HL4.out.2.size;have hF47:Fr [w.heap.size,mb,pf] w4 (w6.setCell ⟨pf,5,none⟩ (.int .i64 ((z:Int)+1))):=
   ((HS5.out.mono (fun q hq=>.inl (by simp at hq ⊢;exact .inl hq))).trans' (HI6.out.2.mono (fun q hq=>.inl (by simp at hq ⊢;exact .inr (.inl hq))))).trans' (hF7.mono (fun q hq=>.inl (by simp at hq ⊢;exact .inr (.inr hq))))
 refine⟨rfl,⟨?_,LG.fr HL4.out.1 hF47 (by simp;omega) (by simp;omega),HI6.out.1.same (hF7.keep mb HI6.out.1.lt (by simp;omega)),H.out.gw,⟨fun t a b x h1 h2=>?_,fun v hv=>?_⟩,H.out.cn,H.out.leS,H.out.leV,H.out.ne1,H.out.ne2,H.out.ne3,H.out.ne4,H.out.ne5⟩,
   (HL4.out.2.mono (fun q hq=>.inl (by simp at hq ⊢;omega))).trans hF47 (fun q hq=>by simp at hq ⊢;omega)⟩
 {
 have e8:=HZ.out.2;rw[e8];exact HP7.out}
 {
 rcases h2 with h2|rfl
 {
 rw[rE _ _ (by rintro rfl;exact ht h2)];exact H.out.keys.slot t a b x h1 h2}
 {
 rw[aEG (by omega)];rw[hg]at h1;simp only[qQ,zN]at h1;exact h1.2.2}}
 {
 rw[rE _ _ (by omega)];exact H.out.keys.vert v hv}
end
def FAt(w:World)(pf S V:Nat)(G:bG)(L:List Nat):Prop:=
  ∃pl g ph mb l key n,FB w pf pl g ph mb S V G (aA G) key n/\dI w ph S (qOf G) n l/\(∀b∈l,b≠pf/\b≠pl/\b≠g/\b≠mb)/\L=pf::pl::g::mb::l
noncomputable def fD(S V:Nat)(G:bG)(slot a b:Int):Int:=
  if inV S slot=true/\inV V a=true/\inV V b=true then(if a=b then 9 else if (G slot.toNat).isSome=true then 6 else 0) else 3
noncomputable def tP(S V:Nat)(G:bG)(slot a b x:Int):bG:=if fD S V G slot a b=0 then bW G slot.toNat (some (a.toNat,b.toNat,x)) else G
section
variable {w w' :World} {pf pl g ph mb S V n:Nat} {G:bG} {T T' :Nat->Prop} {key:Nat->Int} {l L:List Nat}
theorem FAt.lt(h:FAt w pf S V G L):∀b∈L,b<w.heap.size:=by
 obtain⟨pl,g,ph,mb,l,key,n,h1,h2,h3,rfl⟩:=h;have:=h1.lt;intro b hb;simp only[qF]at hb;rcases hb with rfl|rfl|rfl|rfl|hb
 · exact this.1
 · exact this.2.1
 · exact this.2.2.1
 · exact this.2.2.2
 · exact h2.lt b hb
theorem FAt.fr{X:List Nat}(h:FAt w pf S V G L)(hf:Fr X w w')(hx:∀b∈L,b∉X):FAt w' pf S V G L:=by
 obtain⟨pl,g,ph,mb,l,key,n,h1,h2,h3,rfl⟩:=h;exact⟨pl,g,ph,mb,l,key,n,h1.fr hf (hx _ (by simp)) (hx _ (by simp)) (hx _ (by simp)) (hx _ (by simp)),h2.fr hf (fun b hb=>hx b (by simp[hb])),h3,rfl⟩
theorem FB.congrT(h:FB w pf pl g ph mb S V G T key n)(hT:∀t,T t↔T' t):FB w pf pl g ph mb S V G T' key n:=by
 have:T=T' :=funext fun t=>propext (hT t);rw[<-this];exact h
theorem aPQ{s:Nat}{e:Nat×Nat×Int}(ht:¬T s):lC (iG G T) s (some (edV e false))=iG (bW G s (some e)) T:=by
 funext k
 by_cases hk:k=(s:Int)
 · subst hk;rw[cV,cZ,bE];simp[ht]
 {
 rw[bP hk];unfold iG;by_cases h0:0<=k
 · rw[aG (by omega)]
 · simp only[h0,if_false]}
theorem aUJ{s:Nat}{e:Nat×Nat×Int}:oB (qOf G) s (some e.2.2)=qOf (bW G s (some e)):=by
 funext k
 by_cases hk:k=s
 · subst hk;rw[kS];simp[qOf,bE]
 · rw[gY hk];simp[qOf,aG hk]
theorem aUK{s:Nat}{e:Nat×Nat×Int}(hs:s<S)(h0:G s=none):bL S (fun t=>(G t).isSome=true)+1=bL S (fun t=>(bW G s (some e) t).isSome=true):=
  pY hs (by simp[bE]) (by simp[h0]) (fun x hx=>by rw[aG hx])
theorem FB.new(h:FB w pf pl g ph mb S V G T key n){s a b:Nat}{x:Int}(h0:G s=none)(ht:¬T s)(hs:s<S)(ha:a<V)(hb:b<V)(hab:a≠b)(hx:-9223372036854775808<=x/\x<=9223372036854775807)
    {X:List Nat} (hf:Fr X w w') (h1:pf∉X) (h2:pl∉X) (h3:g∉X) (hI:dF Tryz.prog 3 .i64 okA w' mb (iG (bW G s (some (a,b,x))) T) (n+1)):
    FB w' pf pl g ph mb S V (bW G s (some (a,b,x))) T key (n+1):=by
 have e:TE S (bW G s (some (a,b,x))) T=TE S G T:=vV (fun _=>Iff.rfl) (fun t ht' =>by rw[aG];rintro rfl;exact ht ht');refine⟨hf.blk h.hd h1,?_,hI,h.gw.put hs ha hb hab hx,⟨fun t c d y h4 h5=>?_,h.keys.vert⟩,?_,h.leS,h.leV,h.ne1,h.ne2,h.ne3,h.ne4,h.ne5⟩
 · rw[e];exact h.lct.fr hf h2 h3
 {
 rw[aG (by rintro rfl;exact ht h5)]at h4;exact h.keys.slot t c d y h4 h5}
 · rw[h.cn,aUK hs h0]
end
section
variable {w w' :World} {pf pl g ph mb S V n:Nat} {G:bG} {T T' :Nat->Prop} {key:Nat->Int} {l L:List Nat}
theorem aPR(h:FB w pf pl g ph mb S V G T key n)(slot a b x:Int)(hn:¬(inV S slot=true/\inV V a=true/\inV V b=true)):
    Calls Tryz.prog 114 #[cA pf,.int .i64 slot,.int .i64 a,.int .i64 b,.int .i64 x] w fun e w' =>e=.returned (.int .i64 3)/\w' =w:=by
 have c1:=h.hd.cell 1;simp only[zS,zT]at c1;have HV:=qB (jI h);by_cases s1:0<=slot
 {
 by_cases s2:slot<S
 {
 have s3:decide (slot≥(S:Int))=false:=qK (by omega);cases ha:inV V a with
 | false=>{
 have HA:=jJ h a;rw[ha]at HA;have HA:=qB HA;clear h hn;go_enter Tryz.func114,Tryz.ntmps114
 go_wp2_with fail
 refine HV.out.mono ?_;rintro _ w1 ⟨rfl,rfl⟩;go_wp2_with fail
 refine HA.out.mono ?_;rintro _ w1 ⟨rfl,rfl⟩;go_wp2
 go_ret;exact⟨rfl,rfl⟩}
 | true=>{
 have hb:inV V b=false:=by {
 cases hb:inV V b with
 | false=>rfl
 | true=>exact absurd ⟨by simp[inV,s1,s2],ha,hb⟩ hn};have HA:=jJ h a;rw[ha]at HA;have HA:=qB HA;have HB:=jJ h b;rw[hb]at HB;have HB:=qB HB;clear h hn;go_enter Tryz.func114,Tryz.ntmps114
 go_wp2_with fail
 refine HV.out.mono ?_;rintro _ w1 ⟨rfl,rfl⟩;go_wp2_with fail
 refine HA.out.mono ?_;rintro _ w1 ⟨rfl,rfl⟩;go_wp2_with fail
 refine HB.out.mono ?_;rintro _ w1 ⟨rfl,rfl⟩;go_wp2
 go_ret;exact⟨rfl,rfl⟩}}
 {
 have s3:decide (slot≥(S:Int))=true:=qO (by omega);have s4:(S:Int)<=slot:=by omega
 clear h hn;go_enter Tryz.func114,Tryz.ntmps114
 go_wp2_with fail
 refine HV.out.mono ?_;rintro _ w1 ⟨rfl,rfl⟩;go_wp2
 go_ret;exact⟨rfl,rfl⟩}}
 {
 have s3:slot<0:=by omega
 clear h hn;go_enter Tryz.func114,Tryz.ntmps114
 go_wp2_with fail
 refine HV.out.mono ?_;rintro _ w1 ⟨rfl,rfl⟩;go_wp2
 go_ret;exact⟨rfl,rfl⟩}
theorem aJA(h:FB w pf pl g ph mb S V G T key n){s a b:Nat}(hs:s<S)(ha:a<V)(hb:b<V)(x:Int)(hn:a=b∨(a≠b/\(G s).isSome=true)):
    Calls Tryz.prog 114 #[cA pf,.int .i64 s,.int .i64 a,.int .i64 b,.int .i64 x] w fun e w' =>e=.returned (.int .i64 (if a=b then 9 else 6))/\Fr [] w w' :=by
 have c1:=h.hd.cell 1;have c4:=h.hd.cell 4;simp only[zS,zT]at c1 c4;have HV:=qB (jI h);have HA:=jJ h a;rw[mY ha]at HA;have HA:=qB HA;have HB:=jJ h b;rw[mY hb]at HB;have HB:=qB HB;have s1:(0:Int)<=s:=by omega
 have s2:(s:Int)<S:=by omega
 have s3:decide (S<=s)=false:=qK (by omega);by_cases hab:a=b
 {
 rw[qI hab];subst hab;clear h hn;go_enter Tryz.func114,Tryz.ntmps114
 go_wp2_with fail
 refine HV.out.mono ?_;rintro _ w1 ⟨rfl,rfl⟩;go_wp2_with fail
 refine HA.out.mono ?_;rintro _ w1 ⟨rfl,rfl⟩;go_wp2_with fail
 refine HB.out.mono ?_;rintro _ w1 ⟨rfl,rfl⟩;go_wp2
 go_ret;exact⟨rfl,Fr.refl _ _⟩}
 {
 rw[qH hab];obtain⟨_,hsome⟩:=hn.resolve_left hab;have t1:((a:Int) == (b:Int))=false:=by simp;omega
 have hl:=h.edges.run_ok (t:=123) (e:=128) (z:=edZ) Tryz.underlying3 Tryz.underlying123 (by kernel_rfl) rfl (gZ (s:=s) (by have:=h.leS;omega));obtain⟨⟨e1,e2,e3⟩,he⟩:=zE.1 hsome;rw[cZ,he]at hl;simp only[Option.map_some,Option.getD_some,edV,Option.isSome_some]at hl;generalize decide (T s)=tb at *;clear h hn;go_enter Tryz.func114,Tryz.ntmps114
 go_wp2_with fail
 refine HV.out.mono ?_;rintro _ w1 ⟨rfl,rfl⟩;go_wp2_with fail
 refine HA.out.mono ?_;rintro _ w1 ⟨rfl,rfl⟩;go_wp2_with fail
 refine HB.out.mono ?_;rintro _ w1 ⟨rfl,rfl⟩;go_wp2
 go_ret;exact⟨rfl,(Fr.refl _ _).alloc _⟩}
end
section
variable {w w' :World} {pf pl g ph mb S V n:Nat} {G:bG} {T:Nat->Prop} {key:Nat->Int}
theorem FB.asked(h:FB w pf pl g ph mb S V G T key n)(hL:LM w' pl g (S+V) (TE S G T) key)(hF:Fr [g] w w'):FB w' pf pl g ph mb S V G T key n:=
  ⟨hF.blk h.hd (by have:=h.ne2;simp;exact this),hL,h.edges.same (hF.keep mb h.edges.lt (by have:=h.ne5;simp;exact fun e=>this e.symm)),h.gw,h.keys,h.cn,h.leS,h.leV,h.ne1,h.ne2,h.ne3,h.ne4,h.ne5⟩
theorem aZH{s:Nat}(ht:¬T s)(e:Option (Nat×Nat×Int)):TE S (bW G s e) T=TE S G T:=
  vV (fun _=>Iff.rfl) (fun t ht' =>by rw[aG];rintro rfl;exact ht ht')
theorem aPS{s a b:Nat}(ht:¬T s)(e:Option (Nat×Nat×Int)):Cx (bW G s e) T a b↔Cx G T a b:=by
 constructor
 {
 intro h;exact h.mono' fun u f h1 h2=>⟨h1,by rw[aG (by rintro rfl;exact ht h1)]at h2;exact h2⟩}
 {
 intro h;exact h.mono' fun u f h1 h2=>⟨h1,by rw[aG (by rintro rfl;exact ht h1)];exact h2⟩}
end
def aUL(n:Nat)(E:Nat->Nat->Prop)(key:Nat->Int)(a b r:Int)(ok:Bool):Prop:=
  (ok=false/\r=0/\¬kO n E a b)∨(ok=true/\∃(v u:Nat) (p:List Nat) (m:Nat),a=v/\b=u/\v<n/\u<n/\bS E v u p/\(∀x∈p,x<n)/\tT key p m/\r=m)
theorem aXV{w:World}{pf g n:Nat}{E:Nat->Nat->Prop}{key:Nat->Int}{ed:Int}(h:LG w pf g n E key ed)(a b:Int):Calls Tryz.prog 82 #[.pointer (some ⟨pf,0,none⟩),.int .i64 a,.int .i64 b] w fun e w' =>∃r ok,e=.returned (.tuple #[.int .i64 r,.bool ok])/\aUL n E key a b r ok/\LG w' pf g n E key ed/\Fr [g] w w' :=by
 refine(bBX h a b).mono ?_;rintro e w' ⟨⟨hn,rfl⟩|⟨v,u,p,m,h1,h2,h3,h4,h5,h6,h7,rfl⟩,hL,hF⟩
 · exact⟨0,false,rfl,.inl ⟨rfl,rfl,hn⟩,hL,hF⟩
 · exact⟨m,true,rfl,.inr ⟨rfl,v,u,p,m,h1,h2,h3,h4,h5,h6,h7,rfl⟩,hL,hF⟩
section
variable {w w' :World} {pf S V:Nat} {G:bG} {L:List Nat}
theorem aPT(h:FAt w pf S V G L){s a b:Nat}(hs:s<S)(ha:a<V)(hb:b<V)(hab:a≠b)(h0:G s=none)(x:Int)(hx:-9223372036854775808<=x/\x<=9223372036854775807):
    Calls Tryz.prog 114 #[cA pf,.int .i64 s,.int .i64 a,.int .i64 b,.int .i64 x] w fun e w' =>e=.returned (.int .i64 0)/\∃L', FAt w' pf S V (bW G s (some (a,b,x))) L' /\ Fr L w w' /\ ∀q∈L', q∈L∨w.heap.size<=q:=by
  obtain⟨pl,g,ph,mb,l,key,n,h1,hH,hD,rfl⟩:=h;have ht:¬aA G s:=by rintro⟨_,_,_,e,_⟩;rw[h0]at e;cases e
  have hlt:=h1.lt;have hllt:=hH.lt;have hS:=h1.leS;have hV:=h1.leV;have c1:=h1.hd.cell 1;have c4:=h1.hd.cell 4;have c3:=(h1.hd.alloc (.cells #[.int .i64 0,.int .i64 0,.int .i64 0,.bool false] 128)).cell 3;simp only[zS,zT]at c1 c3 c4;have HV:=qB (jI h1);have HA:=jJ h1 a;rw[mY ha]at HA;have HA:=qB HA;have HB:=jJ h1 b;rw[mY hb]at HB;have HB:=qB HB;have s1:(0:Int)<=s:=by omega
  have s2:(s:Int)<S:=by omega
  have s3:decide (S<=s)=false:=qK (by omega);have t1:((a:Int) == (b:Int))=false:=by simp;omega
  have hl:=h1.edges.run_ok (t:=123) (e:=128) (z:=edZ) Tryz.underlying3 Tryz.underlying123 (by kernel_rfl) rfl (gZ (s:=s) (by omega));rw[cZ,h0]at hl;simp only[Option.map_none,Option.getD_none,edZ,Option.isSome_none]at hl;have hf0:Fr [] w (w.alloc (.cells #[.int .i64 0,.int .i64 0,.int .i64 0,.bool false] 128)):=(Fr.refl _ _).alloc _;have HP:=qB (aIY (hH.fr hf0 (by simp)) hs (by simp[qOf,h0]) x);have H:=qB h1;have HH:=qB (zR hD (zR hllt hlt));have HF0:=qB hf0;clear h1 hH hD hllt hf0;go_enter Tryz.func114,Tryz.ntmps114
  go_wp2_with fail
  refine HV.out.mono ?_;rintro _ w ⟨rfl,rfl⟩;go_wp2_with fail
  refine HA.out.mono ?_;rintro _ w ⟨rfl,rfl⟩;go_wp2_with fail
  refine HB.out.mono ?_;rintro _ w ⟨rfl,rfl⟩;go_wp2_with fail
  refine HP.out.mono ?_;rintro _ w2 ⟨rfl,l', hH2,hF2,hN2⟩;have hpf2:Blk w2 pf _ _:=hF2.blk (HF0.out.blk H.out.hd (by simp)) (fun hm=>(HH.out.1 _ hm).1 rfl);have hI2:dF Tryz.prog 3 .i64 okA w2 mb (iG G (aA G)) n:=H.out.edges.same (by
    rw[hF2.keep mb (by have:=HF0.out.size;omega) (fun hm=>(HH.out.1 _ hm).2.2.2 rfl),HF0.out.keep mb (by omega) (by simp)])
  have d4:=hpf2.cell 4;simp only[zS,zT]at d4;have HF2:=qB (zR hH2 (zR hF2 (zR hN2 hpf2)));have HI2:=qB hI2;clear hH2 hF2 hN2 hpf2 hI2 c1 c3 c4 hl HP;go_wp2_with (refine tL rfl _ _ _ _ rfl HI2.out Tryz.underlying3 Tryz.underlying123 (by rw[H.out.cn];unfold maxLen;have:=nQ S (fun s=>(G s).isSome=true);omega) rfl (s:Int) rfl (gZ (s:=s) (by omega)) (.agg #[.int .i64 a,.int .i64 b,.int .i64 x,.bool false]) rfl rfl ?_;intro w3 hI3 hF3)
  rw[cZ,h0]at hI3;simp only[Option.map_none,Option.isSome_none,Bool.false_eq_true,if_false]at hI3;have hI3' :dF Tryz.prog 3 .i64 okA w3 mb (iG (bW G s (some (a,b,x))) (aA G)) (n+1):=by rw[<-aPQ ht];exact hI3
  have hF13:Fr (mb::l) w w3:=((HF0.out.mono (S' :=mb::l) (by simp)).trans' (HF2.out.2.1.mono (fun q hq=>.inl (by simp[hq])))).trans' (hF3.mono (fun q hq=>.inl (by simp at hq;simp[hq])));have hx1:pf∉mb::l:=by simp only[qF,not_or];exact⟨H.out.ne3,fun hm=>(HH.out.1 _ hm).1 rfl⟩
  have hx2:pl∉mb::l:=by simp only[qF,not_or];exact⟨H.out.ne4,fun hm=>(HH.out.1 _ hm).2.1 rfl⟩
  have hx3:g∉mb::l:=by simp only[qF,not_or];exact⟨H.out.ne5,fun hm=>(HH.out.1 _ hm).2.2.1 rfl⟩
  have hB3:=H.out.new h0 ht hs ha hb hab hx hF13 hx1 hx2 hx3 hI3';have hL3:LM w3 pl g (S+V) (TE S G (aA G)) key:=H.out.lct.fr hF13 hx2 hx3;have hH3:dI w3 ph S (qOf (bW G s (some (a,b,x)))) (n+1) l' :=by
    rw[<-aUJ (e:=(a,b,x))];exact HF2.out.1.fr hF3 (fun q hq hm=>by
      simp at hm;subst hm;rcases HF2.out.2.2.1 _ hq with e|e
      · exact(HH.out.1 _ e).2.2.2 rfl
      · simp at e;omega)
  have e1:=hB3.hd.cell 1;have e2:=hB3.hd.cell 2;simp only[zS,zT]at e1 e2;have hw1:IntKind.i64.wrap ((S:Int)+a)=(S:Int)+a:=zP _ (by omega);have hw2:IntKind.i64.wrap ((S:Int)+b)=(S:Int)+b:=zP _ (by omega);have HM:=qB (aXV (show LG w3.drew pl g (S+V) (TE S G (aA G)) key _ from LG.fr hL3 (Fr.refl [] _).drew (by simp) (by simp)) ((S:Int)+a) ((S:Int)+b));have H3:=qB (zR hB3 (zR hH3 hF13));clear hI3 hI3' hF3 hF13 hB3 hL3 hH3 d4;have HN:=qB (zR H.out.ne1 (zR H.out.ne2 hlt))
  go_region_held3 (fun w' => w'.cell? ⟨pf, 1, none⟩ = some (.int .i64 S) /\ w'.cell? ⟨pf, 2, none⟩ = some (cA pl))
    (first
      | go_keep
      | (have N:=HN.out;exact⟨hF4.cell (by simp_all) (by simp;omega),hF4.cell (by simp_all) (by simp;omega)⟩))
    (first
      | (go_at_call 82;refine HM.out.mono ?_;rintro e w4 ⟨r,ok,rfl,hsay,hL4,hF4⟩))
  have hB4:=H3.out.1.asked (show LM w4 pl g (S+V) (TE S (bW G s (some (a,b,x))) (aA G)) key by rw[aZH ht];exact hL4) (((Fr.refl [g] w3).drew).trans' hF4);have hlen4:=hF4.size;have hH4:=H3.out.2.1.fr (((Fr.refl [g] w3).drew).trans' hF4) (fun q hq hm=>by
    simp at hm;subst hm;rcases HF2.out.2.2.1 _ hq with e|e
    · exact(HH.out.1 _ e).2.2.1 rfl
    · simp at e;omega)
  have hF04:Fr (pf::pl::g::mb::l) w w4:=(H3.out.2.2.mono (S' :=pf::pl::g::mb::l) (fun q hq=>.inl (by simp at hq ⊢;grind))).trans' ((((Fr.refl [g] w3).drew).trans' hF4).mono (fun q hq=>.inl (by simp at hq ⊢;grind)));have hdis:∀q∈l', q≠pf/\q≠pl/\q≠g/\q≠mb:=by
    intro q hq;rcases HF2.out.2.2.1 _ hq with e|e
    · exact HH.out.1 _ e
    · simp at e;omega
  have hnew:∀q∈pf::pl::g::mb::l', q∈pf::pl::g::mb::l∨w.heap.size<=q:=by
    intro q hq;simp only[qF]at hq ⊢;rcases hq with e|e|e|e|e
    · exact .inl (.inl e)
    · exact .inl (.inr (.inl e))
    · exact .inl (.inr (.inr (.inl e)))
    · exact .inl (.inr (.inr (.inr (.inl e))))
    · rcases HF2.out.2.2.1 _ e with e | e
      · exact .inl (.inr (.inr (.inr (.inr e))))
      · simp at e;exact .inr (by omega)
  have H4:=qB (zR hB4 (zR hH4 (zR hF04 (zR hdis hnew))));have HS:=qB (zR hsay hL4);clear hB4 hH4 hF04 hdis hnew hsay hL4 hF4 HM e1 e2;cases ok with
  | false=>
    have hc:¬Cx G (aA G) a b:=by
      rcases HS.out.1 with⟨_,_,hn⟩|⟨e,_⟩
      · intro hc
        exact hn ⟨by simp[inV];omega,by simp[inV];omega,by
          rw[show((S:Int)+a).toNat=S+a by omega,show((S:Int)+b).toNat=S+b by omega];exact tU (LG.frs HS.out.2) hc⟩
      · cases e
    have HFa:=qB (aEH H4.out.1 (bE _ _ _) ht (fun e=>hc ((aPS ht _).1 e)));have HC:=qB hc;clear hc;go_wp2_with fail
    refine HFa.out.mono ?_;rintro _ w5 ⟨rfl,hB5,hF5⟩;have H5:=qB (zR hB5 hF5);clear hB5 hF5;go_wp2
    go_ret;exact⟨rfl,_,⟨pl,g,ph,mb,l', _,n+1,H5.out.1.congrT (fun t=>(aTN H.out.gw.slot h0 HC.out t).symm),H4.out.2.1.fr H5.out.2 (fun q hq hm=>by have:=H4.out.2.2.2.1 q hq;simp at hm;grind),H4.out.2.2.2.1,rfl⟩,H4.out.2.2.1.trans' (H5.out.2.mono (fun q hq=>.inl (by simp at hq ⊢;grind))),H4.out.2.2.2.2⟩
  | true=>
    obtain⟨m,ma,mz,y,hr,hms,hgm,htm,hcx,hcut⟩:∃(m ma mz:Nat) (y:Int),r=m/\m<S/\G m=some (ma,mz,y)/\aA G m/\Cx G (fun t=>aA G t/\(t=m∨Aft G m y t)) a b/\¬Cx G (fun t=>aA G t/\t≠m) a b:=by
      rcases HS.out.1 with⟨e,_⟩|⟨_,v,u,p,m,e1,e2,h3,h4,hp,hin,hf,hr⟩
      · cases e
      · obtain rfl : v = S + a := by omega
        obtain rfl:u=S+b:=by omega
        obtain⟨ma,mz,y,h5,h6,h7,h8⟩:=vW H.out.gw H.out.keys hp hab hf hin;exact⟨m,ma,mz,y,hr,h5,h6,h7,h8,aPA H.out.frs (aPD H.out.frs (fun _ h=>h.1)) hp hf.1 h5⟩
    subst hr;have hmne:m≠s:=by rintro rfl;rw[h0]at hgm;cases hgm
    have hgm' :bW G s (some (a,b,x)) m=some (ma,mz,y):=by rw[aG hmne];exact hgm
    have hl4:=H4.out.1.edges.run_get (t:=123) (e:=128) (z:=edZ) Tryz.underlying3 Tryz.underlying123 (by kernel_rfl) rfl (gZ (s:=m) (by omega));rw[cZ,hgm']at hl4;simp only[Option.map_some,Option.getD_some,htm,decide_true,edV]at hl4;have c4:=H4.out.1.hd.cell 4;simp only[zS,zT]at c4;have HG:=qB (zR hgm (zR htm (zR hcx (zR hcut hgm'))));clear hgm htm hcx hcut hgm';have hf45:Fr [] w4 (w4.alloc (.cells #[.int .i64 ma,.int .i64 mz,.int .i64 y,.bool true] 128)):=(Fr.refl _ _).alloc _;have HF45:=qB hf45;clear hf45;have HLo:=qB (aEF (H4.out.1.fr0 HF45.out) HG.out.2.2.2.2 HG.out.2.1);by_cases hb:bef x s y m
    · have HB' := qB hb
      have late:∀t,aA G t↔aA (bW G s (some (a,b,x))) t:=fun t=>(aOT h0 (HG.out.2.2.1.mono fun t _ ht _=>by
        rcases ht.2 with rfl|⟨c,d,z,h1,h2⟩
        · exact⟨_,_,_,HG.out.1,HB'.out⟩
        · exact⟨c,d,z,h1,fX HB'.out h2⟩) t).symm
      have HE:=qB (show ∃L', FAt (w4.alloc (.cells #[.int .i64 ma,.int .i64 mz,.int .i64 y,.bool true] 128)) pf S V (bW G s (some (a,b,x))) L' /\ Fr (pf::pl::g::mb::l) w (w4.alloc (.cells #[.int .i64 ma,.int .i64 mz,.int .i64 y,.bool true] 128))/\∀q∈L', q∈pf::pl::g::mb::l∨w.heap.size<=q from
        ⟨_,⟨pl,g,ph,mb,l', _,n+1,(H4.out.1.fr0 HF45.out).congrT late,H4.out.2.1.fr HF45.out (by simp),H4.out.2.2.2.1,rfl⟩,H4.out.2.2.1.trans' (HF45.out.mono (by simp)),H4.out.2.2.2.2⟩)
      clear late HLo;unfold bef at hb;by_cases h1:x<y
      · clear hb
        go_wp2_with fail
        go_ret;exact⟨rfl,HE.out⟩
      · have h2 : x = y := by omega
        have h3:s<m:=by omega
        subst h2;clear hb h1;go_wp2_with fail
        go_ret;exact⟨rfl,HE.out⟩
    · have hb' := aBF (show s ≠ m from hmne.symm) hb
      have HB' :=qB hb';unfold bef at hb hb';have swp:∀t,(aA G t/\t≠m)∨t=s↔aA (bW G s (some (a,b,x))) t:=fun t=>(aOU H.out.gw.slot h0 HG.out.1 HG.out.2.2.1 HG.out.2.2.2.1 HB'.out t).symm;have HSw:=qB swp;have HNC:=qB (show ¬Cx (bW G s (some (a,b,x))) (fun t=>aA G t/\t≠m) a b from fun e=>HG.out.2.2.2.1 ((aPS (fun h=>ht h.1) _).1 e));have n1:decide (x<y)=false:=qK (by omega);have n2:¬(x<y):=by omega
      have hfa:Hid (∀w5:World,FB w5 pf pl g ph mb S V (bW G s (some (a,b,x))) (fun t=>aA G t/\t≠m) key (n+1)->Calls Tryz.prog 161 #[cA pf,.int .i64 s] w5 fun e w' =>e=.returned (.tuple #[])/\FB w' pf pl g ph mb S V (bW G s (some (a,b,x))) (fun t=>(aA G t/\t≠m)∨t=s) (fH (S+V) key s x) (n+1)/\Fr [pf,pl,g,mb] w5 w'):=
        qB (fun w5 hB5=>aEH hB5 (bE _ _ _) (fun h=>ht h.1) HNC.out)
      have fin:Hid (∀w5 w6:World,Fr [pf,pl,g,mb] (w4.alloc (.cells #[.int .i64 ma,.int .i64 mz,.int .i64 y,.bool true] 128)) w5->Fr [pf,pl,g,mb] w5 w6->FB w6 pf pl g ph mb S V (bW G s (some (a,b,x))) (fun t=>(aA G t/\t≠m)∨t=s) (fH (S+V) key s x) (n+1) ->
          ∃L', FAt w6 pf S V (bW G s (some (a,b,x))) L' /\ Fr (pf::pl::g::mb::l) w w6/\∀q∈L', q∈pf::pl::g::mb::l∨w.heap.size<=q):=qB (fun w5 w6 f5 f6 hB6=>by
        have f46:Fr [pf,pl,g,mb] w4 w6:=((HF45.out.mono (by simp)).trans' f5).trans' f6;exact⟨_,⟨pl,g,ph,mb,l', _,n+1,hB6.congrT HSw.out,H4.out.2.1.fr f46 (fun q hq hm=>by have:=H4.out.2.2.2.1 q hq;simp at hm;grind),H4.out.2.2.2.1,rfl⟩,H4.out.2.2.1.trans' (f46.mono (fun q hq=>.inl (by simp at hq ⊢;grind))),H4.out.2.2.2.2⟩)
      clear swp hb';by_cases e:x=y
      · have n3 : decide (s < m) = false := qK (by omega)
        subst e;clear hb;go_wp2_with fail
        refine HLo.out.mono ?_;rintro _ w5 ⟨rfl,hB5,hF5⟩;have HF5:=qB hF5;have HFa:=qB (hfa.out _ hB5);clear hB5 hF5;go_wp2_with fail
        refine HFa.out.mono ?_;rintro _ w6 ⟨rfl,hB6,hF6⟩;have HF6:=qB (fin.out w5 w6 HF5.out hF6 hB6);clear hB6 hF6;go_wp2_with fail
        go_ret;exact⟨rfl,HF6.out⟩
      · have n3 : (x == y) = false := by simp [e]
        have n4:(y == x)=false:=by simp;omega
        clear hb;go_wp2_with fail
        refine HLo.out.mono ?_;rintro _ w5 ⟨rfl,hB5,hF5⟩;have HF5:=qB hF5;have HFa:=qB (hfa.out _ hB5);clear hB5 hF5;go_wp2_with fail
        refine HFa.out.mono ?_;rintro _ w6 ⟨rfl,hB6,hF6⟩;have HF6:=qB (fin.out w5 w6 HF5.out hF6 hB6);clear hB6 hF6;go_wp2_with fail
        go_ret;exact⟨rfl,HF6.out⟩
end
noncomputable def eN(V:Nat)(G:bG)(a b:Int):Bool:=inV V a&&inV V b&&decide (Cx G (fun _=>True) a.toNat b.toNat)
noncomputable def mZ(V:Nat)(G:bG)(a:Int):Int:=if inV V a then(cxs V G (fun _=>True) a.toNat:Int) else 0
theorem tW{S V:Nat}{G:bG}(h:GW S V G)(a b:Nat):Cx G (aA G) a b↔Cx G (fun _=>True) a b:=
  ⟨fun hc=>hc.mono fun _ _ _ _=>trivial,fun hc=>tS h.slot hc⟩
section
variable {w w' :World} {pf pl g ph mb S V n:Nat} {G:bG} {key:Nat->Int}
theorem aUM(h:FB w pf pl g ph mb S V G (aA G) key n)(a b:Int):
    Calls Tryz.prog 40 #[cA pf,.int .i64 a,.int .i64 b] w fun e w' =>e=.returned (.bool (eN V G a b))/\FB w' pf pl g ph mb S V G (aA G) key n/\Fr [g] w w' :=by
 have HH:=qB (fun(w' :World) (h:FB w' pf pl g ph mb S V G (aA G) key n) (v:Int)=>jJ h v);have hS:=h.leS;have hV:=h.leV;have H:=qB h;cases ha:inV V a with
 | false=>{
 have e:eN V G a b=false:=by simp[eN,ha]
 rw[e];clear h e;go_enter Tryz.func40,Tryz.ntmps40
 go_wp2_with fail
 refine dJ (fun w' =>FB w' pf pl g ph mb S V G (aA G) key n/\Fr [g] w w') (by kernel_rfl) (by kernel_rfl) ⟨H.out.fr0 (Fr.refl [] w).drew,(Fr.refl [g] w).drew⟩ ?_;iterate 2 (refine aE (by kernel_rfl) (fun KK hK=>?_);go_simp;refine hK.out _ ?_;clear hK KK)
 refine aU (by kernel_rfl) (.bool false) (fun w' hw' =>?_) ?_
 {
 go_simp;refine(HH.out _ hw'.1 a).mono ?_;rintro _ w2 ⟨rfl,rfl⟩;exact⟨by rw[ha],hw'⟩}
 (refine aE (by kernel_rfl) (fun KK hK=>?_);go_simp;refine hK.out _ ?_;clear hK KK)
 iterate 3 (refine nM (by kernel_rfl) ?_;go_frame)
 iterate 2 (refine aE (by kernel_rfl) (fun KK hK=>?_);go_simp;refine hK.out _ ?_;clear hK KK)
 iterate 18 (refine nM (by kernel_rfl) ?_;go_frame)
 iterate 2 (refine aE (by kernel_rfl) (fun KK hK=>?_);go_simp;refine hK.out _ ?_;clear hK KK)
 refine iJ ?_;rintro w2 ⟨h1,h2⟩;have H2:=qB (zR h1 h2);clear h1 h2;go_wp2
 go_ret;exact⟨rfl,H2.out⟩}
 | true=>{
 cases hb:inV V b with
 | false=>{
 have e:eN V G a b=false:=by simp[eN,ha,hb]
 rw[e];clear h e;go_enter Tryz.func40,Tryz.ntmps40
 go_wp2_with fail
 refine dJ (fun w' =>FB w' pf pl g ph mb S V G (aA G) key n/\Fr [g] w w') (by kernel_rfl) (by kernel_rfl) ⟨H.out.fr0 (Fr.refl [] w).drew,(Fr.refl [g] w).drew⟩ ?_;iterate 2 (refine aE (by kernel_rfl) (fun KK hK=>?_);go_simp;refine hK.out _ ?_;clear hK KK)
 refine aU (by kernel_rfl) (.bool true) (fun w' hw' =>?_) ?_
 {
 go_simp;refine(HH.out _ hw'.1 a).mono ?_;rintro _ w2 ⟨rfl,rfl⟩;exact⟨by rw[ha],hw'⟩};iterate 3 (refine aE (by kernel_rfl) (fun KK hK=>?_);go_simp;refine hK.out _ ?_;clear hK KK)
 refine aU (by kernel_rfl) (.bool false) (fun w' hw' =>?_) ?_
 {
 go_simp;refine(HH.out _ hw'.1 b).mono ?_;rintro _ w2 ⟨rfl,rfl⟩;exact⟨by rw[hb],hw'⟩};iterate 2 (refine aE (by kernel_rfl) (fun KK hK=>?_);go_simp;refine hK.out _ ?_;clear hK KK)
 iterate 18 (refine nM (by kernel_rfl) ?_;go_frame)
 iterate 2 (refine aE (by kernel_rfl) (fun KK hK=>?_);go_simp;refine hK.out _ ?_;clear hK KK)
 refine iJ ?_;rintro w2 ⟨h1,h2⟩;have H2:=qB (zR h1 h2);clear h1 h2;go_wp2
 go_ret;exact⟨rfl,H2.out⟩}
 | true=>{
 obtain⟨a,rfl,ha'⟩:=cL ha;obtain⟨b,rfl,hb'⟩:=cL hb;have hw1:IntKind.i64.wrap ((S:Int)+a)=(S:Int)+a:=zP _ (by omega);have hw2:IntKind.i64.wrap ((S:Int)+b)=(S:Int)+b:=zP _ (by omega);have e:vQ (S+V) (TE S G (aA G)) ((S:Int)+a) ((S:Int)+b)=eN V G a b:=by {
 have e1:eN V G a b=decide (Cx G (fun _=>True) a b):=by simp[eN,ha,hb]
 rw[e1];unfold vQ;refine decide_eq_decide.2 ?_;rw[<-tW h.gw,<-vU h.gw.slot h.frs];unfold kO;rw[show((S:Int)+a).toNat=S+a by omega,show((S:Int)+b).toNat=S+b by omega];exact⟨fun h=>h.2.2,fun h=>⟨by simp[inV];omega,by simp[inV];omega,h⟩⟩};have HC:=qB (fun(w' :World) (h:FB w' pf pl g ph mb S V G (aA G) key n/\Fr [g] w w')=>(show Calls Tryz.prog 83 #[cA pl,.int .i64 ((S:Int)+a),.int .i64 ((S:Int)+b)] w' fun e w'' =>e=.returned (.bool (eN V G a b))/\FB w'' pf pl g ph mb S V G (aA G) key n/\Fr [g] w w'' by
   have hC:=aDS h.1.lct ((S:Int)+a) ((S:Int)+b);rw[e]at hC;exact hC.mono fun e w'' ⟨h1,h2,h3⟩=>⟨h1,h.1.asked h2 h3,h.2.trans' h3⟩))
 clear h e;generalize eN V G a b=r at *;go_enter Tryz.func40,Tryz.ntmps40
 go_wp2_with fail
 refine dJ (fun w' =>FB w' pf pl g ph mb S V G (aA G) key n/\Fr [g] w w') (by kernel_rfl) (by kernel_rfl) ⟨H.out.fr0 (Fr.refl [] w).drew,(Fr.refl [g] w).drew⟩ ?_;iterate 2 (refine aE (by kernel_rfl) (fun KK hK=>?_);go_simp;refine hK.out _ ?_;clear hK KK)
 refine aU (by kernel_rfl) (.bool true) (fun w' hw' =>?_) ?_
 {
 go_simp;refine(HH.out _ hw'.1 a).mono ?_;rintro _ w2 ⟨rfl,rfl⟩;exact⟨by rw[ha],hw'⟩};iterate 3 (refine aE (by kernel_rfl) (fun KK hK=>?_);go_simp;refine hK.out _ ?_;clear hK KK)
 refine aU (by kernel_rfl) (.bool true) (fun w' hw' =>?_) ?_
 {
 go_simp;refine(HH.out _ hw'.1 b).mono ?_;rintro _ w2 ⟨rfl,rfl⟩;exact⟨by rw[hb],hw'⟩};iterate 6 (refine aE (by kernel_rfl) (fun KK hK=>?_);go_simp;refine hK.out _ ?_;clear hK KK)
 refine aU (by kernel_rfl) (cA pl) (fun w' hw' =>?_) ?_
 {
 have c2:=hw'.1.hd.cell 2;simp only[zS,zT]at c2;go_simp};iterate 3 (refine aE (by kernel_rfl) (fun KK hK=>?_);go_simp;refine hK.out _ ?_;clear hK KK)
 refine aU (by kernel_rfl) (.int .i64 S) (fun w' hw' =>?_) ?_
 {
 have c1:=hw'.1.hd.cell 1;simp only[zS,zT]at c1;go_simp};iterate 5 (refine aE (by kernel_rfl) (fun KK hK=>?_);go_simp;refine hK.out _ ?_;clear hK KK)
 refine aU (by kernel_rfl) (.int .i64 S) (fun w' hw' =>?_) ?_
 {
 have c1:=hw'.1.hd.cell 1;simp only[zS,zT]at c1;go_simp};iterate 2 (refine aE (by kernel_rfl) (fun KK hK=>?_);go_simp;refine hK.out _ ?_;clear hK KK)
 refine aU (by kernel_rfl) (.bool r) (fun w' hw' =>?_) ?_
 {
 go_simp;exact HC.out _ hw'};iterate 2 (refine aE (by kernel_rfl) (fun KK hK=>?_);go_simp;refine hK.out _ ?_;clear hK KK)
 refine iJ ?_;rintro w2 ⟨h1,h2⟩;have H2:=qB (zR h1 h2);clear h1 h2;go_wp2
 go_ret;exact⟨rfl,H2.out⟩}}
theorem aUN(h:FB w pf pl g ph mb S V G (aA G) key n)(a:Int):
    Calls Tryz.prog 59 #[cA pf,.int .i64 a] w fun e w' =>e=.returned (.int .i64 (mZ V G a))/\FB w' pf pl g ph mb S V G (aA G) key n/\Fr [g] w w' :=by
 have c1:=h.hd.cell 1;have c2:=h.hd.cell 2;simp only[zS,zT]at c1 c2;have HA:=jJ h a;have hS:=h.leS;have hV:=h.leV;cases ha:inV V a with
 | false=>{
 rw[ha]at HA;have e:mZ V G a=0:=by simp[mZ,ha]
 rw[e];have HA:=qB HA;have H:=qB h;clear h e;go_enter Tryz.func59,Tryz.ntmps59
 go_wp2_with fail
 refine HA.out.mono ?_;rintro _ w1 ⟨rfl,rfl⟩;go_wp2
 go_ret;exact⟨rfl,H.out,Fr.refl _ _⟩}
 | true=>{
 rw[ha]at HA;obtain⟨a,rfl,ha'⟩:=cL ha;have hw1:IntKind.i64.wrap ((S:Int)+a)=(S:Int)+a:=zP _ (by omega);have e1:mZ V G a=(cxs V G (aA G) a:Int):=by {
 have:cxs V G (aA G) a=cxs V G (fun _=>True) a:=bX fun v=>tW h.gw a v;simp[mZ,ha,this]};rw[e1];have he:=aPE h.gw h.frs ha';have hle:=aDO (S+V) (TE S G (aA G)) (S+a);generalize hz:csize (S+V) (TE S G (aA G)) (S+a)=z at *;have HE:=qB hz;clear hz;generalize cxs V G (aA G) a=y at *;have HZ:=qB (zR he hle);have hw2:IntKind.i64.wrap ((z:Int)+1)=2*(y:Int):=by rw[show(z:Int)+1=2*(y:Int) by omega];exact zP _ (by omega)
 have hw3:IntKind.i64.wrap (y:Int)=(y:Int):=zP _ (by omega);have HA:=qB HA;have H:=qB h;have HC:=qB (fun(w' :World) (h:FB w' pf pl g ph mb S V G (aA G) key n/\Fr [g] w w')=>(show Calls Tryz.prog 116 #[cA pl,.int .i64 ((S:Int)+a)] w' fun e w'' =>e=.returned (.int .i64 z)/\FB w'' pf pl g ph mb S V G (aA G) key n/\Fr [g] w w'' by
   have hC:=aYV h.1.lct ((S:Int)+a);rw[qI (by simp[inV];omega),show((S:Int)+a).toNat=S+a by omega,HE.out]at hC;exact hC.mono fun e w'' ⟨h1,h2,h3⟩=>⟨h1,h.1.asked h2 h3,h.2.trans' h3⟩))
 clear h e1 he hle c1 c2;go_enter Tryz.func59,Tryz.ntmps59
 go_wp2_with fail
 refine HA.out.mono ?_;rintro _ w1 ⟨rfl,rfl⟩;go_wp2_with fail
 refine dJ (fun w' =>FB w' pf pl g ph mb S V G (aA G) key n/\Fr [g] w1 w') (by kernel_rfl) (by kernel_rfl) ⟨H.out.fr0 (Fr.refl [] w1).drew,(Fr.refl [g] w1).drew⟩ ?_;iterate 4 (refine aE (by kernel_rfl) (fun KK hK=>?_);go_simp;refine hK.out _ ?_;clear hK KK)
 refine aU (by kernel_rfl) (cA pl) (fun w' hw' =>?_) ?_
 {
 have c2:=hw'.1.hd.cell 2;simp only[zS,zT]at c2;go_simp};iterate 3 (refine aE (by kernel_rfl) (fun KK hK=>?_);go_simp;refine hK.out _ ?_;clear hK KK)
 refine aU (by kernel_rfl) (.int .i64 S) (fun w' hw' =>?_) ?_
 {
 have c1:=hw'.1.hd.cell 1;simp only[zS,zT]at c1;go_simp};iterate 2 (refine aE (by kernel_rfl) (fun KK hK=>?_);go_simp;refine hK.out _ ?_;clear hK KK)
 refine aU (by kernel_rfl) (.int .i64 z) (fun w' hw' =>?_) ?_
 {
 go_simp;exact HC.out _ hw'};iterate 3 (refine aE (by kernel_rfl) (fun KK hK=>?_);go_simp;refine hK.out _ ?_;clear hK KK)
 refine iJ ?_;rintro w2 ⟨h1,h2⟩;have H2:=qB (zR h1 h2);clear h1 h2;go_wp2
 go_ret;exact⟨rfl,H2.out⟩}
@[go_sem] theorem bCP(e1 e2 e3:Int)(tb:Bool)(w:World):(Instr.field 128 (.agg #[.int .i64 e1,.int .i64 e2,.int .i64 e3,.bool tb]) 2).run Tryz.prog w=.ok (.int .i64 e3) w:=by kernel_rfl
@[go_sem] theorem bCE(e1 e2 e3:Int)(tb:Bool)(w:World):(Instr.field 128 (.agg #[.int .i64 e1,.int .i64 e2,.int .i64 e3,.bool tb]) 3).run Tryz.prog w=.ok (.bool tb) w:=by kernel_rfl
noncomputable def dG(V:Nat)(G:bG)(a b:Int):Bool:=decide (a≠b)&&eN V G a b
noncomputable def eZ(V:Nat)(G:bG)(a b:Int):Int:=if dG V G a b then vZ G a.toNat b.toNat else 0
theorem aPU(h:FB w pf pl g ph mb S V G (aA G) key n)(a b:Int):
    Calls Tryz.prog 39 #[cA pf,.int .i64 a,.int .i64 b] w fun e w' =>e=.returned (.tuple #[.int .i64 (eZ V G a b),.bool (dG V G a b)])/\FB w' pf pl g ph mb S V G (aA G) key n/\Fr [g] w w' :=by
 have HA:=jJ h a;have HB:=jJ h b;have hS:=h.leS;have hV:=h.leV;have H:=qB h;cases ha:inV V a with
 | false=>{
 have e:dG V G a b=false:=by simp[dG,eN,ha]
 have e' :eZ V G a b=0:=by simp[eZ,e]
 rw[e,e'];rw[ha]at HA;have HA:=qB HA;clear h e e' HB;go_enter Tryz.func39,Tryz.ntmps39
 go_wp2_with fail
 refine HA.out.mono ?_;rintro _ w1 ⟨rfl,rfl⟩;go_wp2
 go_ret2;exact⟨rfl,H.out,Fr.refl _ _⟩}
 | true=>{
 rw[ha]at HA;cases hb:inV V b with
 | false=>{
 have e:dG V G a b=false:=by simp[dG,eN,hb]
 have e' :eZ V G a b=0:=by simp[eZ,e]
 rw[e,e'];rw[hb]at HB;have HA:=qB HA;have HB:=qB HB;clear h e e';go_enter Tryz.func39,Tryz.ntmps39
 go_wp2_with fail
 refine HA.out.mono ?_;rintro _ w1 ⟨rfl,rfl⟩;go_wp2_with fail
 refine HB.out.mono ?_;rintro _ w1 ⟨rfl,rfl⟩;go_wp2
 go_ret2;exact⟨rfl,H.out,Fr.refl _ _⟩}
 | true=>{
 rw[hb]at HB;have HA:=qB HA;have HB:=qB HB;obtain⟨a,rfl,ha'⟩:=cL ha;obtain⟨b,rfl,hb'⟩:=cL hb;by_cases hab:a=b
 {
 subst hab;have e:dG V G a a=false:=by simp[dG]
 have e' :eZ V G a a=0:=by simp[eZ,e]
 rw[e,e'];clear h e e';go_enter Tryz.func39,Tryz.ntmps39
 go_wp2_with fail
 refine HA.out.mono ?_;rintro _ w1 ⟨rfl,rfl⟩;go_wp2_with fail
 refine HB.out.mono ?_;rintro _ w1 ⟨rfl,rfl⟩;go_wp2
 go_ret2;exact⟨rfl,H.out,Fr.refl _ _⟩}
 {
 have t1:((a:Int) == (b:Int))=false:=by simp;omega
 have hw1:IntKind.i64.wrap ((S:Int)+a)=(S:Int)+a:=zP _ (by omega);have hw2:IntKind.i64.wrap ((S:Int)+b)=(S:Int)+b:=zP _ (by omega);have HN:=qB (zR h.ne1 (zR h.ne2 h.lt));have HM:=qB (aXV (show LG w.drew pl g (S+V) (TE S G (aA G)) key _ from LG.fr h.lct (Fr.refl [] _).drew (by simp) (by simp)) ((S:Int)+a) ((S:Int)+b));have e1:=h.hd.cell 1;have e2:=h.hd.cell 2;simp only[zS,zT]at e1 e2;clear h;go_enter Tryz.func39,Tryz.ntmps39
 go_wp2_with fail
 refine HA.out.mono ?_;rintro _ w1 ⟨rfl,rfl⟩;go_wp2_with fail
 refine HB.out.mono ?_;rintro _ w1 ⟨rfl,rfl⟩;go_wp2
 go_region_held3 (fun w' => w'.cell? ⟨pf, 1, none⟩ = some (.int .i64 S) /\ w'.cell? ⟨pf, 2, none⟩ = some (cA pl))
   (first
     | go_keep
     | (have N:=HN.out;exact⟨hF4.cell (by simp_all) (by simp;omega),hF4.cell (by simp_all) (by simp;omega)⟩))
   (first
     | (go_at_call 82;refine HM.out.mono ?_;rintro e w4 ⟨r,ok,rfl,hsay,hL4,hF4⟩))
 have hB4:=H.out.asked hL4 (((Fr.refl [g] w1).drew).trans' hF4);have H4:=qB (zR hB4 (((Fr.refl [g] w1).drew).trans' hF4));have HS:=qB (zR hsay hL4);clear hB4 hsay hL4 hF4 HM e1 e2;cases ok with
 | false=>{
 have e:dG V G a b=false:=by {
 rcases HS.out.1 with⟨_,_,hn⟩|⟨e,_⟩
 {
 have hc:¬Cx G (fun _=>True) a b:=by {
 intro hc;exact hn ⟨by simp[inV];omega,by simp[inV];omega,by
   rw[show((S:Int)+a).toNat=S+a by omega,show((S:Int)+b).toNat=S+b by omega];exact tU H.out.frs ((tW H.out.gw a b).2 hc)⟩};simp[dG,eN,hc]}
 · cases e};have e' :eZ V G a b=0:=by simp[eZ,e]
 have HE:=qB (zR e e');clear e e';go_wp2
 go_ret2;exact⟨by rw[HE.out.1,HE.out.2];rfl,H4.out⟩}
 | true=>{
 obtain⟨m,ma,mz,y,hr,hms,hgm,htm,hu,hcx⟩:∃(m ma mz:Nat) (y:Int),r=m/\m<S/\G m=some (ma,mz,y)/\aA G m/\dU G a b y/\Cx G (fun _=>True) a b:=by {
 rcases HS.out.1 with⟨e,_⟩|⟨_,v,u,p,m,e1,e2,h3,h4,hp,hin,hf,hr⟩
 · cases e
 {
 obtain rfl:v=S+a:=by omega
 obtain rfl:u=S+b:=by omega
 obtain⟨ma,mz,y,h5,h6,h7,h8⟩:=vW H.out.gw H.out.keys hp hab hf hin;exact⟨m,ma,mz,y,hr,h5,h6,h7,aDY H.out.gw.slot h6 h8 (aPA H.out.frs (aPD H.out.frs (fun _ h=>h.1)) hp hf.1 h5),h8.mono fun _ _ _ _=>trivial⟩}};subst hr;have e:dG V G a b=true:=by simp[dG,eN,ha,hb,hcx];omega
 have e' :eZ V G a b=y:=by rw[eZ,qI e,zM,zM];exact sG hu
 have HE:=qB (zR e e');have hl4:=H4.out.1.edges.run_get (t:=123) (e:=128) (z:=edZ) Tryz.underlying3 Tryz.underlying123 (by kernel_rfl) rfl (gZ (s:=m) (by omega));rw[cZ,hgm]at hl4;simp only[Option.map_some,Option.getD_some,htm,decide_true,edV]at hl4;have c4:=H4.out.1.hd.cell 4;simp only[zS,zT]at c4;clear e e' hu hcx htm hgm;go_wp2
 go_ret2;exact⟨by rw[HE.out.1,HE.out.2];rfl,H4.out⟩}}}}
end
section
variable {w w' :World} {pf pl g ph mb S V n:Nat} {G:bG} {T T' :Nat->Prop} {key:Nat->Int} {l L:List Nat}
theorem aLN{m:Nat}(hT:∀t,t≠m->(T t↔T' t)):lC (iG G T) m none=iG (bW G m none) T' :=by
 funext k
 by_cases hk:k=(m:Int)
 · subst hk;rw[cV,cZ,bE];rfl
 {
 rw[bP hk];unfold iG;by_cases h0:0<=k
 {
 have:k.toNat≠m:=by omega
 rw[aG this];simp only[hT _ this]}
 · simp only[h0,if_false]}
theorem aPV{m:Nat}:oB (qOf G) m none=qOf (bW G m none):=by
 funext k
 by_cases hk:k=m
 · subst hk;rw[kS];simp[qOf,bE]
 · rw[gY hk];simp[qOf,aG hk]
theorem FB.gone(h:FB w pf pl g ph mb S V G T key n){m:Nat}{e:Nat×Nat×Int}(hm:G m=some e)(ht:¬T m){X:List Nat}(hf:Fr X w w')(h1:pf∉X)(h2:pl∉X)(h3:g∉X)(hI:dF Tryz.prog 3 .i64 okA w' mb (iG (bW G m none) T) (n-1)):
    FB w' pf pl g ph mb S V (bW G m none) T key (n-1):=by
 have hms:=h.gw.slot _ _ hm;have e' :TE S (bW G m none) T=TE S G T:=vV (fun _=>Iff.rfl) (fun t ht' =>by rw[aG];rintro rfl;exact ht ht');have hc:bL S (fun s=>(bW G m none s).isSome=true)+1=bL S (fun s=>(G s).isSome=true):=pY hms (by simp[hm]) (by simp[bE]) (fun x hx=>by rw[aG hx]);refine⟨hf.blk h.hd h1,?_,hI,h.gw.del m,⟨fun t c d y h4 h5=>?_,h.keys.vert⟩,?_,h.leS,h.leV,h.ne1,h.ne2,h.ne3,h.ne4,h.ne5⟩
 · rw[e'];exact h.lct.fr hf h2 h3
 {
 rw[aG (by rintro rfl;exact ht h5)]at h4;exact h.keys.slot t c d y h4 h5}
 · rw[h.cn,<-hc,Nat.add_sub_cancel]
theorem aZI(h:FAt w pf S V G L):Calls Tryz.prog 45 #[cA pf] w fun e w' =>e=.returned (.tuple #[.int .i64 ((rA G).getD 0:Nat),.bool (rA G).isSome])/\∃L', FAt w' pf S V (xP G) L' /\ Fr L w w' /\ ∀q∈L', q∈L∨w.heap.size<=q:=by
  obtain⟨pl,g,ph,mb,l,key,n,h1,hH,hD,rfl⟩:=h;have hlt:=h1.lt;have hllt:=hH.lt;have hS:=h1.leS;have hV:=h1.leV;have c3:=h1.hd.cell 3;simp only[zS,zT]at c3;have HV:=qB (jI h1);have HP:=qB (aXT hH);have H:=qB h1;have HH:=qB (zR hD (zR hllt (zR hlt hH)));clear h1 hH hD hllt;go_enter Tryz.func45,Tryz.ntmps45
  go_wp2_with fail
  refine HV.out.mono ?_;rintro _ w ⟨rfl,rfl⟩;go_wp2_with fail
  refine HP.out.mono ?_;rintro _ w2 (⟨hn,rfl,hF2⟩|⟨hn,i,k,hq,hmin,rfl,l', hH2,hF2,hN2⟩)
  · have hz:∀s,G s=none:=by
      intro s;cases hs:G s with
      | none=>rfl
      | some e=>
        have:=H.out.cn;exact absurd (show(G s).isSome=true by simp[hs]) (kP (S:=S) (P:=fun s=>(G s).isSome=true) (by omega) s (H.out.gw.slot s e hs))
    have hfst:=aLK hz;have hpop:xP G=G:=by unfold xP;rw[hfst]
    have HE:=qB (zR hfst (zR hpop hF2));clear hz hfst hpop hF2;go_wp2
    go_ret2;refine⟨by rw[HE.out.1];rfl,_,⟨pl,g,ph,mb,l,key,n,?_,?_,HH.out.1,rfl⟩,(HE.out.2.2.mono (by simp)).alloc _,fun q hq=>.inl hq⟩
    · rw[HE.out.2.1];exact H.out.fr0 (HE.out.2.2.alloc _)
    · rw[HE.out.2.1];exact HH.out.2.2.2.fr (HE.out.2.2.alloc _) (by simp)
  · obtain⟨ma,mz,hg⟩:∃ma mz,G i=some (ma,mz,k):=by
      unfold qOf at hq;cases hs:G i with
      | none=>rw[hs]at hq;cases hq
      | some e=>rw[hs]at hq;simp at hq;subst hq;exact⟨e.1,e.2.1,rfl⟩
    have hall:∀t a b z,G t=some (a,b,z)->¬bef z t k i:=fun t a b z ht hb=>hmin t z (by simp[qOf,ht]) hb;have hfst:=aIQ (m:=i) ⟨ma,mz,k,hg,hall⟩;have hpop:xP G=bW G i none:=by unfold xP;rw[hfst]
    have hdel:=aLA hg hall;have his:=H.out.gw.slot _ _ hg;have hq4:=HH.out.1;have hx1:pf∉l:=fun hm=>(hq4 _ hm).1 rfl;have hx2:pl∉l:=fun hm=>(hq4 _ hm).2.1 rfl;have hx3:g∉l:=fun hm=>(hq4 _ hm).2.2.1 rfl;have hx4:mb∉l:=fun hm=>(hq4 _ hm).2.2.2 rfl;have hF3:Fr l w (w2.alloc (.cells #[.int .i64 i,.int .i64 k] 136)):=hF2.alloc _;have hB3:=H.out.fr hF3 hx1 hx2 hx3 hx4;have hH3:=hH2.fr ((Fr.refl [] w2).alloc (.cells #[.int .i64 i,.int .i64 k] 136)) (by simp);have hbx:=Blk.new w2 [.int .i64 i,.int .i64 k] 136;have hsz:=hF2.size;rw[aPV]at hH3;have c4:=hB3.hd.cell 4;have x0:=hbx.cell 0;simp only[zS,zT]at c4 x0;have hl0:=hB3.edges.run_get (t:=123) (e:=128) (z:=edZ) Tryz.underlying3 Tryz.underlying123 (by kernel_rfl) rfl (gZ (s:=i) (by omega));rw[cZ,hg]at hl0
    have fin:Hid (∀(T:Nat->Prop) (w4 w5:World),(∀t,T t↔aA (bW G i none) t)->FB w4 pf pl g ph mb S V G T key n->Fr [pf,pl,g,mb] (w2.alloc (.cells #[.int .i64 i,.int .i64 k] 136)) w4->Fr [mb] w4 w5->dF Tryz.prog 3 .i64 okA w5 mb (iG (bW G i none) T) (n-1) ->
        ∃L', FAt w5 pf S V (xP G) L' /\ Fr (pf::pl::g::mb::l) w w5/\∀q∈L', q∈pf::pl::g::mb::l∨w.heap.size<=q):=qB (fun T w4 w5 hT hB4 hF4 hF5 hI=>by
      have hn:¬T i:=fun h=>by obtain⟨_,_,_,e,_⟩:=(hT i).1 h;rw[bE]at e;cases e
      have hB5:=(hB4.gone hg hn hF5 (by simp;exact hB4.ne3) (by simp;exact hB4.ne4) (by simp;exact hB4.ne5) hI).congrT hT;have hF35:Fr [pf,pl,g,mb] (w2.alloc (.cells #[.int .i64 i,.int .i64 k] 136)) w5:=hF4.trans' (hF5.mono (fun q hq=>.inl (by simp at hq ⊢;exact .inr (.inr (.inr hq)))));have hd:∀q∈l', q≠pf/\q≠pl/\q≠g/\q≠mb:=by
        intro q hq;rcases hN2 _ hq with e|e
        · exact hq4 _ e
        · have:=HH.out.2.2.1;omega
      rw[hpop];refine⟨_,⟨pl,g,ph,mb,l', key,n-1,hB5,hH3.fr hF35 (fun q hq hm=>by have:=hd q hq;simp at hm;omega),hd,rfl⟩,(hF3.mono (fun q hq=>.inl (by simp[hq]))).trans' (hF35.mono (fun q hq=>.inl (by simp at hq ⊢;omega))),fun q hq=>?_⟩;simp only[qF]at hq ⊢;rcases hq with e|e|e|e|e
      · exact .inl (.inl e)
      · exact .inl (.inr (.inl e))
      · exact .inl (.inr (.inr (.inl e)))
      · exact .inl (.inr (.inr (.inr (.inl e))))
      · exact(hN2 _ e).imp (fun e=>.inr (.inr (.inr (.inr e)))) id)
    have del:Hid (∀(T:Nat->Prop) (w4:World),FB w4 pf pl g ph mb S V G T key n->∃w5,(Builtin.delete_ #[123,3] 0 #[.map (some mb),.int .i64 i]).run Tryz.prog w4=.ok (.tuple #[]) w5/\dF Tryz.prog 3 .i64 okA w5 mb (iG (bW G i none) T) (n-1)/\Fr [mb] w4 w5):=qB (fun T w4 hB4=>by
      obtain⟨w5,hr,hI,hF⟩:=hB4.edges.del (t:=123) (e:=128) Tryz.underlying3 Tryz.underlying123 (gZ (s:=i) (by omega)) 0;rw[cZ,hg,aLN (fun _ _=>Iff.rfl)]at hI;exact⟨w5,hr,hI,hF⟩)
    have HE:=qB (zR hfst (zR hdel (zR hB3 (zR hbx hsz))));have HF3:=qB hF3;have HH3:=qB hH3;have HG:=qB hg;have HLo:=qB (fun(w' :World) (h:FB w' pf pl g ph mb S V G (aA G) key n) (ht:aA G i)=>aEF h hg ht);clear hfst hpop hdel hB3 hbx hF3 hH3 hH2 hF2 hN2 hq hmin hall hx1 hx2 hx3 hx4 hq4 c3 hg;by_cases ht:aA G i
    · have HT := qB ht; clear ht
      have HL:=qB (fun(nq:Nat)=>(show(Instr.lookup 123 (.map (some mb)) (.int .i64 i) false).run Tryz.prog ((w2.alloc (.cells #[.int .i64 i,.int .i64 k] 136)).drewN nq)=.ok (.agg #[.int .i64 ma,.int .i64 mz,.int .i64 k,.bool true]) ((w2.alloc (.cells #[.int .i64 i,.int .i64 k] 136)).drewN nq) by
        have:=(HE.out.2.2.1.fr0 ((Fr.refl [] _).drewN nq)).edges.run_get (t:=123) (e:=128) (z:=edZ) Tryz.underlying3 Tryz.underlying123 (by kernel_rfl) rfl (gZ (s:=i) (by omega));rw[cZ,HG.out]at this;have ht:=HT.out;simpa only[Option.map_some,Option.getD_some,ht,decide_true,decide_false,edV] using this))
      clear hl0;go_wp2_with fail
      refine dJ (fun w' =>∃nq,w' =(w2.alloc (.cells #[.int .i64 i,.int .i64 k] 136)).drewN nq) (by kernel_rfl) (by kernel_rfl) ⟨1,rfl⟩ ?_;iterate 3 (refine aE (by kernel_rfl) (fun KK hK=>?_);go_simp;refine hK.out _ ?_;clear hK KK)
      refine aU (by kernel_rfl) (.map (some mb)) (fun w' hw' =>?_) ?_
      · obtain ⟨nq, rfl⟩ := hw'
        go_simp
      iterate 1 (refine aE (by kernel_rfl) (fun KK hK=>?_);go_simp;refine hK.out _ ?_;clear hK KK)
      refine aU (by kernel_rfl) (.int .i64 i) (fun w' hw' =>?_) ?_
      · obtain ⟨nq, rfl⟩ := hw'
        go_simp
      refine aU (by kernel_rfl) (.agg #[.int .i64 ma,.int .i64 mz,.int .i64 k,.bool true]) (fun w' hw' =>?_) ?_
      · obtain ⟨nq, rfl⟩ := hw'
        have hl:=HL.out nq;go_simp
      iterate 1 (refine aE (by kernel_rfl) (fun KK hK=>?_);go_simp;refine hK.out _ ?_;clear hK KK)
      refine iJ ?_;rintro w4 ⟨nq,rfl⟩;go_wp2_with fail
      refine(HLo.out _ (HE.out.2.2.1.fr0 ((Fr.refl [] _).drewN nq)) HT.out).mono ?_;rintro _ w4 ⟨rfl,hB4,hF4'⟩;have hF4:Fr [pf,pl,g,mb] (w2.alloc (.cells #[.int .i64 i,.int .i64 k] 136)) w4:=((Fr.refl _ _).drewN nq).trans' hF4';have hpf4:=hB4.hd;have hbx4:=hF4.blk HE.out.2.2.2.1 (by have N:=HH.out.2.2.1;have hsz:=HE.out.2.2.2.2;simp;omega);clear hF4' c4 x0;go_wp2_with fail
      have HX:=qB (zR hB4 (zR hF4 (zR hpf4 hbx4)));have x0:=hbx4.cell 0;have c4:=hpf4.cell 4;simp only[zS,zT]at x0 c4;clear hB4 hF4 hpf4 hbx4;refine bA 6 (fun w' =>dF Tryz.prog 3 .i64 okA w' mb (iG (bW G i none) (fun t=>aA G t/\t≠i)) (n-1)/\Fr [mb] w4 w') (by kernel_rfl) (by kernel_rfl) (by kernel_rfl) ?_;iterate 6 (refine bM (by decide) (fun K hK=>?_);go_simp;refine hK _ ?_;clear hK K)
      refine aO rfl (.tuple #[]) (fun w' hw' =>?_) ?_
      · obtain ⟨nq, rfl⟩ := hw'
        obtain⟨w6,hrun,hI6,hF6⟩:=del.out _ _ (HX.out.1.fr0 ((Fr.refl [] _).drewN nq));go_simp
        first
          | exact⟨hI6,(((Fr.refl [mb] w4).drewN nq)).trans' hF6⟩
          | exact(((Fr.refl [mb] w4).drewN nq)).trans' hF6
      refine bN ?_;rintro w6 ⟨hI6,hF6⟩;have N:=HH.out.2.2.1;have hsz:=HE.out.2.2.2.2;have hbx6:=hF6.blk HX.out.2.2.2 (by simp;omega);have x0:=hbx6.cell 0;simp only[zS]at x0;have HI6:=qB (zR hI6 hF6);clear hI6 hF6 hbx6 c4;go_wp2
      go_ret2;exact⟨by rw[HE.out.1];rfl,fin.out _ _ _ (fun t=>(HE.out.2.1 t).symm) HX.out.1 HX.out.2.1 HI6.out.2 HI6.out.1⟩
    · have HT := qB ht; clear ht
      have HL:=qB (fun(nq:Nat)=>(show(Instr.lookup 123 (.map (some mb)) (.int .i64 i) false).run Tryz.prog ((w2.alloc (.cells #[.int .i64 i,.int .i64 k] 136)).drewN nq)=.ok (.agg #[.int .i64 ma,.int .i64 mz,.int .i64 k,.bool false]) ((w2.alloc (.cells #[.int .i64 i,.int .i64 k] 136)).drewN nq) by
        have:=(HE.out.2.2.1.fr0 ((Fr.refl [] _).drewN nq)).edges.run_get (t:=123) (e:=128) (z:=edZ) Tryz.underlying3 Tryz.underlying123 (by kernel_rfl) rfl (gZ (s:=i) (by omega));rw[cZ,HG.out]at this;have ht:=HT.out;simpa only[Option.map_some,Option.getD_some,ht,decide_true,decide_false,edV] using this))
      clear hl0;go_wp2_with fail
      refine dJ (fun w' =>∃nq,w' =(w2.alloc (.cells #[.int .i64 i,.int .i64 k] 136)).drewN nq) (by kernel_rfl) (by kernel_rfl) ⟨1,rfl⟩ ?_;iterate 3 (refine aE (by kernel_rfl) (fun KK hK=>?_);go_simp;refine hK.out _ ?_;clear hK KK)
      refine aU (by kernel_rfl) (.map (some mb)) (fun w' hw' =>?_) ?_
      · obtain ⟨nq, rfl⟩ := hw'
        go_simp
      iterate 1 (refine aE (by kernel_rfl) (fun KK hK=>?_);go_simp;refine hK.out _ ?_;clear hK KK)
      refine aU (by kernel_rfl) (.int .i64 i) (fun w' hw' =>?_) ?_
      · obtain ⟨nq, rfl⟩ := hw'
        go_simp
      refine aU (by kernel_rfl) (.agg #[.int .i64 ma,.int .i64 mz,.int .i64 k,.bool false]) (fun w' hw' =>?_) ?_
      · obtain ⟨nq, rfl⟩ := hw'
        have hl:=HL.out nq;go_simp
      iterate 1 (refine aE (by kernel_rfl) (fun KK hK=>?_);go_simp;refine hK.out _ ?_;clear hK KK)
      refine iJ ?_;rintro w4 ⟨nq,rfl⟩;go_wp2_with fail
      have hF4:Fr [pf,pl,g,mb] (w2.alloc (.cells #[.int .i64 i,.int .i64 k] 136)) ((w2.alloc (.cells #[.int .i64 i,.int .i64 k] 136)).drewN nq):=(Fr.refl _ _).drewN nq;have hB4:=HE.out.2.2.1.fr0 ((Fr.refl [] _).drewN nq);have hbx4:=(Fr.refl [] _).drewN nq |>.blk HE.out.2.2.2.1 (by simp)
      generalize (w2.alloc (.cells #[.int .i64 i,.int .i64 k] 136)).drewN nq=w4 at *;have hpf4:=hB4.hd;clear c4 x0;have HX:=qB (zR hB4 (zR hF4 (zR hpf4 hbx4)));have x0:=hbx4.cell 0;have c4:=hpf4.cell 4;simp only[zS,zT]at x0 c4;clear hB4 hF4 hpf4 hbx4;refine bA 6 (fun w' =>dF Tryz.prog 3 .i64 okA w' mb (iG (bW G i none) (aA G)) (n-1)/\Fr [mb] w4 w') (by kernel_rfl) (by kernel_rfl) (by kernel_rfl) ?_;iterate 6 (refine bM (by decide) (fun K hK=>?_);go_simp;refine hK _ ?_;clear hK K)
      refine aO rfl (.tuple #[]) (fun w' hw' =>?_) ?_
      · obtain ⟨nq, rfl⟩ := hw'
        obtain⟨w6,hrun,hI6,hF6⟩:=del.out _ _ (HX.out.1.fr0 ((Fr.refl [] _).drewN nq));go_simp
        first
          | exact⟨hI6,(((Fr.refl [mb] w4).drewN nq)).trans' hF6⟩
          | exact(((Fr.refl [mb] w4).drewN nq)).trans' hF6
      refine bN ?_;rintro w6 ⟨hI6,hF6⟩;have N:=HH.out.2.2.1;have hsz:=HE.out.2.2.2.2;have hbx6:=hF6.blk HX.out.2.2.2 (by simp;omega);have x0:=hbx6.cell 0;simp only[zS]at x0;have HI6:=qB (zR hI6 hF6);clear hI6 hF6 hbx6 c4;go_wp2
      go_ret2;exact⟨by rw[HE.out.1];rfl,fin.out _ _ _ (fun t=>((HE.out.2.1 t).trans ⟨fun h=>h.1,fun h=>⟨h,by rintro rfl;exact HT.out h⟩⟩).symm) HX.out.1 HX.out.2.1 HI6.out.2 HI6.out.1⟩
end
end Go.Proofs.YtgmnemndjjmgkaaGreat
namespace Go.Proofs.YtgmnemndjjmgkaaGreat
open Go.RowKit Go.Maps
def lP(P:Program)(k:TypeId)(q:IntKind)(ok:Value->Bool)(w:World)(b r:Nat)(m:Int->Option Value)(n:Nat)(done:List Int)(cnt:Nat):Prop:=
  ∃(D:DataW Value) (left:Lit->Bool),w.ranges P k (tK ok) b r n D left cnt/\Tidy D/\Maps.size D=n /\
    (∀a:Int,(Lit.int q a).wf=true->(Maps.has D (.int q a)=(m a).isSome/\∀v,m a=some v->ok v=true/\∀z,D.atKey (.int q a) z=.held v)) /\
    done.Nodup/\(∀x∈done,(Lit.int q x).wf=true/\(m x).isSome=true)/\(∀x,(Lit.int q x).wf=true->(left (.int q x)=true↔(m x).isSome=true/\x∉done))
section
variable {P:Program} {k t e:TypeId} {q:IntKind} {ok:Value->Bool} {w w' :World} {b r n cnt:Nat} {m:Int->Option Value} {done:List Int}
theorem lP.fr{S:List Nat}(h:lP P k q ok w b r m n done cnt)(hf:Fr S w w')(hb:b∉S)(hr:r∉S):lP P k q ok w' b r m n done cnt:=by
 obtain⟨D,left,h1,h2⟩:=h;refine⟨D,left,?_,h2⟩;have l1:=h1.owns.lt;have l2:=h1.lt;obtain⟨es,clock,since,seen,c0,hb', F,hs,hD,hr', rest⟩:=h1;exact⟨es,clock,since,seen,c0,(hf.keep b l1 hb).trans hb', F,hs,hD,(hf.keep r l2 hr).trans hr', rest⟩
theorem lP.left_eq(h:lP P k q ok w b r m n done cnt):w.rangeLeft b r=cnt:=by
 obtain⟨D,left,h1,_⟩:=h;exact h1.left_eq
variable {ops:Array Oper} {rest:List Oper} {o:Oper} {a:Act} {Q:Exit->Act->World->Prop}
theorem xQ(hg:o.guard=none)(mo:Operand)(hop:o.op=Op.range t mo)(h:dF P k q ok w b m n)(hk:P.underlying k=some (.int q))(ht:P.underlying t=some (.map k e))
    (hm:a.eval mo=.map (some b)) (hK:∀w' cnt,lP P k q ok w' b w.heap.size m n [] cnt->cnt<=n->Fr [] w w' -> w'.heap.size=w.heap.size+1->wpList P ops Q rest (a.put o.dst (.pointer (some ⟨w.heap.size,0,none⟩))) w'):
    wpList P ops Q (o::rest) a w:=by
 obtain⟨D,h1,h2,h3,h4⟩:=h;refine wpList_range_own w hg mo t hop k e (int_keyed hk) ht (tK ok) b n D hm h1 fun w' hr hgw hs=>?_;refine hK w' _ ⟨D,Maps.has D,hr,h2,h3,h4,.nil,(fun x hx=>by cases hx),fun x hx=>?_⟩ (by rw[h3];exact qS _) ((Fr.refl _ _).grown hgw (fun k e=>by cases e)) hs;rw[(h4 x hx).1];simp
theorem aBU(hg:o.guard=none)(it:Operand)(hop:o.op=Op.next it false)(hk:P.underlying k=some (.int q))(hit:a.eval it=.pointer (some ⟨r,0,none⟩))(h:lP P k q ok w b r m n done cnt)
    (hDone:(∀x,(Lit.int q x).wf=true->(m x).isSome=true->x∈done)->wpList P ops Q rest (a.put o.dst (.tuple #[.bool false])) w)
    (hMore:∀(x:Int) (c:Value) (w' :World) (cnt' :Nat),(Lit.int q x).wf=true->m x=some c->x∉done->lP P k q ok w' b r m n (done++[x]) cnt' -> cnt' < cnt->Fr [r] w w' -> w'.heap.size=w.heap.size ->
      (Instr.entry (.pointer (some ⟨r,0,none⟩))).run P w' =.ok (.tuple #[.int q x,c]) w' -> wpList P ops Q rest (a.put o.dst (.tuple #[.bool true,.int q x,c])) w'):
    wpList P ops Q (o::rest) a w:=by
 obtain⟨D,left,h1,h2,h3,h4,h5,h6,h7⟩:=h
 refine wpList_next_ranges w hg it hop k (int_keyed hk) (tK ok) (Value.int q) (fun (c : Value) => c) (fun key kl hkey => by obtain ⟨x, rfl, _⟩ := Maps.keyOf_int_inv hk hkey; exact ⟨x, rfl⟩) (fun v y _ => ⟨v, rfl⟩) b r n D left cnt hit h1
   (fun _ hl=>hDone fun x hx hs=>qZ fun hn=>by have:=(h7 x hx).2 ⟨hs,hn⟩;rw[hl]at this;cases this) ?_
 intro x c kl y w' cnt' hkey hlk hv hat hrg hlt hgr hsz hen;obtain⟨x', ex,rfl,hw⟩:=Maps.keyOf_int_inv hk hkey;cases ex;obtain⟨hsome,hnd⟩:=(h7 x hw).1 hlk;obtain⟨u,hu⟩:=zE.1 hsome;have hcu:c=u:=by {
 have e1:=hat (.held undef);rw[((h4 x hw).2 u hu).2]at e1;unfold tK at hv;split at hv
 · cases hv;simpa using e1.symm
 · cases hv};subst hcu;refine hMore x c w' cnt' hw hu hnd ⟨D,_,hrg,h2,h3,h4,?_,fun z hz=>?_,fun z hz=>?_⟩ hlt ((Fr.refl _ _).grown hgr (fun k e=>.inl (by simp at e;simp[e]))) hsz hen
 · exact qW.2 ⟨h5,by simp,by rintro a ha b hb rfl;simp at hb;subst hb;exact hnd ha⟩
 {
 rcases qJ.1 hz with hz|hz
 · exact h6 z hz
 · simp at hz;subst hz;exact⟨hw,hsome⟩}
 {
 have e:(Lit.int q z).sameKey (.int q x)=decide (z=x):=by simp[Lit.sameKey]
 show(left (.int q z)&&!(Lit.int q z).sameKey (.int q x))=true↔_
 rw[e,zG,h7 z hz];simp only[qJ,qP,not_or,Bool.not_eq_true', decide_eq_false_iff_not,and_assoc]}
end
end Go.Proofs.YtgmnemndjjmgkaaGreat
namespace Go.Proofs.YtgmnemndjjmgkaaGreat
open Go.RowKit Go.Sort
end Go.Proofs.YtgmnemndjjmgkaaGreat
namespace Go.Proofs.YtgmnemndjjmgkaaGreat
open Go.RowKit Classical
section
variable {w w' :World} {pf pl g ph mb S V n:Nat} {G:bG} {key:Nat->Int}
end
end Go.Proofs.YtgmnemndjjmgkaaGreat
