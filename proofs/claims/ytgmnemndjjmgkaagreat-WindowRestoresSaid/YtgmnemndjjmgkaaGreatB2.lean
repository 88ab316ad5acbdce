/- slices.Sort at uint64: heapSortOrdered, reverseRangeOrdered, order2Ordered, medianOrdered, medianAdjacentOrdered. -/
import Derived.Test.YtgmnemndjjmgkaaGreatB1
import Derived.Maps.OwnOps
import Derived.Maps.OwnSet
import Derived.Deep.WholeRow
import Derived.StillTailTactics
import Derived.Sort.WalkA
import Derived.Sort.Walk13a
import Derived.CellFam
import Derived.BigGuard
import Derived.BigCall
import Derived.Deep.Draws
import Derived.Sort.WalkB3
import Derived.Sort.WalkB12
import Derived.Sort.WalkD1
set_option maxRecDepth 10000
set_option maxHeartbeats 1600000
set_option linter.unusedSimpArgs false
set_option linter.unusedVariables false
/- The plain law of a hash table with linear probing, whose removal shifts entries back. No program in sight. -/
namespace Go.Proofs.YtgmnemndjjmgkaaGreat
def dst(n a b:Nat):Nat:=if a<=b then b-a else b+n-a
def nxt(n c:Nat):Nat:=if c+1=n then 0 else c+1
def gQ(f:Nat->Nat)(i x:Nat):Nat->Nat:=fun j=>if j=i then x else f j
theorem bB(f:Nat->Nat)(i x:Nat):gQ f i x i=x:=by simp[gQ]
theorem aB{f:Nat->Nat}{i x j:Nat}(h:j≠i):gQ f i x j=f j:=by simp[gQ,h]
theorem aSV{n c:Nat}(h:c<n):(c+1)%n=nxt n c:=by
 unfold nxt;by_cases e:c+1=n
 · rw[qI e,e,Nat.mod_self]
 · rw[qH e,Nat.mod_eq_of_lt (by omega)]
theorem aCX{n a b:Nat}(ha:a<n)(hb:b<n):((b:Int)-(a:Int))%(n:Int)=(dst n a b:Int):=by
 unfold dst;by_cases h:a<=b
 · rw[qI h,Int.emod_eq_of_lt (by omega) (by omega)];omega
 · rw[qH h,show(b:Int)-a=((b:Int)-a+n)+n*(-1) by omega,Int.add_mul_emod_self_left,Int.emod_eq_of_lt (by omega) (by omega)];omega
theorem aYH{n h j:Nat}(hh:h<n)(hj:j<n):(h+j)%n<n/\dst n h ((h+j)%n)=j:=by
 refine⟨Nat.mod_lt _ (by omega),?_⟩;unfold dst;by_cases e:h+j<n
 · rw[Nat.mod_eq_of_lt e,qI (by omega)];omega
 {
 rw[Nat.mod_eq_sub_mod (by omega),Nat.mod_eq_of_lt (by omega)];split<;>omega}
theorem aFZ{n h q:Nat}(hh:h<n)(hq:q<n):dst n h q<n/\(h+dst n h q)%n=q:=by
 unfold dst;split
 {
 refine⟨by omega,?_⟩;rw[show h+(q-h)=q by omega,Nat.mod_eq_of_lt hq]}
 {
 refine⟨by omega,?_⟩;rw[show h+(q+n-h)=q+n by omega,Nat.add_mod_right,Nat.mod_eq_of_lt hq]}
theorem pJ(n h:Nat):dst n h h=0:=by simp[dst]
structure iQ (n:Nat) (hf:Nat->Nat) (C ids:Nat->Nat) (U:Nat->Prop):Prop where
  live:∀c,c<n->C c≠0->U (C c-1)
  inj:∀c d,c<n->d<n->C c≠0->C c=C d->c=d
  at_:∀i,U i->∃p,p<n/\C p=i+1/\∀q,q<n->dst n (hf (ids i)) q<dst n (hf (ids i)) p->C q≠0
structure rW (n:Nat) (hf:Nat->Nat) (C ids:Nat->Nat) (U:Nat->Prop) (h c:Nat):Prop where
  hn:h<n
  cn:c<n
  live:∀p,p<n->p≠h->C p≠0->U (C p-1)
  inj:∀p q,p<n->q<n->p≠h->q≠h->C p≠0->C p=C q->p=q
  at_:∀i,U i->∃p,p<n/\p≠h/\C p=i+1/\∀q,q<n->dst n (hf (ids i)) q<dst n (hf (ids i)) p->C q≠0
  nz:C h≠0
  run:∀p,p<n->0<dst n h p->dst n h p<=dst n h c->C p≠0/\dst n (hf (ids (C p-1))) p<dst n h p
theorem rW.start{n:Nat}{hf C ids:Nat->Nat}{U:Nat->Prop}{h i0:Nat}(t:iQ n hf C ids U)(hn:h<n)(hc:C h=i0+1):
    rW n hf C ids (fun i=>U i/\i≠i0) h h:=by
 refine⟨hn,hn,fun p hp hne h0=>⟨t.live p hp h0,fun e=>hne (t.inj p h hp hn h0 (by omega))⟩,fun p q hp hq _ _ h0 e=>t.inj p q hp hq h0 e,?_,by omega,?_⟩
 {
 rintro i ⟨hu,hne⟩;obtain⟨p,hp,hpc,hpath⟩:=t.at_ i hu;exact⟨p,hp,fun e=>hne (by subst e;omega),hpc,hpath⟩}
 {
 intro p _ h1 h2;rw[pJ]at h2;omega}
section
variable {n:Nat} {hf C ids:Nat->Nat} {U:Nat->Prop} {h c:Nat}
theorem aAQ(hh:h<n)(_hc:c<n)(hne:nxt n c≠h):dst n h (nxt n c)=dst n h c+1:=by
 unfold nxt at *;by_cases e:c+1=n
 · rw[qI e]at *;unfold dst;rw[qH (by omega)];split<;>omega
 · rw[qH e]at *;unfold dst;(repeat' split)<;>omega
theorem uH(hc:c<n):nxt n c<n:=by unfold nxt;split<;>omega
theorem rW.stay(H:rW n hf C ids U h c)(hne:nxt n c≠h)(h0:C (nxt n c)≠0)(hd:dst n (hf (ids (C (nxt n c)-1))) (nxt n c)<dst n h (nxt n c)):
    rW n hf C ids U h (nxt n c):=by
 refine⟨H.hn,uH H.cn,H.live,H.inj,H.at_,H.nz,fun p hp h1 h2=>?_⟩;have e:=aAQ H.hn H.cn hne;by_cases hle:dst n h p<=dst n h c
 · exact H.run p hp h1 hle
 {
 have:p=nxt n c:=by {
 have hq:=uH H.cn;have hh:=H.hn;have e2:dst n h p=dst n h (nxt n c):=by omega
 unfold dst at e2;(repeat' split at e2)<;>omega};subst this;exact⟨h0,hd⟩}
theorem rW.move(H:rW n hf C ids U h c)(hf_lt:∀x,hf x<n)(hne:nxt n c≠h)(h0:C (nxt n c)≠0)(hd:dst n h (nxt n c)<=dst n (hf (ids (C (nxt n c)-1))) (nxt n c)):
    rW n hf (gQ C h (C (nxt n c))) ids U (nxt n c) (nxt n c):=by
 have hq:=uH H.cn;have hh:=H.hn;refine⟨hq,hq,?_,?_,?_,by rw[aB hne];exact h0,?_⟩
 {
 intro p hp hpn hp0;by_cases e:p=h
 · subst e;rw[bB]at hp0 ⊢;exact H.live _ hq hne hp0
 · rw[aB e]at hp0 ⊢;exact H.live p hp e hp0}
 {
 intro p q hp hqn hpn hqn' hp0 e;by_cases ep:p=h
 {
 by_cases eq:q=h
 · omega
 {
 rw[ep,bB,aB eq]at e;exact absurd (H.inj (nxt n c) q hq hqn hne eq h0 e).symm hqn'}}
 {
 by_cases eq:q=h
 {
 rw[eq,bB,aB ep]at e;rw[aB ep]at hp0;exact absurd (H.inj p (nxt n c) hp hq ep hne hp0 e) hpn}
 {
 rw[aB ep]at hp0 e;rw[aB eq]at e;exact H.inj p q hp hqn ep eq hp0 e}}}
 {
 intro i hu;obtain⟨p,hp,hph,hpc,hpath⟩:=H.at_ i hu;have nz:∀q,C q≠0->gQ C h (C (nxt n c)) q≠0:=by {
 intro q hq0;by_cases e:q=h
 · subst e;rw[bB];exact h0
 · rw[aB e];exact hq0};by_cases e:p=nxt n c
 {
 subst e;have hi:C (nxt n c)-1=i:=by omega
 rw[hi]at hd;refine⟨h,hh,fun e=>hne e.symm,by rw[bB];exact hpc,fun q hqn hlt=>nz q (hpath q hqn ?_)⟩;have hfl:=hf_lt (ids i);generalize hf (ids i)=a at *;unfold dst at *;(repeat' split at hd)<;>(repeat' split at hlt)<;>(repeat' split)<;>omega}
 · exact⟨p,hp,e,by rw[aB hph];exact hpc,fun q hqn hlt=>nz q (hpath q hqn hlt)⟩}
 {
 intro p hp h1 h2;rw[pJ]at h2;omega}
theorem rW.fin(H:rW n hf C ids U h c)(hf_lt:∀x,hf x<n)(hne:nxt n c≠h)(h0:C (nxt n c)=0):
    iQ n hf (gQ C h 0) ids U:=by
 have hq:=uH H.cn;have hh:=H.hn;refine⟨?_,?_,?_⟩
 {
 intro p hp hp0;by_cases e:p=h
 · subst e;rw[bB]at hp0;omega
 · rw[aB e]at hp0 ⊢;exact H.live p hp e hp0}
 {
 intro p q hp hqn hp0 e;by_cases ep:p=h
 · subst ep;rw[bB]at hp0;omega
 {
 by_cases eq:q=h
 · subst eq;rw[bB]at e;omega
 · rw[aB ep]at hp0 e;rw[aB eq]at e;exact H.inj p q hp hqn ep eq hp0 e}}
 {
 intro i hu;obtain⟨p,hp,hph,hpc,hpath⟩:=H.at_ i hu;refine⟨p,hp,by rw[aB hph];exact hpc,fun q hqn hlt=>?_⟩;by_cases e:q=h
 {
 exfalso
 subst e;have hfl:=hf_lt (ids i);have hz:¬dst n (hf (ids i)) (nxt n c)<dst n (hf (ids i)) p:=fun hl=>hpath _ hq hl h0;have hpz:p≠nxt n c:=fun e=>by subst e;omega
 by_cases hrun:dst n q p<=dst n q c
 {
 have hr:=(H.run p hp (by unfold dst;split<;>omega) hrun).2;have hi:C p-1=i:=by omega
 rw[hi]at hr;generalize hf (ids i)=a at *;unfold dst at hlt hr;(repeat' split at hlt)<;>(repeat' split at hr)<;>omega}
 {
 have hcn:=H.cn;have e2:=aAQ hh hcn hne;generalize hf (ids i)=a at *;generalize nxt n c=z at *;unfold dst at *;(repeat' split at hlt)<;>(repeat' split at hz)<;>(repeat' split at hrun)<;>(repeat' split at e2)<;>omega}}
 · rw[aB e];exact hpath q hqn hlt}
end
theorem iQ.put{n:Nat}{hf C ids:Nat->Nat}{U:Nat->Prop}{c i id:Nat}(t:iQ n hf C ids U)(hc:c<n)(h0:C c=0)(hi:¬U i)
    (hpath:∀q,q<n->dst n (hf id) q<dst n (hf id) c->C q≠0):iQ n hf (gQ C c (i+1)) (gQ ids i id) (fun j=>U j∨j=i):=by
 refine⟨?_,?_,?_⟩
 {
 intro p hp hp0;by_cases e:p=c
 · subst e;rw[bB];exact .inr (by omega)
 · rw[aB e]at hp0 ⊢;exact .inl (t.live p hp hp0)}
 {
 intro p q hp hq hp0 e;by_cases ep:p=c
 {
 by_cases eq:q=c
 · omega
 {
 rw[ep,bB,aB eq]at e;exact absurd (by have:=t.live q hq (by omega);rwa[<-e]at this) hi}}
 {
 by_cases eq:q=c
 {
 rw[eq,bB,aB ep]at e;rw[aB ep]at hp0;exact absurd (by have:=t.live p hp hp0;rwa[e]at this) hi}
 · rw[aB ep]at hp0 e;rw[aB eq]at e;exact t.inj p q hp hq hp0 e}}
 {
 have nz:∀q,C q≠0->gQ C c (i+1) q≠0:=by {
 intro q hq0;by_cases e:q=c
 · subst e;rw[bB];omega
 · rw[aB e];exact hq0};intro j hj;by_cases e:j=i
 {
 subst e;rw[bB];exact⟨c,hc,bB _ _ _,fun q hq hl=>nz q (hpath q hq hl)⟩}
 {
 obtain⟨p,hp,hpc,hpp⟩:=t.at_ j (hj.resolve_right e);have epc:p≠c:=by rintro rfl;omega
 rw[aB e];exact⟨p,hp,by rw[aB epc];exact hpc,fun q hq hl=>nz q (hpp q hq hl)⟩}}
theorem iQ.congr{n:Nat}{hf C ids ids' :Nat->Nat}{U U' :Nat->Prop}(t:iQ n hf C ids U)(hu:∀i,U i↔U' i)(hi:∀i,U i->ids' i=ids i):iQ n hf C ids' U' :=by
 refine⟨fun c hc h0=>(hu _).1 (t.live c hc h0),t.inj,fun i hui=>?_⟩;rw[hi i ((hu i).2 hui)];exact t.at_ i ((hu i).2 hui)
end Go.Proofs.YtgmnemndjjmgkaaGreat
namespace Go.Proofs.YtgmnemndjjmgkaaGreat
open Go.RowKit
def bY(n:Nat)(f:Nat->Value):List Value:=(List.range n).map f
theorem eV{n:Nat}{f:Nat->Value}{i:Nat}(h:i<n):(bY n f)[i]? =some (f i):=by simp[bY,h]
theorem cU(n:Nat)(f:Nat->Value):(bY n f).length=n:=by simp[bY]
def fE(C:Nat->Nat):Nat->Value:=fun c=>.int .i64 (C c)
def idF(ids:Nat->Nat):Nat->Value:=fun c=>.int .u64 (ids c)
theorem aKF(n:Nat)(C:Nat->Nat)(h x:Nat):(bY n (fE C)).set h (.int .i64 x)=bY n (fE (gQ C h x)):=by
 apply List.ext_getElem?;intro i;simp only[List.getElem?_set,cU];by_cases hi:i<n
 {
 rw[eV hi,eV hi];by_cases e:h=i
 · subst e;rw[qI rfl,qI hi];simp[fE,bB]
 · rw[qH e];simp only[fE];rw[aB (fun h=>e h.symm)]}
 {
 have h1:∀f,(bY n f)[i]? =none:=fun f=>zK (by rw[cU];omega);rw[h1,h1];by_cases e:h=i
 · rw[qI e,qH (by omega)]
 · rw[qH e]}
theorem mG(n:Nat)(C:Nat->Nat)(h x:Nat):(bY n (idF C)).set h (.int .u64 x)=bY n (idF (gQ C h x)):=by
 apply List.ext_getElem?;intro i;simp only[List.getElem?_set,cU];by_cases hi:i<n
 {
 rw[eV hi,eV hi];by_cases e:h=i
 · subst e;rw[qI rfl,qI hi];simp[idF,bB]
 · rw[qH e];simp only[idF];rw[aB (fun h=>e h.symm)]}
 {
 have h1:∀f,(bY n f)[i]? =none:=fun f=>zK (by rw[cU];omega);rw[h1,h1];by_cases e:h=i
 · rw[qI e,qH (by omega)]
 · rw[qH e]}
def iR(n:Nat)(C:Nat->Nat)(rst:List Value):List Value:=bY n (fE C)++rst
theorem gD{n:Nat}{C:Nat->Nat}{rst:List Value}{i:Nat}(h:i<n):(iR n C rst)[i]? =some (fE C i):=by
 unfold iR;rw[List.getElem?_append_left (by rw[cU];exact h),eV h]
theorem nL{n:Nat}{C:Nat->Nat}{rst:List Value}{h:Nat}(x:Nat)(hh:h<n):(iR n C rst).set h (.int .i64 x)=iR n (gQ C h x) rst:=by
 unfold iR;rw[List.set_append_left _ _ (by rw[cU];exact hh),aKF]
theorem aSW{rst:List Value}(pt gc n cpc m h0:Nat)(C ids:Nat->Nat)(U:Nat->Prop)(v:Value)(w:World)(hM:xD n)(hpt:pt≠gc)
    (h3:w.cell? ⟨pt,3,none⟩=some (.slice (some ⟨gc,0,none⟩) n cpc)) (h2:w.cell? ⟨pt,2,none⟩=some v) (hgc:Blk w gc 3 (iR n C rst))
    (hv:∀i,i<m->∃gi cap,v=.slice (some ⟨gi,0,none⟩) m cap/\gi≠gc/\gi≠pt/\w.cell? ⟨gi,i,none⟩=some (.int .u64 (ids i))/\ids i<18446744073709551616)
    (hU:∀i,U i->i<m) (hmm:m<=65536) (hH:rW n (hm n) C ids U h0 h0) (hz:∃z,z<n/\C z=0):
    Calls Tryz.prog 144 #[ptr pt,.int .i64 h0] w fun e w' =>e=.returned (.tuple #[])/\∃C', Blk w' gc 3 (iR n C' rst)/\iQ n (hm n) C' ids U/\Fr [gc] w w' :=by
 have hn:=hM.pos;have hn2:=hM.le;have hi:=hM.i64;have HV:=qB hv;clear hv;have HZ:=qB hz;clear hz;have HU:=qB hU;clear hU;go_enter Tryz.func144,Tryz.ntmps144
 go_step3
 go_wp2
 refine wp_label ?_;go_wp2
 obtain⟨z,hz1,hz2⟩:=HZ.out;have HZ1:=qB hz1;clear hz1;have HZ2:=qB hz2;clear hz2;clear HZ
 go_loopw [1, 5] (fun a b wr => ∃ (h c : Nat) (D : Nat -> Nat), h < n /\ c < n /\ a = .int .i64 h /\ b = .int .i64 c /\ Blk wr gc 3 (iR n D rst) /\ Fr [gc] w wr /\ Hid (rW n (hm n) D ids U h c /\ D z = 0 /\ dst n h c < dst n h z))
   (fun _ b _=>dst n (intOf b).toNat z)
 case atStart=>exact⟨h0,h0,C,hH.hn,hH.hn,rfl,rfl,hgc,Fr.refl _ _,qB ⟨hH,HZ2.out,by
   rw[pJ];have:h0≠z:=fun e=>hH.nz (by rw[e];exact HZ2.out);have hh:=hH.hn;have hz:=HZ1.out;unfold dst;split<;>omega⟩⟩
 case round=>
  obtain⟨h,c,D,hh,hc,rfl,rfl,hB,hF,HH⟩:=hrel;have r3:=hF.cell h3 (by simpa using hpt);have r2:=hF.cell h2 (by simpa using hpt);have hfr:wr.frozen? ⟨gc,h,none⟩=false:=hB.frozen h;have rH:wr.cell? ⟨gc,h,none⟩=some (.int .i64 (D h)):=(hB.cell h).trans (gD hh);have hnx:((c:Int)+1)%(n:Int)=((nxt n c:Nat):Int):=by rw[<-aSV hc];simp
  have hc' :=uH (n:=n) hc;have HN:Hid (nxt n c≠h):=by {
  intro e;obtain⟨H1,H2,H3⟩:=HH.out;have hz:=HZ1.out;subst e;unfold nxt at H3;unfold dst at H3
  (repeat' split at H3)<;>omega};have HE:Hid (dst n h (nxt n c)=dst n h c+1):=aAQ hh hc HN.out;have HD:Hid (nxt n c≠z->dst n h (nxt n c)<dst n h z/\dst n (nxt n c) z<dst n c z):=by {
  intro hne;obtain⟨H1,H2,H3⟩:=HH.out;have hz:=HZ1.out;have e1:=HN.out;have e2:=HE.out;unfold nxt at *;by_cases e:c+1=n
  · rw[qI e]at *;unfold dst at *;(repeat' split at H3)<;>(repeat' split at e2)<;>(repeat' split)<;>omega
  · rw[qH e]at *;unfold dst at *;(repeat' split at H3)<;>(repeat' split at e2)<;>(repeat' split)<;>omega};have rC:wr.cell? ⟨gc,nxt n c,none⟩=some (.int .i64 (D (nxt n c))):=(hB.cell _).trans (gD hc');generalize hcc:nxt n c=c' at *;have HC:=qB hcc;clear hcc;by_cases hD0:D c' =0
  {
  have hb0:((D c' :Int) == 0)=true:=beq_iff_eq.2 (by omega);have hD0' :Hid (D c' =0):=hD0;clear hD0;go_wp2
  simp only[Exit.noGoto];go_end0
  obtain⟨H1,H2,H3⟩:=HH.out;refine⟨rfl,gQ D h 0,?_,?_,hF.setCell _ _ (.inl (by simp))⟩
  {
  have:=hB.set h (.int .i64 (0:Nat));rw[nL _ hh]at this;exact this}
  {
  have e:=HC.out;subst e;exact H1.fin (uG (by omega)) HN.out hD0'}}
  {
  obtain⟨i,hi'⟩:∃i,D c' =i+1:=⟨D c' - 1,by omega⟩;rw[hi']at rC;have HI:=qB hi'; clear hi';clear hD0;have hUi:U i:=by {
  have:=HH.out.1.live c' hc' HN.out (by rw[HI.out];omega);rw[HI.out]at this;exact this};have him:=HU.out i hUi;obtain⟨gi,cap,rfl,hg1,hg2,hgi,hid⟩:=HV.out i him;have ri:=hF.cell hgi (by simpa using hg1);have hd1:=aCX (uG (show 0<n by omega) (ids i)) hc';have hd2:=aCX hh hc';have hml:=uG (show 0<n by omega) (ids i);generalize hx1:dst n (hm n (ids i)) c' =d1 at *;generalize hx2:dst n h c' =d2 at *;have HX1:=qB hx1;clear hx1;have HX2:=qB hx2;clear hx2;have hb0:(((i:Int)+1) == 0)=false:=zA.2 (by omega);by_cases hlt:d1<d2
  {
  go_wp2_with (go_at_call 181;refine(aFX pt gc n cpc (ids i) _ r3 hid hM).mono ?_;rintro e w' ⟨rfl,rfl⟩)
  go_roundw
  case rel=>
   obtain⟨H1,H2,H3⟩:=HH.out;refine⟨h,c', D,hh,hc', rfl,rfl,hB,hF,qB ?_⟩;have e:=HC.out;have hne:nxt n c≠z:=fun e2=>by rw[<-e,e2]at HI;have:=HI.out;omega
   have hD:=HD.out (by rw[<-e];exact hne);refine⟨?_,H2,by rw[HX2.out];exact hD.1⟩;have hst:=H1.stay (by rw[e];exact HN.out) (by rw[e,HI.out];omega) (by rw[e,HI.out,HX2.out];show dst n (hm n (ids i)) c' < d2;rw[HX1.out];exact hlt);rw[e]at hst;exact hst
  case measure=>
   have e:=HC.out;have hne:nxt n c≠z:=fun e2=>by
     obtain⟨H1,H2,H3⟩:=HH.out;rw[<-e,e2]at HI;have:=HI.out;omega
   have hD:=HD.out (by rw[<-e];exact hne);simp[intOf];exact hD.2}
  {
  go_wp2_with (go_at_call 181;refine(aFX pt gc n cpc (ids i) _ r3 hid hM).mono ?_;rintro e w' ⟨rfl,rfl⟩)
  go_roundw
  case rel=>
   obtain⟨H1,H2,H3⟩:=HH.out;have e:=HC.out;have hne:nxt n c≠z:=fun e2=>by rw[<-e,e2]at HI;have:=HI.out;omega
   have hD:=HD.out (by rw[<-e];exact hne);have hhz:h≠z:=fun e=>by rw[e]at H3;unfold dst at H3;(repeat' split at H3)<;>omega
   refine⟨c', c', gQ D h (i+1),hc', hc', rfl,rfl,?_,hF.setCell _ _ (.inl (by simp)),qB ⟨?_,by rw[aB (fun e=>hhz e.symm)];exact H2,?_⟩⟩
   {
   have:=hB.set h (.int .i64 ((i+1:Nat):Int));rw[nL _ hh]at this;exact this}
   {
   have hst:=H1.move (uG (by omega)) (by rw[e];exact HN.out) (by rw[e,HI.out];omega) (by rw[e,HI.out,HX2.out];show d2<=dst n (hm n (ids i)) c'; rw[HX1.out];omega);rw[e,HI.out]at hst;exact hst}
   {
   rw[pJ];have:=HZ1.out;have hne2:c' ≠ z:=by rw[<-e];exact hne
   unfold dst;split<;>omega}
  case measure=>
   have e:=HC.out;have hne:nxt n c≠z:=fun e2=>by
     obtain⟨H1,H2,H3⟩:=HH.out;rw[<-e,e2]at HI;have:=HI.out;omega
   have hD:=HD.out (by rw[<-e];exact hne);simp[intOf];exact hD.2}}
@[go_sem] theorem bBM(a:Addr)(w:World):(binOp .eql 141 (.pointer (some a)) (.pointer (some a))).run Tryz.prog w=.ok (.bool true) w:=by
 obtain⟨j,hj⟩:=zE.1 (show(Tryz.prog.info? 204).isSome=true by kernel_rfl);exact run_eql_ptr_same w a Tryz.underlying141 hj
@[go_sem] theorem aSX(a:Addr)(w:World):(binOp .eql 141 (.pointer none) (.pointer (some a))).run Tryz.prog w=.ok (.bool false) w:=by
 have h:∀d:Nat,(Op.equalIn (d+1) 141 (.pointer none) (.pointer (some a))).run Tryz.prog w=.ok false w:=fun d=>by
   simp[Op.equalIn,run_underlying Tryz.underlying141]
 simp only[binOp];simp[Op.equal,Op.maxDepth,h 9999]
theorem dD(pt:Nat)(w:World)(hc:w.cell? ⟨pt,0,none⟩=some (ptr pt)):
    Calls Tryz.prog 142 #[ptr pt] w fun e w' =>e=.returned (.bool true)/\w=w' :=by
 go_enter Tryz.func142,Tryz.ntmps142
 go_wp2
 go_ret;exact⟨rfl,rfl⟩
structure Tb where
  A:Ar
  ids:Nat->Nat
def Tb.used(T:Tb)(i:Nat):Prop:=T.A.isUsed i
def cH(w:World)(pt:Nat)(T:Tb)(l:List Nat):Prop:=
  ∃(cpc:Nat) (rst:List Value) (pa gc n:Nat) (vi:Value) (C:Nat->Nat) (la:List Nat),
    Blk w pt 204 [ptr pt,ptr pa,vi,.slice (some ⟨gc,0,none⟩) n cpc]/\aQ w pa T.A la /\
    w.ownsRow 0 26 1 vi T.A.begun (bY T.A.begun (idF T.ids))/\Blk w gc 3 (iR n C rst) /\
    l=pt::gc::(vi.ownBlock.toList++la)/\l.Nodup/\xD n/\2*T.A.slots<=n/\iQ n (hm n) C T.ids T.used /\
    (∀i j,T.used i->T.used j->T.ids i=T.ids j->i=j)/\(∀i,i<T.A.begun->T.ids i<18446744073709551616)
theorem cH.same{w w' :World}{pt:Nat}{T:Tb}{l:List Nat}(h:cH w pt T l)(hs:∀b∈l,w'.heap[b]? =w.heap[b]?):cH w' pt T l:=by
 obtain⟨cpc,rst,pa,gc,n,vi,C,la,h1,h2,h3,h4,rfl,r⟩:=h;exact⟨cpc,rst,pa,gc,n,vi,C,la,h1.of_same (hs _ (by simp)),h2.same (fun b hb=>hs b (by simp[hb])),aI h3 (fun k hk=>hs k (by simp[hk])),h4.of_same (hs _ (by simp)),rfl,r⟩
theorem cH.lt{w:World}{pt:Nat}{T:Tb}{l:List Nat}(h:cH w pt T l):∀b∈l,b<w.heap.size:=by
 obtain⟨cpc,rst,pa,gc,n,vi,C,la,h1,h2,h3,h4,rfl,r⟩:=h;intro b hb;simp only[qF,qJ,Option.mem_toList]at hb;rcases hb with rfl|rfl|hb|hb
 · exact h1.lt
 · exact h4.lt
 · exact(h3.lt b hb).2
 · exact h2.lt b hb
theorem cH.fr{w w' :World}{pt:Nat}{T:Tb}{l S:List Nat}(h:cH w pt T l)(hf:Fr S w w')(hd:∀b∈l,b∉S):cH w' pt T l:=
  h.same fun b hb=>hf.keep b (h.lt b hb) (hd b hb)
theorem uI{n:Nat}{C ids:Nat->Nat}{A:Ar}(t:iQ n (hm n) C ids A.isUsed)(hok:A.ok)(hn:1<n)(hs:2*A.slots<=n):∃z,z<n/\C z=0:=by
 apply qZ;intro hno;have hall:∀z,z<n->C z≠0:=fun z hz h0=>hno ⟨z,hz,h0⟩;have hnd:((List.range n).map (fun z=>C z-1)++A.free).Nodup:=by {
 rw[qW];refine⟨?_,hok.nd,?_⟩
 {
 rw[List.nodup_iff_pairwise_ne,List.pairwise_map];refine List.Pairwise.imp_of_mem ?_ (List.nodup_iff_pairwise_ne.1 List.nodup_range);intro a b ha hb hne e;simp at ha hb;have h1:=hall a ha;have h2:=hall b hb;exact hne (t.inj a b ha hb h1 (by omega))}
 {
 intro a ha b hb e;subst e;simp only[zF,List.mem_range]at ha;obtain⟨z,hz,rfl⟩:=ha;exact(t.live z hz (hall z hz)).2 hb}};have hlen:=lA hnd (n:=A.begun) (by
   intro k hk;simp only[qJ,zF,List.mem_range]at hk;rcases hk with⟨z,hz,rfl⟩|hk
   · exact(t.live z hz (hall z hz)).1
   · exact hok.lt k hk)
 simp at hlen;have:=hok.hb;omega
theorem fN{n:Nat}{C ids:Nat->Nat}{U:Nat->Prop}{id c:Nat}(t:iQ n (hm n) C ids U)(hn:0<n)(h:aCW n C ids id c true):∃i,c<n/\C c=i+1/\U i/\ids i=id:=by
 obtain⟨k,hk,rfl,_,h⟩:=h;rcases h with⟨h,_⟩|⟨_,h0,h⟩
 · cases h
 {
 have hc:=Nat.mod_lt (hm n id+k) hn;exact⟨C ((hm n id+k)%n)-1,hc,by omega,t.live _ hc h0,h⟩}
theorem jQ{n:Nat}{C ids:Nat->Nat}{U:Nat->Prop}{id c:Nat}(t:iQ n (hm n) C ids U)(hn:0<n)(h:aCW n C ids id c false):
    c<n/\C c=0/\(∀i,U i->ids i≠id)/\(∀q,q<n->dst n (hm n id) q<dst n (hm n id) c->C q≠0):=by
 obtain⟨k,hk,rfl,hs,h⟩:=h;rcases h with⟨_,h0⟩|⟨h,_⟩
 {
 have hh:=uG hn id;obtain⟨hc,hd⟩:=aYH hh hk;have hpath:∀q,q<n->dst n (hm n id) q<dst n (hm n id) ((hm n id+k)%n)->C q≠0/\ids (C q-1)≠id:=by {
 intro q hq hl;rw[hd]at hl;have:=hs _ hl;rw[(aFZ hh hq).2]at this;exact this};refine⟨hc,h0,?_,fun q hq hl=>(hpath q hq hl).1⟩;intro i hu e;subst e;obtain⟨p,hp,hpc,hpp⟩:=t.at_ i hu;rcases Nat.lt_trichotomy (dst n (hm n (ids i)) p) (dst n (hm n (ids i)) ((hm n (ids i)+k)%n)) with hl|he|hg
 {
 have:=(hpath p hp hl).2;rw[hpc]at this;exact this rfl}
 {
 have:p=(hm n (ids i)+k)%n:=by {
 have h1:=(aFZ hh hp).2;have h2:=(aFZ hh hc).2;rw[he,h2]at h1;exact h1.symm};rw[this]at hpc;omega}
 · exact hpp _ hc hg h0}
 · cases h
theorem fO{w:World}{pt pa gc n cpc:Nat}{rst:List Value}{vi:Value}{C:Nat->Nat}{T:Tb}{la:List Nat}(id:Nat)(hid:id<18446744073709551616)
    (h1:Blk w pt 204 [ptr pt,ptr pa,vi,.slice (some ⟨gc,0,none⟩) n cpc]) (h2:aQ w pa T.A la)
    (h3:w.ownsRow 0 26 1 vi T.A.begun (bY T.A.begun (idF T.ids))) (h4:Blk w gc 3 (iR n C rst)) (hM:xD n) (hs:2*T.A.slots<=n) (hT:iQ n (hm n) C T.ids T.used):
    Calls Tryz.prog 143 #[ptr pt,.int .u64 id] w fun e w' =>∃(c:Nat) (b:Bool),e=.returned (.tuple #[.int .i64 c,.bool b])/\aCW n C T.ids id c b/\Below w.heap.size w w' :=by
 have hok:=h2.ok;have hn:=hM.pos;have hb:=hok.hb;have hss:=hok.hs;refine aYG pt gc n cpc T.A.begun id C T.ids vi w (fun c hc=>?_) hM (by omega) hid ⟨h1.lt,h4.lt,h1.cell 3,h1.cell 2,fun c hc=>(h4.cell c).trans (gD hc)⟩ (uI hT hok hn hs) ?_
 {
 by_cases h0:C c=0
 · omega
 · have:=(hT.live c hc h0).1;omega}
 {
 intro i hi;obtain⟨g,cap,rfl,_,hg,hc,_⟩:=cD h3 hi;exact⟨g,cap,rfl,hg,hc.trans (eV hi)⟩}
theorem aKG{w:World}{pt:Nat}{T:Tb}{l:List Nat}(h:cH w pt T l):
    Calls Tryz.prog 95 #[ptr pt] w fun e w' =>e=.returned (.int .i64 T.A.used)/\w=w' :=by
 obtain⟨cpc,rst,pa,gc,n,vi,C,la,h1,h2,h3,h4,rfl,hnd,hM,hs,hT,hinj,hb64⟩:=h;have c0:=h1.cell 0;have c1:=h1.cell 1;simp only[zS,zT]at c0 c1;go_enter Tryz.func95,Tryz.ntmps95
 go_wp2_with (first|(go_at_call 142;refine(dD pt _ c0).mono ?_;rintro e w' ⟨rfl,rfl⟩)|(go_at_call 96;refine(nK h2).mono ?_;rintro e w' ⟨rfl,rfl⟩))
 go_ret;exact⟨rfl,rfl⟩
theorem xE{w:World}{pt:Nat}{T:Tb}{l:List Nat}{id i:Nat}(hid:id<18446744073709551616)(h:cH w pt T l)(hu:T.used i)(hi:T.ids i=id):
    Calls Tryz.prog 124 #[ptr pt,.int .u64 id] w fun e w' =>e=.returned (.tuple #[.int .i64 i,.bool true])/\Below w.heap.size w w' :=by
 obtain⟨cpc,rst,pa,gc,n,vi,C,la,h1,h2,h3,h4,rfl,hnd,hM,hs,hT,hinj,hb64⟩:=h;have c0:=h1.cell 0;have c3:=h1.cell 3;simp only[zS,zT]at c0 c3;have hpt:=h1.lt;have hn:=hM.pos;have hn2:=hM.le;have hbl:i<65536:=by have:=h2.ok.hs;have:=h2.ok.hb;have:=hu.1;omega
 have hfind:=fO id hid h1 h2 h3 h4 hM hs hT;have HF:=qB hfind;clear hfind;have HI:=qB hi;clear hi;go_enter Tryz.func124,Tryz.ntmps124
 go_wp2_with (go_at_call 142;refine(dD pt _ c0).mono ?_;rintro e w' ⟨rfl,rfl⟩)
 refine HF.out.mono ?_;rintro e w1 ⟨c,b,rfl,hf,hB⟩;have d3:=(hB.cell (p:=⟨pt,3,none⟩) hpt).trans c3;cases b with
 | false=>exact absurd HI.out ((jQ hT (by omega) hf).2.2.1 i hu)
 | true=>{
 obtain⟨j,hc,hcj,huj,hej⟩:=fN hT (by omega) hf;obtain rfl:j=i:=hinj j i huj hu (hej.trans HI.out.symm);have dc:w1.cell? ⟨gc,c,none⟩=some (.int .i64 ((j:Int)+1)):=by rw[hB.cell (p:=⟨gc,c,none⟩) h4.lt,h4.cell,gD hc];simp[fE,hcj]
 have H1:=qB hcj;clear hcj;have H2:=qB hej;clear hej;clear hf;go_wp2
 go_ret2;exact⟨rfl,hB⟩}
theorem aAR{w:World}{pt:Nat}{T:Tb}{l:List Nat}{id:Nat}(hid:id<18446744073709551616)(h:cH w pt T l)(hno:∀i,T.used i->T.ids i≠id):
    Calls Tryz.prog 124 #[ptr pt,.int .u64 id] w fun e w' =>e=.returned (.tuple #[.int .i64 0,.bool false])/\Below w.heap.size w w' :=by
 obtain⟨cpc,rst,pa,gc,n,vi,C,la,h1,h2,h3,h4,rfl,hnd,hM,hs,hT,hinj,hb64⟩:=h;have c0:=h1.cell 0;simp only[zS]at c0;have hn:=hM.pos;have hfind:=fO id hid h1 h2 h3 h4 hM hs hT;have HF:=qB hfind;clear hfind;have HN:=qB hno;clear hno;go_enter Tryz.func124,Tryz.ntmps124
 go_wp2_with (go_at_call 142;refine(dD pt _ c0).mono ?_;rintro e w' ⟨rfl,rfl⟩)
 refine HF.out.mono ?_;rintro e w1 ⟨c,b,rfl,hf,hB⟩;cases b with
 | true=>{
 obtain⟨j,hc,hcj,huj,hej⟩:=fN hT (by omega) hf;exact absurd hej (HN.out j huj)}
 | false=>{
 clear hf;go_wp2
 go_ret2;exact⟨rfl,hB⟩}
theorem tI{w:World}{pt:Nat}{T:Tb}{l:List Nat}{id i:Nat}(hid:id<18446744073709551616)(h:cH w pt T l)(hu:T.used i)(hi:T.ids i=id):
    Calls Tryz.prog 156 #[ptr pt,.int .u64 id] w fun e w' =>e=.returned (.tuple #[.int .i64 i,.bool false,.int .i64 0])/\Below w.heap.size w w' :=by
 obtain⟨cpc,rst,pa,gc,n,vi,C,la,h1,h2,h3,h4,rfl,hnd,hM,hs,hT,hinj,hb64⟩:=h;have c0:=h1.cell 0;have c3:=h1.cell 3;simp only[zS,zT]at c0 c3;have hpt:=h1.lt;have hn:=hM.pos;have hn2:=hM.le;have hbl:i<65536:=by have:=h2.ok.hs;have:=h2.ok.hb;have:=hu.1;omega
 have hfind:=fO id hid h1 h2 h3 h4 hM hs hT;have HF:=qB hfind;clear hfind;have HI:=qB hi;clear hi;go_enter Tryz.func156,Tryz.ntmps156
 go_wp2_with (go_at_call 142;refine(dD pt _ c0).mono ?_;rintro e w' ⟨rfl,rfl⟩)
 refine HF.out.mono ?_;rintro e w1 ⟨c,b,rfl,hf,hB⟩;have d3:=(hB.cell (p:=⟨pt,3,none⟩) hpt).trans c3;cases b with
 | false=>exact absurd HI.out ((jQ hT (by omega) hf).2.2.1 i hu)
 | true=>{
 obtain⟨j,hc,hcj,huj,hej⟩:=fN hT (by omega) hf;obtain rfl:j=i:=hinj j i huj hu (hej.trans HI.out.symm);have dc:w1.cell? ⟨gc,c,none⟩=some (.int .i64 ((j:Int)+1)):=by rw[hB.cell (p:=⟨gc,c,none⟩) h4.lt,h4.cell,gD hc];simp[fE,hcj]
 have H1:=qB hcj;clear hcj;have H2:=qB hej;clear hej;clear hf;go_wp2
 go_ret3;exact⟨rfl,hB⟩}
theorem uJ{w:World}{pt:Nat}{T:Tb}{l:List Nat}{id:Nat}(hid:id<18446744073709551616)(h:cH w pt T l)(hno:∀i,T.used i->T.ids i≠id)(hfull:T.A.next=none):
    Calls Tryz.prog 156 #[ptr pt,.int .u64 id] w fun e w' =>e=.returned (.tuple #[.int .i64 0,.bool false,.int .i64 4])/\Below w.heap.size w w' :=by
 obtain⟨cpc,rst,pa,gc,n,vi,C,la,h1,h2,h3,h4,rfl,hnd,hM,hs,hT,hinj,hb64⟩:=h;have c0:=h1.cell 0;have c1:=h1.cell 1;simp only[zS,zT]at c0 c1;have hpt:=h1.lt;have hn:=hM.pos;have hfind:=fO id hid h1 h2 h3 h4 hM hs hT;have HF:=qB hfind;clear hfind;have HN:=qB hno;clear hno;have HX:=qB hfull;clear hfull;go_enter Tryz.func156,Tryz.ntmps156
 go_wp2_with (go_at_call 142;refine(dD pt _ c0).mono ?_;rintro e w' ⟨rfl,rfl⟩)
 refine HF.out.mono ?_;rintro e w1 ⟨c,b,rfl,hf,hB⟩;have d1:=(hB.cell (p:=⟨pt,1,none⟩) hpt).trans c1;cases b with
 | true=>{
 obtain⟨j,hc,hcj,huj,hej⟩:=fN hT (by omega) hf;exact absurd hej (HN.out j huj)}
 | false=>{
 clear hf;have h2' :aQ w1 pa T.A la:=h2.same (fun b hb=>hB.block b (h2.lt b hb));go_wp2_with (go_at_call 155;refine(rV h2' HX.out).mono ?_;rintro e w2 ⟨rfl,hE⟩)
 go_ret3;exact⟨rfl,hB.trans ⟨hE.os,hE.tape,hE.output,by rw[hE.heap];exact qS _,fun k _=>by rw[hE.heap]⟩⟩}
theorem isUsed_alloc{A:Ar}{i:Nat}(hok:A.ok)(hn:A.next=some i):(¬A.isUsed i)/\∀j,A.alloc.isUsed j↔(A.isUsed j∨j=i):=by
 obtain⟨slots,begun,free⟩:=A;cases free with
 | cons k r=>{
 obtain rfl:k=i:=by simpa[Ar.next] using hn
 have hnd:=hok.nd;have hlt:=hok.lt k (by simp);simp only[qX]at hnd;dsimp only at hlt
 refine⟨by simp[Ar.isUsed],fun j=>?_⟩;simp only[Ar.isUsed,Ar.alloc,qF,not_or];constructor
 {
 rintro⟨a,b⟩;by_cases e:j=k
 · exact .inr e
 · exact .inl ⟨a,e,b⟩}
 {
 rintro(⟨a,_,b⟩|rfl)
 · exact⟨a,b⟩
 · exact⟨hlt,hnd.1⟩}}
 | nil=>{
 simp only[Ar.next]at hn;by_cases hb:begun<slots
 {
 rw[qI hb]at hn;obtain rfl:begun=i:=by simpa using hn
 refine⟨by simp[Ar.isUsed],fun j=>?_⟩;simp only[Ar.isUsed,Ar.alloc,List.not_mem_nil,not_false_eq_true,and_true];omega}
 · rw[qH hb]at hn;cases hn}
theorem oP{A:Ar}{i:Nat}(hok:A.ok)(hn:A.next=some i):(i<A.begun/\A.alloc.begun=A.begun)∨(i=A.begun/\A.alloc.begun=A.begun+1):=by
 obtain⟨slots,begun,free⟩:=A;cases free with
 | cons k r=>{
 obtain rfl:k=i:=by simpa[Ar.next] using hn
 exact .inl ⟨hok.lt k (by simp),rfl⟩}
 | nil=>{
 simp only[Ar.next]at hn;by_cases hb:begun<slots
 {
 rw[qI hb]at hn;obtain rfl:begun=i:=by simpa using hn
 exact .inr ⟨rfl,rfl⟩}
 · rw[qH hb]at hn;cases hn}
theorem sV(A:Ar):A.alloc.slots=A.slots:=by
 obtain⟨slots,begun,free⟩:=A;cases free<;>rfl
def Tb.put(T:Tb)(id i:Nat):Tb:={ A:=T.A.alloc,ids:=gQ T.ids i id }
theorem aKH(m:Nat)(ids:Nat->Nat)(x:Nat):bY m (idF ids)++[.int .u64 x]=bY (m+1) (idF (gQ ids m x)):=by
 simp only[bY,List.range_succ,List.map_append,List.map_cons,List.map_nil];congr 1
 {
 apply List.map_congr_left;intro a ha;simp at ha;simp only[idF];rw[aB (by omega)]}
 · simp[idF,bB]
theorem Tb.put_ok{n:Nat}{C:Nat->Nat}{T:Tb}{id i c:Nat}(hok:T.A.ok)(hid:id<18446744073709551616)(hM:xD n)(hT:iQ n (hm n) C T.ids T.used)(hn:T.A.next=some i)
    (hinj:∀i j,T.used i->T.used j->T.ids i=T.ids j->i=j) (hb64:∀i,i<T.A.begun->T.ids i<18446744073709551616) (hf:aCW n C T.ids id c false):
    c<n/\iQ n (hm n) (gQ C c (i+1)) (T.put id i).ids (T.put id i).used/\(∀a b,(T.put id i).used a->(T.put id i).used b->(T.put id i).ids a=(T.put id i).ids b->a=b) /\
      (∀a,a<(T.put id i).A.begun->(T.put id i).ids a<18446744073709551616):=by
 have hpos:=hM.pos;obtain⟨hc,h0,hno,hpath⟩:=jQ hT (by omega) hf;obtain⟨hnu,hiff⟩:=isUsed_alloc hok hn;refine⟨hc,?_,?_,?_⟩
 · exact(hT.put hc h0 hnu hpath).congr (fun j=>(hiff j).symm) (fun _ _=>rfl)
 {
 intro a b ha hb e;simp only[Tb.put]at e;rcases(hiff a).1 ha with ha|ha<;>rcases(hiff b).1 hb with hb|hb
 {
 have na:a≠i:=fun e=>hnu (e▸ha);have nb:b≠i:=fun e=>hnu (e▸hb);rw[aB na,aB nb]at e;exact hinj a b ha hb e}
 {
 have na:a≠i:=fun e=>hnu (e▸ha);rw[aB na,hb,bB]at e;exact absurd e (hno a ha)}
 {
 have nb:b≠i:=fun e=>hnu (e▸hb);rw[aB nb,ha,bB]at e;exact absurd e.symm (hno b hb)}
 · omega}
 {
 intro a ha;simp only[Tb.put]at ha ⊢;by_cases e:a=i
 · rw[e,bB];exact hid
 {
 rw[aB e];refine hb64 a ?_;rcases oP hok hn with⟨_,h⟩|⟨_,h⟩<;>omega}}
theorem Tryz.info26:(Tryz.prog.info? 26).map (fun i=>(i.zero,i.size,i.bytes))=some (some (.int .u64 0),1,8):=by kernel_rfl
theorem aKI{rst:List Value}{T:Tb}(vi:Value)(w2 w3:World)(pt gc n _c g' cap' :Nat)(hd:List Value)(C:Nat->Nat)(m1:Blk w2 pt 204 hd)(m4:Blk w2 gc 3 (iR n C rst))
    (hown3:w3.ownsRow 0 26 1 (.slice (some ⟨g', 0,none⟩) (T.A.begun+1) cap') (T.A.begun+1) (bY T.A.begun (idF T.ids)++[.int .u64 0]))
    (hgrow3:(w2.alloc (.cells #[.int .u64 0] 26)).grownBy w3 vi.ownBlock) (hg3:vi.ownBlock=some g' ∨ (w2.alloc (.cells #[.int .u64 0] 26)).heap.size<=g')
    (hvq:∀q,vi.ownBlock=some q->q≠pt/\q≠gc/\q<w2.heap.size):
    Blk w3 pt 204 hd/\Blk w3 gc 3 (iR n C rst)/\g' ≠ pt/\g' ≠ gc/\w3.cell? ⟨g', T.A.begun,none⟩=some (.int .u64 0)/\w3.frozen? ⟨g', T.A.begun,none⟩=false /\
      Fr vi.ownBlock.toList w2 w3/\(vi.ownBlock=some g' ∨ w2.heap.size<=g'):=by
 have hb0:∀k,k<w2.heap.size->vi.ownBlock≠some k->w3.heap[k]? =w2.heap[k]? :=by {
 intro k hk hne;rw[hgrow3.block k (by simp;omega) (fun e=>hne e.symm),Below.heap_alloc _ _ _ hk]};have hg:vi.ownBlock=some g' ∨ w2.heap.size<g' :=by {
 rcases hg3 with h|h
 · exact .inl h
 · simp at h;exact .inr (by omega)};obtain⟨g,cap,e,_,_,hc,hfz⟩:=cD hown3 (Nat.lt_succ_self _);simp only[qY,qQ,Addr.mk.injEq,and_true,true_and]at e;obtain⟨rfl,_⟩:=e;refine⟨m1.of_same (hb0 pt m1.lt (fun e=>(hvq pt e).1 rfl)),m4.of_same (hb0 gc m4.lt (fun e=>(hvq gc e).2.1 rfl)),?_,?_,?_,hfz _,⟨hgrow3.os,hgrow3.tape,hgrow3.output,by have:=hgrow3.size;simp at this;omega,fun k hk hn=>hb0 k hk (fun e=>hn (by simp[e]))⟩,?_⟩
 {
 rcases hg with h|h
 · exact(hvq _ h).1
 · have:=m1.lt;omega}
 {
 rcases hg with h|h
 · exact(hvq _ h).2.1
 · have:=m4.lt;omega}
 · rw[hc,List.getElem?_append_right (by rw[cU];exact qS _)];simp[cU]
 {
 rcases hg with h|h
 · exact .inl h
 · exact .inr (by omega)}
theorem xF{w:World}{pt:Nat}{T:Tb}{l:List Nat}{id i:Nat}(hid:id<18446744073709551616)(h:cH w pt T l)(hno:∀i,T.used i->T.ids i≠id)(hnext:T.A.next=some i):
    Calls Tryz.prog 156 #[ptr pt,.int .u64 id] w fun e w' =>e=.returned (.tuple #[.int .i64 i,.bool true,.int .i64 0]) /\
      ∃l', cH w' pt (T.put id i) l' /\ Fr l w w' /\ ∀b∈l', b∈l∨w.heap.size<=b:=by
 have hltw:=h.lt;obtain⟨cpc,rst,pa,gc,n,vi,C,la,h1,h2,h3,h4,rfl,hnd,hM,hs,hT,hinj,hb64⟩:=h;have hok:=h2.ok;have c0:=h1.cell 0;have c1:=h1.cell 1;have c2:=h1.cell 2;have c3:=h1.cell 3;simp only[zS,zT]at c0 c1 c2 c3;have hpt:=h1.lt;have hgc:=h4.lt;have hn:=hM.pos;have hn2:=hM.le;have hil:i<65536/\T.A.begun<=65536:=by {
 have:=hok.hs;have:=hok.hb;rcases oP hok hnext with⟨ha,_⟩|⟨ha,hb⟩
 · omega
 {
 have:T.A.begun<T.A.slots:=by {
 obtain⟨A,ids⟩:=T;obtain⟨slots,begun,free⟩:=A;cases free with
 | cons k r=>{
 simp[Ar.next]at hnext;subst hnext;have:=hok.lt k (by simp);dsimp only at this ha;omega}
 | nil=>{
 simp only[Ar.next]at hnext;by_cases hb:begun<slots
 · exact hb
 · rw[qH hb]at hnext;cases hnext}};omega}};obtain⟨hil,hbl⟩:=hil;have hfind:=fO id hid h1 h2 h3 h4 hM hs hT;have HF:=qB hfind;clear hfind;have HN:=qB hno;clear hno;have HX:=qB hnext;clear hnext;have hnd2:pt≠gc/\(∀q,vi.ownBlock=some q->q≠pt/\q≠gc/\q∉la)/\pt∉la/\gc∉la/\la.Nodup:=by {
 simp only[qX,qW,qF,qJ,Option.mem_toList,not_or]at hnd;refine⟨hnd.1.1,fun q hq=>⟨fun e=>hnd.1.2.1 (e▸hq),fun e=>hnd.2.1.1 (e▸hq),fun hm=>hnd.2.2.2.2 q (by simpa using hq) q hm rfl⟩,hnd.1.2.2,hnd.2.1.2,hnd.2.2.2.1⟩};obtain⟨hpg,hvq,hpla,hgla,hlnd⟩:=hnd2;go_enter Tryz.func156,Tryz.ntmps156
 go_wp2_with (go_at_call 142;refine(dD pt _ c0).mono ?_;rintro e w' ⟨rfl,rfl⟩)
 refine HF.out.mono ?_;rintro e w1 ⟨c,b,rfl,hf,hB⟩;cases b with
 | true=>{
 obtain⟨j,hc,hcj,huj,hej⟩:=fN hT (by omega) hf;exact absurd hej (HN.out j huj)}
 | false=>{
 have d1:=(hB.cell (p:=⟨pt,1,none⟩) hpt).trans c1;have h2' :aQ w1 pa T.A la:=h2.same (fun b hb=>hB.block b (h2.lt b hb));have k1:Blk w1 pt _ _:=h1.of_same (hB.block pt hpt);have k4:Blk w1 gc _ _:=h4.of_same (hB.block gc hgc);have k3:=aI h3 (fun q hq=>hB.block q (h3.lt q hq).2);have HFd:=qB hf;clear hf;have hBs:=hB.size;go_wp2_with fail
 refine(kC h2' HX.out).mono ?_;rintro e w2 ⟨rfl,la', hA', hFr,hsub⟩;clear d1;have m1:Blk w2 pt _ _:=hFr.blk k1 hpla;have m4:Blk w2 gc _ _:=hFr.blk k4 hgla;have m3:=aI k3 (fun q hq=>hFr.keep q (k3.lt q hq).2 (hvq q hq).2.2);have e2:=m1.cell 2;have e3:=m1.cell 3;simp only[zS,zT]at e2 e3;have efr:=m1.frozen;obtain⟨hc,hT', hinj', hb64'⟩:=Tb.put_ok hok hid hM hT HX.out hinj hb64 HFd.out;have ec:=m4.cell c;rw[gD hc]at ec;simp only[fE]at ec;have ecf:=m4.frozen c;have HT' :=qB hT'; clear hT';have Hinj' :=qB hinj'; clear hinj';have Hb64' :=qB hb64'; clear hb64';have Hsub:=qB hsub;clear hsub;have hsz2:=hFr.size;have HA' :=qB hA'; clear hA';rcases oP hok HX.out with⟨hlt,hbe⟩|⟨heq,hbe⟩
 {
 have Hbe:=qB hbe;clear hbe;obtain⟨g,cap,rfl,hcap,hg,hci,hfz⟩:=cD m3 hlt;rw[eV hlt]at hci;simp only[idF]at hci;have hfz' :=hfz i;clear hfz;obtain⟨hgp,hgg,hgla2⟩:=hvq g rfl;have hne:((i:Int) == (T.A.begun:Int))=false:=zA.2 (by omega);clear c0 c1 c2 c3 hvq;go_wp2
 go_ret3;have hlA:=HA'.out.lt;have hgw:g<w.heap.size:=hltw g (by simp[Value.ownBlock]);refine⟨rfl,pt::gc::([g]++la'),⟨cpc,rst,pa,gc,n,_,gQ C c (i+1),la', (m1.other _ _ (fun e=>hgp e.symm)).other _ _ hpg,HA'.out.same ?_,?_,?_,rfl,?_,hM,?_,HT'.out,Hinj'.out,Hb64'.out⟩,?_,?_⟩
 {
 intro b hb;have hb' :=Hsub.out b hb;have n1:b≠g:=by rcases hb' with hb' | hb'; exact fun e=>hgla2 (e▸hb');omega
 have n2:b≠gc:=by rcases hb' with hb' | hb'; exact fun e=>hgla (e▸hb');omega
 rw[Below.heap_setCell _ _ _ _ n2,Below.heap_setCell _ _ _ _ n1]}
 {
 have hx:=bQ (lZ m3 hlt (.int .u64 id)) ⟨gc,c,none⟩ (.int .i64 (i+1)) (by simp[Value.ownBlock];exact hgg);rw[mG]at hx;show World.ownsRow _ 0 _ 1 _ T.A.alloc.begun (bY T.A.alloc.begun (idF (gQ T.ids i id)))
 rw[Hbe.out];exact hx}
 {
 have hx:=(m4.other ⟨g,i,none⟩ (.int .u64 id) (fun e=>hgg e.symm)).set c (.int .i64 ((i+1:Nat):Int));rw[nL _ hc]at hx;exact hx}
 {
 have hla' :la'.Nodup:=by obtain⟨_,_,_,_,_,_,_,_,hq,_⟩:=HA'.out;exact hq
 have q1:∀b∈la', b≠pt/\b≠gc/\b≠g:=by {
 intro b hb;rcases Hsub.out b hb with hb' | hb'
 · exact⟨fun e=>hpla (e▸hb'),fun e=>hgla (e▸hb'),fun e=>hgla2 (e▸hb')⟩
 · exact⟨by omega,by omega,by omega⟩};simp only[qX,qW,qF,qJ,List.not_mem_nil,or_false,not_or];exact⟨⟨hpg,fun e=>hgp e.symm,fun hm=>(q1 pt hm).1 rfl⟩,⟨fun e=>hgg e.symm,fun hm=>(q1 gc hm).2.1 rfl⟩,by simp,hla', fun a ha b hb=>by subst ha;exact fun e=>(q1 b hb).2.2 e.symm⟩}
 {
 show 2*T.A.alloc.slots<=n
 rw[sV];exact hs}
 {
 have f1:Fr (pt::gc::((Value.slice (some ⟨g,0,none⟩) T.A.begun cap).ownBlock.toList++la)) w w2:=((Fr.of_below hB).mono (S' :=pt::gc::((Value.slice (some ⟨g,0,none⟩) T.A.begun cap).ownBlock.toList++la)) (by simp)).trans hFr (fun b hb=>.inl (by simp[hb]));exact(f1.setCell _ _ (.inl (by simp[Value.ownBlock]))).setCell _ _ (.inl (by simp))}
 {
 intro b hb;simp only[qF,qJ,List.not_mem_nil,or_false]at hb;rcases hb with rfl|rfl|rfl|hb
 · exact .inl (by simp)
 · exact .inl (by simp)
 · exact .inl (by simp[Value.ownBlock])
 {
 rcases Hsub.out b hb with hb' | hb'
 · exact .inl (by simp[hb'])
 · exact .inr (by omega)}}}
 {
 subst heq;have Hbe:=qB hbe;clear hbe;have hvl:∀q,vi.ownBlock=some q->q<w.heap.size:=fun q hq=>hltw q (by simp[hq]);have hpt2:pt<w2.heap.size:=by omega
 have hgc2:gc<w2.heap.size:=by omega
 clear c0 c1 c2 c3;obtain⟨a0,cp0,rfl⟩:=aJ m3;go_wp2_with (at_builtin;refine fT rfl _ _ 48 rfl 26 (.int .u64 0) 8 Tryz.underlying48 Tryz.info26 rfl (.slice a0 T.A.begun cp0) T.A.begun _ rfl (m3.alloc _) w2.heap.size (.int .u64 0) rfl (fS _ _ _ _ rfl) rfl (by omega) (by decide) ?_;intro g' cap' w3 hown3 hgrow3 hg3;obtain⟨f1,f2,f3,f4,f5,f6,f8,f9⟩:=aKI (T:=T) (Value.slice a0 T.A.begun cp0) w2 w3 pt gc n c g' cap' _ C m1 m4 hown3 hgrow3 hg3 (fun q hq=>⟨(hvq q hq).1,(hvq q hq).2.1,by have:=hvl q hq;omega⟩);have HO:=qB hown3;have H9:=qB f9;clear f9;have f7:=f1.frozen;clear hgrow3 hown3 hg3;have g1:=f1.cell 2;have g2:=f1.cell 3;have g3:=f2.cell c;have g4:=f2.frozen c;rw[gD hc]at g3;simp only[fE]at g3;simp only[zS,zT]at g1 g2)
 go_ret3;have hlA:=HA'.out.lt;have hla' :la'.Nodup:=by obtain⟨_,_,_,_,_,_,_,_,hq,_⟩:=HA'.out;exact hq
 have hgl:∀b∈la', b≠g' :=by {
 intro b hb e;subst e;rcases H9.out with h9|h9
 {
 have:=hvq _ h9;rcases Hsub.out _ hb with hb' | hb'
 · exact this.2.2 hb'
 · have:=hvl _ h9;omega}
 · have:=hlA _ hb;omega};have q1:∀b∈la', b≠pt/\b≠gc:=by {
 intro b hb;rcases Hsub.out b hb with hb' | hb'
 · exact⟨fun e=>hpla (e▸hb'),fun e=>hgla (e▸hb')⟩
 · exact⟨by omega,by omega⟩};refine⟨rfl,pt::gc::([g']++la'),⟨cpc,rst,pa,gc,n,.slice (some ⟨g', 0,none⟩) (T.A.begun+1) cap', gQ C c (T.A.begun+1),la', ?_,HA'.out.same ?_,?_,?_,rfl,?_,hM,?_,HT'.out,Hinj'.out,Hb64'.out⟩,?_,?_⟩
 · exact(((f1.set 2 (.slice (some ⟨g', 0,none⟩) (T.A.begun+1) cap')).other ⟨g', T.A.begun,none⟩ (.int .u64 id) (fun e=>f3 e.symm)).other ⟨gc,c,none⟩ (.int .i64 (T.A.begun+1)) hpg)
 {
 intro b hb;rw[Below.heap_setCell _ _ _ _ (q1 b hb).2,Below.heap_setCell _ _ _ _ (hgl b hb),Below.heap_setCell _ _ _ _ (q1 b hb).1];refine f8.keep b (hlA b hb) ?_;intro hm;simp only[Option.mem_toList]at hm;rcases Hsub.out b hb with hb' | hb'
 · exact(hvq b hm).2.2 hb'
 · have:=hvl b hm;omega}
 {
 have hx0:=bQ HO.out ⟨pt,2,none⟩ (.slice (some ⟨g', 0,none⟩) (T.A.begun+1) cap') (by simp[Value.ownBlock];exact f3);have hx:=bQ (lZ hx0 (Nat.lt_succ_self _) (.int .u64 id)) ⟨gc,c,none⟩ (.int .i64 (T.A.begun+1)) (by simp[Value.ownBlock];exact f4);have e0:=aKH T.A.begun T.ids 0;simp only[Int.cast_ofNat_Int]at e0;rw[e0,mG]at hx;have e1:gQ (gQ T.ids T.A.begun 0) T.A.begun id=gQ T.ids T.A.begun id:=by funext j;simp only[gQ];split<;>rfl
 rw[e1]at hx;show World.ownsRow _ 0 _ 1 _ T.A.alloc.begun (bY T.A.alloc.begun (idF (gQ T.ids T.A.begun id)))
 rw[Hbe.out];exact hx}
 {
 have hx:=((f2.other ⟨pt,2,none⟩ (.slice (some ⟨g', 0,none⟩) (T.A.begun+1) cap') (fun e=>hpg e.symm)).other ⟨g', T.A.begun,none⟩ (.int .u64 id) (fun e=>f4 e.symm)).set c (.int .i64 ((T.A.begun+1:Nat):Int));rw[nL _ hc]at hx;exact hx}
 {
 simp only[qX,qW,qF,qJ,List.not_mem_nil,or_false,not_or];exact⟨⟨hpg,fun e=>f3 e.symm,fun hm=>(q1 pt hm).1 rfl⟩,⟨fun e=>f4 e.symm,fun hm=>(q1 gc hm).2 rfl⟩,by simp,hla', fun a ha b hb=>by subst ha;exact fun e=>hgl b hb e.symm⟩}
 {
 show 2*T.A.alloc.slots<=n
 rw[sV];exact hs}
 {
 have p1:Fr (pt::gc::((Value.slice a0 T.A.begun cp0).ownBlock.toList++la)) w w2:=((Fr.of_below hB).mono (S' :=pt::gc::((Value.slice a0 T.A.begun cp0).ownBlock.toList++la)) (by simp)).trans hFr (fun b hb=>.inl (by simp[hb]));have p2:=p1.trans f8 (fun b hb=>.inl (by simp at hb;simp[hb]));refine((p2.setCell _ _ (.inl (by simp))).setCell _ _ ?_).setCell _ _ (.inl (by simp));rcases H9.out with h9|h9
 · exact .inl (by simp[h9])
 · exact .inr (by simp;omega)}
 {
 intro b hb;simp only[qF,qJ,List.not_mem_nil,or_false]at hb;rcases hb with rfl|rfl|rfl|hb
 · exact .inl (by simp)
 · exact .inl (by simp)
 {
 rcases H9.out with h9|h9
 · exact .inl (by simp[h9])
 · exact .inr (by omega)}
 {
 rcases Hsub.out b hb with hb' | hb'
 · exact .inl (by simp[hb'])
 · exact .inr (by omega)}}}}
theorem isUsed_put{A:Ar}{k:Nat}(_hu:A.isUsed k)(j:Nat):(A.put k).isUsed j↔(A.isUsed j/\j≠k):=by
 simp only[Ar.isUsed,Ar.put,qF,not_or];constructor
 · rintro⟨a,b,c⟩;exact⟨⟨a,c⟩,b⟩
 · rintro⟨⟨a,c⟩,b⟩;exact⟨a,b,c⟩
def Tb.del(T:Tb)(i:Nat):Tb:={ A:=T.A.put i,ids:=gQ T.ids i 0 }
theorem uK{w:World}{pt:Nat}{T:Tb}{l:List Nat}{id:Nat}(hid:id<18446744073709551616)(h:cH w pt T l)(hno:∀i,T.used i->T.ids i≠id):
    Calls Tryz.prog 94 #[ptr pt,.int .u64 id] w fun e w' =>e=.returned (.int .i64 5)/\Below w.heap.size w w' :=by
 obtain⟨cpc,rst,pa,gc,n,vi,C,la,h1,h2,h3,h4,rfl,hnd,hM,hs,hT,hinj,hb64⟩:=h;have c0:=h1.cell 0;simp only[zS]at c0;have hn:=hM.pos;have hfind:=fO id hid h1 h2 h3 h4 hM hs hT;have HF:=qB hfind;clear hfind;have HN:=qB hno;clear hno;go_enter Tryz.func94,Tryz.ntmps94
 go_wp2_with (go_at_call 142;refine(dD pt _ c0).mono ?_;rintro e w' ⟨rfl,rfl⟩)
 refine HF.out.mono ?_;rintro e w1 ⟨c,b,rfl,hf,hB⟩;cases b with
 | true=>{
 obtain⟨j,hc,hcj,huj,hej⟩:=fN hT (by omega) hf;exact absurd hej (HN.out j huj)}
 | false=>{
 clear hf;go_wp2
 go_ret;exact⟨rfl,hB⟩}
theorem aKJ{w:World}{pt:Nat}{T:Tb}{l:List Nat}{id i:Nat}(hid:id<18446744073709551616)(h:cH w pt T l)(hu:T.used i)(hi:T.ids i=id):
    Calls Tryz.prog 94 #[ptr pt,.int .u64 id] w fun e w' =>e=.returned (.int .i64 0)/\cH w' pt (T.del i) l/\Fr l w w' :=by
 have hltw:=h.lt;obtain⟨cpc,rst,pa,gc,n,vi,C,la,h1,h2,h3,h4,rfl,hnd,hM,hs,hT,hinj,hb64⟩:=h;have hok:=h2.ok;have hilt:i<T.A.begun:=hu.1;have hbl:T.A.begun<=65536:=by have:=hok.hs;have:=hok.hb;omega
 have c0:=h1.cell 0;have c1:=h1.cell 1;have c3:=h1.cell 3;simp only[zS,zT]at c0 c1 c3;have hpt:=h1.lt;have hgc:=h4.lt;have hn:=hM.pos;have hn2:=hM.le;have hfind:=fO id hid h1 h2 h3 h4 hM hs hT;have HF:=qB hfind;clear hfind;have HI:=qB hi;clear hi;have hnd2:pt≠gc/\(∀q,vi.ownBlock=some q->q≠pt/\q≠gc/\q∉la)/\pt∉la/\gc∉la:=by {
 simp only[qX,qW,qF,qJ,Option.mem_toList,not_or]at hnd;refine⟨hnd.1.1,fun q hq=>⟨fun e=>hnd.1.2.1 (e▸hq),fun e=>hnd.2.1.1 (e▸hq),fun hm=>hnd.2.2.2.2 q (by simpa using hq) q hm rfl⟩,hnd.1.2.2,hnd.2.1.2⟩};obtain⟨hpg,hvq,hpla,hgla⟩:=hnd2;obtain⟨g,cap,rfl,hcap,hg,hci,hfz⟩:=cD h3 hilt;obtain⟨hgp,hgg,hgla2⟩:=hvq g rfl;clear hvq;go_enter Tryz.func94,Tryz.ntmps94
 go_wp2_with (go_at_call 142;refine(dD pt _ c0).mono ?_;rintro e w' ⟨rfl,rfl⟩)
 refine HF.out.mono ?_;rintro e w1 ⟨c,b,rfl,hf,hB⟩;cases b with
 | false=>exact absurd HI.out ((jQ hT (by omega) hf).2.2.1 i hu)
 | true=>{
 obtain⟨j,hc,hcj,huj,hej⟩:=fN hT (by omega) hf;obtain rfl:j=i:=hinj j i huj hu (hej.trans HI.out.symm);have d1:=(hB.cell (p:=⟨pt,1,none⟩) hpt).trans c1;have d3:=(hB.cell (p:=⟨pt,3,none⟩) hpt).trans c3;have dc:w1.cell? ⟨gc,c,none⟩=some (.int .i64 ((j:Int)+1)):=by rw[hB.cell (p:=⟨gc,c,none⟩) h4.lt,h4.cell,gD hc];simp[fE,hcj]
 have H1:=qB hcj;clear hcj;have H2:=qB hej;clear hej;have h2' :aQ w1 pa T.A la:=h2.same (fun b hb=>hB.block b (h2.lt b hb));have k1:Blk w1 pt _ _:=h1.of_same (hB.block pt hpt);have k4:Blk w1 gc _ _:=h4.of_same (hB.block gc hgc);have k3:=aI h3 (fun q hq=>hB.block q (h3.lt q hq).2);clear hf c0 c1 c3 hci hfz;go_wp2_with fail
 refine(uF h2' hu).mono ?_;rintro e w2 ⟨rfl,hA', hFr⟩;clear d1 d3 dc;have m1:Blk w2 pt _ _:=hFr.blk k1 hpla;have m4:Blk w2 gc _ _:=hFr.blk k4 hgla;have m3:=aI k3 (fun q hq=>hFr.keep q (k3.lt q hq).2 (by simp[Value.ownBlock]at hq;subst hq;exact hgla2));have e2:=m1.cell 2;have e3:=m1.cell 3;simp only[zS,zT]at e2 e3;have HA' :=qB hA'; clear hA';go_wp2_with fail
 refine(aSW pt gc n cpc T.A.begun c C T.ids (fun k=>T.used k/\k≠j) (.slice (some ⟨g,0,none⟩) T.A.begun cap) w2 hM hpg e3 e2 m4 ?_ (fun k hk=>hk.1.1) hbl (rW.start hT hc H1.out) (uI hT hok hn hs)).mono ?_
 {
 intro k hk;obtain⟨g2,cap2,e,_,_,hck,_⟩:=cD m3 hk;simp only[qY,qQ,Addr.mk.injEq,and_true,true_and]at e;obtain⟨rfl,rfl⟩:=e;rw[eV hk]at hck;exact⟨g,cap,rfl,hgg,hgp,hck,hb64 k hk⟩}
 {
 rintro e w3 ⟨rfl,C', hb4,hT', hF3⟩;have n1:Blk w3 pt _ _:=hF3.blk m1 (by simpa using hpg);have n3:=aI m3 (fun q hq=>hF3.keep q (m3.lt q hq).2 (by simp[Value.ownBlock]at hq;subst hq;simpa using hgg));have s2:=n1.cell 2;simp only[zS,zT]at s2;obtain⟨g2,cap2,e,_,_,hck,hfz⟩:=cD n3 hilt;simp only[qY,qQ,Addr.mk.injEq,and_true,true_and]at e;obtain⟨rfl,rfl⟩:=e;rw[eV hilt]at hck;simp only[idF]at hck;have hfz' :=hfz j;clear hfz e2 e3;have HT' :=qB hT'; clear hT';go_wp2
 go_ret;have hA3:aQ w3 pa (T.A.put j) la:=HA'.out.same (fun b hb=>hF3.keep b (HA'.out.lt b hb) (by simp;rintro rfl;exact hgla hb));refine⟨rfl,⟨cpc,rst,pa,gc,n,_,C', la,n1.other _ _ (fun e=>hgp e.symm),hA3.same ?_,?_,hb4.other _ _ (fun e=>hgg e.symm),rfl,hnd,hM,hs,?_,?_,?_⟩,?_⟩
 {
 intro b hb;exact Below.heap_setCell _ _ _ _ (show b≠g by rintro rfl;exact hgla2 hb)}
 {
 have hx:=lZ n3 hilt (.int .u64 ((0:Nat):Int));rw[mG]at hx;exact hx}
 {
 refine HT'.out.congr (fun k=>(isUsed_put hu k).symm) (fun k hk=>?_);simp only[Tb.del];rw[aB hk.2]}
 {
 intro a b ha hb e;obtain⟨ha1,ha2⟩:=(isUsed_put hu a).1 ha;obtain⟨hb1,hb2⟩:=(isUsed_put hu b).1 hb;simp only[Tb.del]at e;rw[aB ha2,aB hb2]at e;exact hinj a b ha1 hb1 e}
 {
 intro a ha;simp only[Tb.del,Ar.put]at ha ⊢;by_cases e:a=j
 · rw[e,bB];omega
 · rw[aB e];exact hb64 a ha}
 {
 have p1:=(((Fr.of_below hB).mono (S' :=pt::gc::((Value.slice (some ⟨g,0,none⟩) T.A.begun cap).ownBlock.toList++la)) (by simp)).trans hFr (fun b hb=>.inl (by simp[hb]))).trans hF3 (fun b hb=>.inl (by simp at hb;simp[hb]));exact p1.setCell _ _ (.inl (by simp[Value.ownBlock]))}}}
theorem Tryz.info3:(Tryz.prog.info? 3).map (fun i=>(i.zero,i.size,i.bytes))=some (some (.int .i64 0),1,8):=by kernel_rfl
def Tb.new(slots:Nat):Tb:={ A:=Ar.new slots,ids:=fun _=>0 }
theorem aSY(slots:Int)(w:World)(h:slots<0∨65536<slots):
    Calls Tryz.prog 164 #[.int .i64 slots] w fun e w' =>e=.returned (.tuple #[.pointer none,.int .i64 2])/\w=w' :=by
 have H:=qB h;clear h;go_enter Tryz.func164,Tryz.ntmps164
 go_wp2_with (go_at_call 163;refine(aAO slots _ H.out).mono ?_;rintro e w' ⟨rfl,rfl⟩)
 go_ret2;exact⟨rfl,rfl⟩
theorem yE(n:Nat):madeCells (Value.int .i64 0).cells n=(bY n (fE (fun _=>0))).toArray:=by
 apply Array.ext
 · simp[madeCells,bY]
 {
 intro i h1 h2;simp[madeCells,bY,fE,Value.cells,Nat.mod_one]}
theorem xG(n:Nat)(w:World)(hn:n<=1048576):(Instr.makeSlice 94 (.int .i64 n) (.int .i64 n)).run Tryz.prog w=.ok (.slice (some ⟨w.heap.size,0,none⟩) n n) (w.alloc (.cells (bY n (fE (fun _=>0))).toArray 3)):=by
 obtain⟨i0,hi,hz0,hz1,hz2⟩:=info_parts Tryz.info3;have h:=run_make (P:=Tryz.prog) w 94 3 i0 (.int .i64 0) Tryz.underlying94 hi hz0 .i64 .i64 n n (by omega) (by omega) (by rw[hz2];omega) (by omega);rw[hz1]at h;simp only[zM,Nat.mul_one]at h;rw[yE]at h;exact h
theorem aKK{j:Nat}(h:2 ^ j<131072):j<17:=by
 apply qZ;intro hn;have:2 ^ 17<=2 ^ j:=Nat.pow_le_pow_right (by decide) (by omega);omega
theorem aKL(slots:Nat)(w:World)(h:slots<=65536):
    Calls Tryz.prog 164 #[.int .i64 slots] w fun e w' =>∃pt,e=.returned (.tuple #[ptr pt,.int .i64 0])/\∃l,cH w' pt (Tb.new slots) l/\Fr [] w w' /\ ∀b∈l,w.heap.size<=b:=by
 go_enter Tryz.func164,Tryz.ntmps164
 go_wp2_with (go_at_call 163;refine(yB slots _ h).mono ?_;rintro e w1 ⟨rfl,hA,hFr⟩)
 go_loop [6] (fun a=>∃j n:Nat,1<=j/\j<=17/\n<=131072/\Hid (n=2 ^ j)/\a=.int .i64 n) (fun a=>200000-(intOf a).toNat)
 case atStart=>exact⟨1,2,by omega,by omega,by omega,qB rfl,rfl⟩
 case round=>
  obtain⟨j,n,hj1,hj2,hn1,Hn,rfl⟩:=hrel;by_cases hlt:n<2*slots
  {
  go_wp2
  go_round
  case rel=>
   have hj3:j<17:=aKK (by rw[<-Hn.out];omega);have hp:2 ^ (j+1)<=2 ^ 17:=Nat.pow_le_pow_right (by decide) (by omega);have hq:n*2=2 ^ (j+1):=by rw[Hn.out];rfl
   refine⟨j+1,n*2,by omega,by omega,by omega,qB hq,by go_num⟩
  case measure=>
   have hp:1<=n:=by rw[Hn.out];exact Nat.one_le_two_pow
   simp[intOf];omega}
  {
  have hmk:=fun W=>xG n W (by omega);go_wp2
  go_ret2;have hw:w.heap.size<w1.heap.size:=hA.lt _ (by simp);have b1:=Blk.new w1 (bY n (fE fun _=>0)) 3;have b2:=Blk.new (w1.alloc (.cells (bY n (fE fun _=>0)).toArray 3)) [ptr (w1.heap.size+1),ptr w.heap.size,.slice none 0 0,.slice (some ⟨w1.heap.size,0,none⟩) n n] 204;simp only[World.size_alloc]at b2;refine⟨w1.heap.size+1,rfl,(w1.heap.size+1)::w1.heap.size::([]++[w.heap.size]),⟨n,[],w.heap.size,w1.heap.size,n,.slice none 0 0,fun _=>0,[w.heap.size],b2,?_,World.ownsRow_nil _ _ _ _,by unfold iR;rw[List.append_nil];exact b1.alloc _,rfl,?_,?_,?_,?_,?_,?_⟩,?_,?_⟩
  {
  exact hA.same (fun b hb=>by
    simp only[qP]at hb;subst hb;rw[Below.heap_alloc _ _ _ (by simp;omega),Below.heap_alloc _ _ _ hw])}
  · simp;omega
  · rw[Hn.out];exact xD.mk' j hj1 hj2
  · show 2*slots<=n;omega
  · exact⟨fun c _ h0=>absurd rfl h0,fun c d _ _ h0=>absurd rfl h0,fun i hi=>absurd hi.1 (Nat.not_lt_zero _)⟩
  · intro i j hi;exact absurd hi.1 (Nat.not_lt_zero _)
  · intro i hi;exact absurd hi (Nat.not_lt_zero _)
  · exact(hFr.alloc _).alloc _
  · intro b hb;simp at hb;omega}
end Go.Proofs.YtgmnemndjjmgkaaGreat
namespace Go.Proofs.YtgmnemndjjmgkaaGreat
structure Md where
  slots:Nat
  L:List (Nat×Nat)
  free:List Nat
  given:Nat
namespace Md
def new(slots:Nat):Md:={ slots:=slots,L:=[],free:=[],given:=0 }
def find(M:Md)(id:Nat):Option Nat:=(M.L.find? (fun x=>x.1 == id)).map (·.2)
def idOf(M:Md)(i:Nat):Option Nat:=(M.L.find? (fun x=>x.2 == i)).map (·.1)
def next(M:Md):Option Nat:=match M.free with
  | k::_=>some k
  | []=>if M.given<M.slots then some M.given else none
def add(M:Md)(id i:Nat):Md:={ M with L:=M.L++[(id,i)],free:=M.free.tail,given:=match M.free with|[]=>M.given+1|_=>M.given }
def rem(M:Md)(id i:Nat):Md:={ M with L:=M.L.filter (fun x=>x.1 != id),free:=i::M.free }
structure PutR where
  idx:Nat
  added:Bool
  err:Nat
  M:Md
def put(M:Md)(id:Nat):PutR:=match M.find id with
  | some i=>⟨i,false,0,M⟩
  | none=>match M.next with
    | none=>⟨0,false,4,M⟩
    | some i=>⟨i,true,0,M.add id i⟩
structure DelR where
  err:Nat
  M:Md
def del(M:Md)(id:Nat):DelR:=match M.find id with
  | none=>⟨5,M⟩
  | some i=>⟨0,M.rem id i⟩
def ar(M:Md):Ar:={ slots:=M.slots,begun:=M.given,free:=M.free }
structure Ok (M:Md):Prop where
  ar:M.ar.ok
  ids:(M.L.map (·.1)).Nodup
  idx:(M.L.map (·.2)).Nodup
  used:∀x∈M.L,M.ar.isUsed x.2
  all:∀i,M.ar.isUsed i->∃id,(id,i)∈M.L
  cnt:M.L.length+M.free.length=M.given
  u64:∀x∈M.L,x.1<18446744073709551616
theorem mem_find{M:Md}(h:(M.L.map (·.1)).Nodup){id i:Nat}(hm:(id,i)∈M.L):M.find id=some i:=by
 unfold find;generalize M.L=l at *;induction l with
 | nil=>cases hm
 | cons a r ih=>{
 simp only[List.map_cons,qX]at h;by_cases e:a.1=id
 {
 rcases qF.1 hm with rfl|hm
 · simp
 · exact absurd (zF.2 ⟨_,hm,e.symm⟩) h.1}
 {
 rcases qF.1 hm with rfl|hm
 · exact absurd rfl e
 · rw[List.find?_cons_of_neg (by simpa using e)];exact ih h.2 hm}}
theorem find_mem{M:Md}{id i:Nat}(hf:M.find id=some i):(id,i)∈M.L:=by
 unfold find at hf;simp only[Option.map_eq_some_iff]at hf;obtain⟨x,hx,rfl⟩:=hf;have h1:=List.find?_some hx;have h2:=List.mem_of_find?_eq_some hx;simp at h1;subst h1;exact h2
theorem find_iff{M:Md}(h:M.Ok){id i:Nat}:M.find id=some i↔(id,i)∈M.L:=⟨find_mem,mem_find h.ids⟩
theorem find_none{M:Md}{id:Nat}:M.find id=none↔∀i,(id,i)∉M.L:=by
 unfold find;simp only[Option.map_eq_none_iff,List.find?_eq_none,beq_iff_eq];constructor
 · intro h i hm;exact h _ hm rfl
 · rintro h ⟨a,b⟩ hm e;subst e;exact h b hm
theorem mem_idOf{M:Md}(h:(M.L.map (·.2)).Nodup){id i:Nat}(hm:(id,i)∈M.L):M.idOf i=some id:=by
 unfold idOf;generalize M.L=l at *;induction l with
 | nil=>cases hm
 | cons a r ih=>{
 simp only[List.map_cons,qX]at h;by_cases e:a.2=i
 {
 rcases qF.1 hm with rfl|hm
 · simp
 · exact absurd (zF.2 ⟨_,hm,e.symm⟩) h.1}
 {
 rcases qF.1 hm with rfl|hm
 · exact absurd rfl e
 · rw[List.find?_cons_of_neg (by simpa using e)];exact ih h.2 hm}}
theorem ok_new{slots:Nat}(h:slots<=65536):(new slots).Ok:=
  ⟨⟨h,by simp[new,ar],by simp[new,ar],by simp[new,ar]⟩,by simp[new],by simp[new],by simp[new],fun i hi=>absurd hi.1 (Nat.not_lt_zero _),rfl,by simp[new]⟩
theorem ar_next(M:Md):M.ar.next=M.next:=by
 unfold ar next Ar.next;cases M.free<;>rfl
theorem ar_add{M:Md}{id i:Nat}(h:M.next=some i):(M.add id i).ar=M.ar.alloc:=by
 obtain⟨s,L,f,g⟩:=M;cases f<;>rfl
theorem ar_rem(M:Md)(id i:Nat):(M.rem id i).ar=M.ar.put i:=rfl
theorem alloc_ok{A:Ar}{i:Nat}(h:A.ok)(hn:A.next=some i):A.alloc.ok:=by
 obtain⟨s,b,f⟩:=A;cases f with
 | cons k r=>refine⟨h.hs,h.hb,(qX.1 h.nd).2,fun x hx=>h.lt x (List.mem_cons_of_mem _ hx)⟩
 | nil=>{
 simp only[Ar.next]at hn;by_cases hb:b<s
 · exact⟨h.hs,by simp[Ar.alloc];omega,by simp[Ar.alloc],by simp[Ar.alloc]⟩
 · rw[qH hb]at hn;cases hn}
theorem isUsed_alloc' {A:Ar}{i:Nat}(hok:A.ok)(hn:A.next=some i):(¬A.isUsed i)/\∀j,A.alloc.isUsed j↔(A.isUsed j∨j=i):=by
 obtain⟨slots,begun,free⟩:=A;cases free with
 | cons k r=>{
 obtain rfl:k=i:=by simpa[Ar.next] using hn
 have hnd:=hok.nd;have hlt:=hok.lt k (by simp);simp only[qX]at hnd;dsimp only at hlt
 refine⟨by simp[Ar.isUsed],fun j=>?_⟩;simp only[Ar.isUsed,Ar.alloc,qF,not_or];constructor
 {
 rintro⟨a,b⟩;by_cases e:j=k
 · exact .inr e
 · exact .inl ⟨a,e,b⟩}
 {
 rintro(⟨a,_,b⟩|rfl)
 · exact⟨a,b⟩
 · exact⟨hlt,hnd.1⟩}}
 | nil=>{
 simp only[Ar.next]at hn;by_cases hb:begun<slots
 {
 rw[qI hb]at hn;obtain rfl:begun=i:=by simpa using hn
 refine⟨by simp[Ar.isUsed],fun j=>?_⟩;simp only[Ar.isUsed,Ar.alloc,List.not_mem_nil,not_false_eq_true,and_true];omega}
 · rw[qH hb]at hn;cases hn}
theorem ok_add{M:Md}(h:M.Ok){id i:Nat}(hid:id<18446744073709551616)(hf:M.find id=none)(hn:M.next=some i):(M.add id i).Ok:=by
 have hn' :M.ar.next=some i:=by rw[ar_next];exact hn
 obtain⟨hnu,hiff⟩:=isUsed_alloc' h.ar hn';have hno:=find_none.1 hf;refine⟨by rw[ar_add hn];exact alloc_ok h.ar hn', ?_,?_,?_,?_,?_,?_⟩
 {
 simp only[add,List.map_append,List.map_cons,List.map_nil,qW];refine⟨h.ids,by simp,?_⟩;intro a ha b hb e;simp only[qP]at hb;obtain⟨x,hx,rfl⟩:=zF.1 ha;exact hno x.2 (by rw[<-hb,<-e];exact hx)}
 {
 simp only[add,List.map_append,List.map_cons,List.map_nil,qW];refine⟨h.idx,by simp,?_⟩;intro a ha b hb e;simp only[qP]at hb;obtain⟨x,hx,rfl⟩:=zF.1 ha;have:=h.used x hx;rw[e,hb]at this;exact hnu this}
 {
 intro x hx;rw[ar_add hn,hiff];simp only[add,qJ,qP]at hx;rcases hx with hx|rfl
 · exact .inl (h.used x hx)
 · exact .inr rfl}
 {
 intro j hj;rw[ar_add hn,hiff]at hj;rcases hj with hj|rfl
 {
 obtain⟨id', hm⟩:=h.all j hj;exact⟨id', by simp[add,hm]⟩}
 · exact⟨id,by simp[add]⟩}
 {
 have:=h.cnt;obtain⟨s,L,f,g⟩:=M;cases f with
 | nil=>simp[add]at *;omega
 | cons k r=>simp[add]at *;omega}
 {
 intro x hx;simp only[add,qJ,qP]at hx;rcases hx with hx|rfl
 · exact h.u64 x hx
 · exact hid}
theorem filter_ne{l:List (Nat×Nat)}{id i:Nat}(hnd:(l.map (·.1)).Nodup)(hm:(id,i)∈l):(l.filter (fun x=>x.1 != id)).length+1=l.length:=by
 induction l with
 | nil=>cases hm
 | cons a r ih=>{
 simp only[List.map_cons,qX]at hnd;by_cases e:a.1=id
 {
 have hr:r.filter (fun x=>x.1 != id)=r:=List.filter_eq_self.2 (fun x hx=>by
   simp only[bne_iff_ne];intro e2;exact hnd.1 (zF.2 ⟨x,hx,e2.trans e.symm⟩))
 rw[List.filter_cons_of_neg (by simp[e]),hr];simp}
 {
 rcases qF.1 hm with rfl|hm
 · exact absurd rfl e
 · rw[List.filter_cons_of_pos (by simpa using e),zI,zI,ih hnd.2 hm]}}
theorem isUsed_put' {A:Ar}{k:Nat}(_hu:A.isUsed k)(j:Nat):(A.put k).isUsed j↔(A.isUsed j/\j≠k):=by
 simp only[Ar.isUsed,Ar.put,qF,not_or];constructor
 · rintro⟨a,b,c⟩;exact⟨⟨a,c⟩,b⟩
 · rintro⟨⟨a,c⟩,b⟩;exact⟨a,b,c⟩
theorem ok_rem{M:Md}(h:M.Ok){id i:Nat}(hm:(id,i)∈M.L):(M.rem id i).Ok:=by
 have hu:=h.used _ hm;have hiff:=isUsed_put' hu;have hne:∀x∈M.L,x.1≠id->x.2≠i:=by {
 intro x hx hn e;have h1:=mem_idOf h.idx (show(x.1,x.2)∈M.L from hx);have h2:=mem_idOf h.idx hm;rw[e,h2]at h1;exact hn (by simpa using h1.symm)};refine⟨?_,?_,?_,?_,?_,?_,?_⟩
 {
 rw[ar_rem];refine⟨h.ar.hs,h.ar.hb,?_,?_⟩
 · simp only[Ar.put,qX];exact⟨hu.2,h.ar.nd⟩
 {
 intro x hx;simp only[Ar.put,qF]at hx;rcases hx with rfl|hx
 · exact hu.1
 · exact h.ar.lt x hx}}
 · exact(List.Sublist.map _ List.filter_sublist).nodup h.ids
 · exact(List.Sublist.map _ List.filter_sublist).nodup h.idx
 {
 intro x hx;simp only[rem,zJ,bne_iff_ne]at hx;rw[ar_rem,hiff];exact⟨h.used x hx.1,hne x hx.1 hx.2⟩}
 {
 intro j hj;rw[ar_rem,hiff]at hj;obtain⟨id', hm'⟩:=h.all j hj.1;refine⟨id', ?_⟩;simp only[rem,zJ,bne_iff_ne];refine⟨hm', fun e=>?_⟩;subst e;have h1:=mem_find h.ids hm;rw[mem_find h.ids hm']at h1;exact hj.2 (by simpa using h1)}
 {
 have:=h.cnt;have h2:=filter_ne h.ids hm;simp only[rem,zI];omega}
 {
 intro x hx;simp only[rem,zJ]at hx;exact h.u64 x hx.1}
theorem ok_put{M:Md}(h:M.Ok){id:Nat}(hid:id<18446744073709551616):(M.put id).M.Ok:=by
 unfold put;cases hf:M.find id with
 | some i=>exact h
 | none=>{
 cases hn:M.next with
 | none=>exact h
 | some i=>exact ok_add h hid hf hn}
theorem ok_del{M:Md}(h:M.Ok)(id:Nat):(M.del id).M.Ok:=by
 unfold del;cases hf:M.find id with
 | none=>exact h
 | some i=>exact ok_rem h (find_mem hf)
end Md
end Go.Proofs.YtgmnemndjjmgkaaGreat
namespace Go.Proofs.YtgmnemndjjmgkaaGreat
open Go.RowKit
def iI(w:World)(pt:Nat)(M:Md)(l:List Nat):Prop:=
  ∃T,cH w pt T l/\T.A=M.ar/\M.Ok/\∀id i,(id,i)∈M.L↔(T.used i/\T.ids i=id)
theorem iI.ok{w:World}{pt:Nat}{M:Md}{l:List Nat}(h:iI w pt M l):M.Ok:=by obtain⟨_,_,_,h,_⟩:=h;exact h
theorem iI.lt{w:World}{pt:Nat}{M:Md}{l:List Nat}(h:iI w pt M l):∀b∈l,b<w.heap.size:=by obtain⟨_,h,_⟩:=h;exact h.lt
theorem iI.fr{w w' :World}{pt:Nat}{M:Md}{l S:List Nat}(h:iI w pt M l)(hf:Fr S w w')(hd:∀b∈l,b∉S):iI w' pt M l:=by
 obtain⟨T,h,r⟩:=h;exact⟨T,h.fr hf hd,r⟩
theorem iI.below{w w' :World}{pt:Nat}{M:Md}{l:List Nat}(h:iI w pt M l)(hf:Below w.heap.size w w'):iI w' pt M l:=
  h.fr (Fr.of_below hf) (by simp)
def Next(l l' :List Nat)(w w' :World):Prop:=Fr l w w' /\ ∀b∈l', b∈l∨w.heap.size<=b
theorem Next.of_below{l:List Nat}{w w' :World}(h:Below w.heap.size w w'):Next l l w w' :=⟨(Fr.of_below h).mono (by simp),fun _ h=>.inl h⟩
theorem aSZ(slots:Nat)(w:World)(h:slots<=65536):
    Calls Tryz.prog 164 #[.int .i64 slots] w fun e w' =>∃pt,e=.returned (.tuple #[ptr pt,.int .i64 0])/\∃l,iI w' pt (Md.new slots) l/\Next [] l w w' :=by
 refine(aKL slots w h).mono ?_;rintro e w' ⟨pt,rfl,l,hT,hF,hl⟩;refine⟨pt,rfl,l,⟨_,hT,rfl,Md.ok_new h,fun id i=>?_⟩,hF,fun b hb=>.inr (hl b hb)⟩;simp only[Md.new,List.not_mem_nil,false_iff,not_and];intro hu;exact absurd hu.1 (Nat.not_lt_zero _)
theorem aTA{w:World}{pt:Nat}{M:Md}{l:List Nat}(id:Nat)(hid:id<18446744073709551616)(h:iI w pt M l):
    Calls Tryz.prog 156 #[ptr pt,.int .u64 id] w fun e w' =>e=.returned (.tuple #[.int .i64 (M.put id).idx,.bool (M.put id).added,.int .i64 (M.put id).err]) /\
      ∃l', iI w' pt (M.put id).M l' /\ Next l l' w w' :=by
 have h0:=h;obtain⟨T,hT,hA,hok,hiff⟩:=h;cases hf:M.find id with
 | some i=>{
 have hm:=(hiff id i).1 (Md.find_mem hf);have e:M.put id=⟨i,false,0,M⟩:=by simp only[Md.put,hf]
 rw[e];refine(tI hid hT hm.1 hm.2).mono ?_;rintro e w' ⟨rfl,hB⟩;exact⟨rfl,l,h0.below hB,Next.of_below hB⟩}
 | none=>{
 have hno:∀i,T.used i->T.ids i≠id:=fun i hu e=>Md.find_none.1 hf i ((hiff id i).2 ⟨hu,e⟩);cases hn:M.next with
 | none=>{
 have e:M.put id=⟨0,false,4,M⟩:=by simp only[Md.put,hf,hn]
 rw[e];refine(uJ hid hT hno (by rw[hA,Md.ar_next];exact hn)).mono ?_;rintro e w' ⟨rfl,hB⟩;exact⟨rfl,l,h0.below hB,Next.of_below hB⟩}
 | some i=>{
 have e:M.put id=⟨i,true,0,M.add id i⟩:=by simp only[Md.put,hf,hn]
 rw[e];have hn' :T.A.next=some i:=by rw[hA,Md.ar_next];exact hn
 refine(xF hid hT hno hn').mono ?_;rintro e w' ⟨rfl,l', hT', hF,hs⟩;refine⟨rfl,l', ⟨T.put id i,hT', ?_,Md.ok_add hok hid hf hn,fun id' j=>?_⟩,hF,hs⟩
 · rw[Md.ar_add hn,<-hA];rfl
 {
 have hu:=isUsed_alloc (by rw[hA];exact hok.ar) hn';simp only[Md.add,qJ,qP,zN,hiff];have hu2:(T.put id i).used j↔(T.used j∨j=i):=hu.2 j;rw[hu2];simp only[Tb.put];constructor
 {
 rintro(⟨h1,h2⟩|⟨rfl,rfl⟩)
 {
 have:j≠i:=fun e=>hu.1 (e▸h1);rw[aB this];exact⟨.inl h1,h2⟩}
 · rw[bB];exact⟨.inr rfl,rfl⟩}
 {
 rintro⟨h1,h2⟩;by_cases e:j=i
 · rw[e,bB]at h2;exact .inr ⟨h2.symm,e⟩
 · rw[aB e]at h2;exact .inl ⟨h1.resolve_right e,h2⟩}}}}
theorem aTB{w:World}{pt:Nat}{M:Md}{l:List Nat}(id:Nat)(hid:id<18446744073709551616)(h:iI w pt M l):
    Calls Tryz.prog 94 #[ptr pt,.int .u64 id] w fun e w' =>e=.returned (.int .i64 (M.del id).err)/\iI w' pt (M.del id).M l/\Next l l w w' :=by
 have h0:=h;obtain⟨T,hT,hA,hok,hiff⟩:=h;cases hf:M.find id with
 | none=>{
 have hno:∀i,T.used i->T.ids i≠id:=fun i hu e=>Md.find_none.1 hf i ((hiff id i).2 ⟨hu,e⟩);have e:M.del id=⟨5,M⟩:=by simp only[Md.del,hf]
 rw[e];refine(uK hid hT hno).mono ?_;rintro e w' ⟨rfl,hB⟩;exact⟨rfl,h0.below hB,Next.of_below hB⟩}
 | some i=>{
 have hm:=(hiff id i).1 (Md.find_mem hf);have e:M.del id=⟨0,M.rem id i⟩:=by simp only[Md.del,hf]
 rw[e];refine(aKJ hid hT hm.1 hm.2).mono ?_;rintro e w' ⟨rfl,hT', hF⟩;refine⟨rfl,⟨T.del i,hT', ?_,Md.ok_rem hok (Md.find_mem hf),fun id' j=>?_⟩,hF,fun _ h=>.inl h⟩
 · rw[Md.ar_rem,<-hA];rfl
 {
 have hu2:(T.del i).used j↔(T.used j/\j≠i):=isUsed_put hm.1 j;simp only[Md.rem,zJ,bne_iff_ne,hiff];rw[hu2];simp only[Tb.del];constructor
 {
 rintro⟨⟨h1,h2⟩,h3⟩;have e:j≠i:=by rintro rfl;exact h3 (h2.symm.trans hm.2)
 rw[aB e];exact⟨⟨h1,e⟩,h2⟩}
 {
 rintro⟨⟨h1,h3⟩,h2⟩;rw[aB h3]at h2;refine⟨⟨h1,h2⟩,fun e=>?_⟩;have a1:=(hiff id j).2 ⟨h1,h2.trans e⟩;have a2:=Md.mem_find hok.ids a1;rw[hf]at a2;exact h3 (by simpa using a2.symm)}}}
theorem aID{w:World}{pt:Nat}{M:Md}{l:List Nat}(id:Nat)(hid:id<18446744073709551616)(h:iI w pt M l):
    Calls Tryz.prog 124 #[ptr pt,.int .u64 id] w fun e w' =>e=.returned (.tuple #[.int .i64 ((M.find id).getD 0),.bool (M.find id).isSome])/\iI w' pt M l/\Below w.heap.size w w' :=by
 have h0:=h;obtain⟨T,hT,hA,hok,hiff⟩:=h;cases hf:M.find id with
 | none=>{
 have hno:∀i,T.used i->T.ids i≠id:=fun i hu e=>Md.find_none.1 hf i ((hiff id i).2 ⟨hu,e⟩);refine(aAR hid hT hno).mono ?_;rintro e w' ⟨rfl,hB⟩;exact⟨rfl,h0.below hB,hB⟩}
 | some i=>{
 have hm:=(hiff id i).1 (Md.find_mem hf);refine(xE hid hT hm.1 hm.2).mono ?_;rintro e w' ⟨rfl,hB⟩;exact⟨rfl,h0.below hB,hB⟩}
theorem aIE{w:World}{pt:Nat}{M:Md}{l:List Nat}(h:iI w pt M l):
    Calls Tryz.prog 95 #[ptr pt] w fun e w' =>e=.returned (.int .i64 M.L.length)/\w=w' :=by
 obtain⟨T,hT,hA,hok,hiff⟩:=h;refine(aKG hT).mono ?_;rintro e w' ⟨rfl,rfl⟩;refine⟨aIB ?_,rfl⟩;have:=hok.cnt;rw[hA];simp only[Md.ar,Ar.used];omega
def gF(A:Ar)(i:Nat):List Nat:=(List.range i).filter fun k=> !A.free.contains k
def fV(A:Ar):List Nat:=gF A A.begun
def gA(l:List Nat):List Value:=l.map fun(x:Nat)=>.int .i64 x
theorem tJ{A:Ar}{i:Nat}(h:i∉A.free):gF A (i+1)=gF A i++[i]:=by
 simp[gF,List.range_succ,List.filter_append,h]
theorem uL{A:Ar}{i:Nat}(h:i∈A.free):gF A (i+1)=gF A i:=by
 simp[gF,List.range_succ,List.filter_append,h]
theorem aGA(A:Ar)(i:Nat):(gF A i).length<=i:=zQ (List.length_filter_le _ _) (by simp)
theorem rX{A:Ar}(h:A.ok):(fV A).length=A.used:=by
 unfold fV gF Ar.used;have h1:((List.range A.begun).filter fun k=> !A.free.contains k).length+((List.range A.begun).filter fun k=>A.free.contains k).length=A.begun:=by {
 rw[<-List.countP_eq_length_filter,<-List.countP_eq_length_filter];have:=List.length_eq_countP_add_countP (fun k=>A.free.contains k) (l:=List.range A.begun);simp only[List.length_range]at this;have e:(List.range A.begun).countP (fun k=> !A.free.contains k)=(List.range A.begun).countP (fun a=>decide (¬A.free.contains a=true)):=by apply List.countP_congr;intro x _;simp
 omega};have h2:((List.range A.begun).filter fun k=>A.free.contains k).length=A.free.length:=by {
 apply List.Perm.length_eq;rw[List.perm_ext_iff_of_nodup (List.filter_sublist.nodup List.nodup_range) h.nd];intro k;simp only[zJ,List.mem_range,List.contains_iff_mem];exact⟨fun h=>h.2,fun hk=>⟨h.lt k hk,hk⟩⟩};omega
theorem iY{A:Ar}{k:Nat}:k∈fV A↔A.isUsed k:=by
 simp[fV,gF,Ar.isUsed]
theorem mH(A:Ar):(fV A).Nodup:=List.filter_sublist.nodup List.nodup_range
def stI(A:Ar)(k:Nat):Int:=if k∈A.free then 2 else 1
theorem aCY{w:World}{pa:Nat}{A:Ar}{l:List Nat}(h:aQ w pa A l){k:Nat}(hk:k<A.begun):
    Calls Tryz.prog 140 #[ptr pa,.int .i64 k] w fun e w' =>e=.returned (.int .i64 (stI A k))/\w=w' :=by
 obtain⟨v,bs,st,af,h1,h2,h3,rfl,hnd,hl,hok,hst,hch⟩:=h;have hs:=hok.hs;have hb:=hok.hb;obtain⟨g,cap,b,tm,rfl,hbk,hg1,hg2,hbp,c1,c2,c3,c4,hfz⟩:=aQ.slot h2 h3 hnd hl (show k/64<bs.length by omega);have e:st k=stI A k:=by {
 unfold stI;by_cases hf:k∈A.free
 · rw[qI hf,hst.1 k hk hf]
 · rw[qH hf,hst.2 k hk hf]};rw[<-e];exact oE pa g bs.length cap b k A.begun (st k) w (h1.cell 1) (by omega) (by omega) (h1.cell 3) hk c1 c2
theorem aKM(c:Nat)(w:World)(hn:c<=1048576):(Instr.makeSlice 94 (.int .i64 0) (.int .i64 c)).run Tryz.prog w=.ok (.slice (some ⟨w.heap.size,0,none⟩) 0 c) (w.alloc (.cells (bY c (fE (fun _=>0))).toArray 3)):=by
 obtain⟨i0,hi,hz0,hz1,hz2⟩:=info_parts Tryz.info3;have h:=run_make (P:=Tryz.prog) w 94 3 i0 (.int .i64 0) Tryz.underlying94 hi hz0 .i64 .i64 0 c (by omega) (by omega) (by rw[hz2];omega) (by omega);rw[hz1]at h;simp only[zM,Nat.mul_one]at h;rw[yE]at h;exact h
theorem yF{w:World}{e:TypeId}{cs:List Value}(c:Nat)(hc:cs.length=c)(hm:c<=1048576):(w.alloc (.cells cs.toArray e)).ownsRow 0 e 1 (.slice (some ⟨w.heap.size,0,none⟩) 0 c) 0 []:=
  ⟨rfl,.inr ⟨w.heap.size,c,cs.toArray,rfl,zB _,World.alloc_heap_new w _,zB _,by unfold maxLen;omega,by simp[hc],by simp⟩⟩
theorem aQ.fr{w w' :World}{pa:Nat}{A:Ar}{l S:List Nat}(h:aQ w pa A l)(hf:Fr S w w')(hd:∀b∈l,b∉S):aQ w' pa A l:=
  h.same fun b hb=>hf.keep b (h.lt b hb) (hd b hb)
theorem uM{w:World}{pa:Nat}{A:Ar}{l:List Nat}(h:aQ w pa A l):
    Calls Tryz.prog 97 #[ptr pa] w fun e w' =>∃v,e=.returned v/\w'.ownsRow 0 3 1 v (fV A).length (gA (fV A))/\(∀q,v.ownBlock=some q->w.heap.size<=q)/\Fr [] w w' :=by
 have hok:=h.ok;have hs:=hok.hs;have hb:=hok.hb;have hlt:=h.lt;have HA:=qB h;obtain⟨v0,bs,st,af,h1,_⟩:=h;have c0:=h1.cell 0;have c3:=h1.cell 3;have c4:=h1.cell 4;simp only[zS,zT]at c0 c3 c4;have hpa:=h1.lt;have husd:A.used<=65536:=by unfold Ar.used;omega
 have hmk:=aKM A.used w (by omega);have hown0:=yF (w:=w) (e:=3) (cs:=bY A.used (fE fun _=>0)) A.used (cU _ _) (by omega);have HO0:=qB hown0;clear hown0 h1;have HLt:=qB hlt;clear hlt;have d3:(w.alloc (.cells (bY A.used (fE fun _=>0)).toArray 3)).cell? ⟨pa,3,none⟩=some (.int .i64 A.begun):=((Fr.refl [] w).alloc _).cell c3 (by simp);have HF0:Hid (Fr [] w (w.alloc (.cells (bY A.used (fE fun _=>0)).toArray 3))):=qB ((Fr.refl [] w).alloc _);go_enter Tryz.func97,Tryz.ntmps97
 go_wp2_with (go_at_call 139;refine(cO pa _ c0).mono ?_;rintro e w' ⟨rfl,rfl⟩)
 generalize w.alloc (.cells (bY A.used (fE fun _=>0)).toArray 3)=w1 at *;clear c0 c3 c4 hmk d3;go_loopw [3,17] (fun v si wr=>∃i:Nat,i<=A.begun/\si=.int .i64 i/\Hid (Fr [] w wr)/\wr.ownsRow 0 3 1 v (gF A i).length (gA (gF A i))/\Hid (∀q,v.ownBlock=some q->w.heap.size<=q)) (fun _ si _=>A.begun-(intOf si).toNat)
 case atStart=>exact⟨0,zB _,rfl,HF0,by simpa[gF,gA] using HO0.out,qB (fun q e=>by simp[Value.ownBlock]at e;omega)⟩
 case round=>
  clear HO0 HF0;obtain⟨i,hi,rfl,HF,hown,HQ⟩:=hrel;obtain⟨a8,c8,rfl⟩:=aJ hown;by_cases hlt:i<A.begun
  {
  have hil:(i:Int)<A.begun:=by omega
  have HSt:=qB (aCY (HA.out.fr HF.out (by simp)) hlt);have hul:=aGA A i;by_cases hf:i∈A.free
  {
  have e1:stI A i=2:=by unfold stI;rw[qI hf]
  rw[e1]at HSt;have Hu:=qB (uL hf);clear e1 hf;go_wp2_with (go_at_call 140;refine HSt.out.mono ?_;rintro e w' ⟨rfl,rfl⟩)
  go_roundw
  case rel=>exact⟨i+1,by omega,by go_num,HF,by rw[Hu.out];exact hown,HQ⟩
  case measure=>simp[intOf];omega}
  {
  have e1:stI A i=1:=by unfold stI;rw[qH hf]
  rw[e1]at HSt;have Hu:=qB (tJ hf);clear e1 hf;generalize gF A i=us at *;go_wp2_with (first|(go_at_call 140;refine HSt.out.mono ?_;rintro e w' ⟨rfl,rfl⟩)|(at_builtin;refine fT rfl _ _ 94 rfl 3 (.int .i64 0) 8 Tryz.underlying94 Tryz.info3 rfl (.slice a8 us.length c8) us.length _ rfl (hown.alloc _) wr.heap.size (.int .i64 i) rfl (fS _ _ _ _ rfl) rfl (by omega) (by decide) ?_;intro g' cap' w4 hown4 hgrow4 hg4;have hF4:Fr (Value.slice a8 us.length c8).ownBlock.toList wr w4:=((Fr.refl _ _).alloc _).grown hgrow4 (fun q e=>.inl (by simp[e]))))
  go_roundw
  case rel=>
   have hs4:=HF.out.size;simp only[World.size_alloc]at hg4;refine⟨i+1,by omega,by go_num,qB (HF.out.trans hF4 (fun q hq=>.inr (HQ.out q (by simpa using hq)))),?_,qB (fun q e=>?_)⟩
   {
   rw[Hu.out,zO];have:gA (us++[i])=gA us++[.int .i64 i]:=by simp[gA]
   rw[this];exact hown4}
   {
   simp only[Value.ownBlock,qQ]at e;subst e;rcases hg4 with e|e
   · exact HQ.out _ e
   · omega}
  case measure=>simp[intOf];omega}}
  {
  obtain rfl:i=A.begun:=by omega
  have Hown:=qB hown;clear hown;go_wp2
  go_ret;exact⟨_,rfl,Hown.out,HQ.out,HF.out⟩}
end Go.Proofs.YtgmnemndjjmgkaaGreat
namespace Go.Proofs.YtgmnemndjjmgkaaGreat
structure Lv where
  slot:Nat
  seq:Nat
  u:Nat
  v:Nat
  wt:Int
  t:Int
  x:Int
deriving DecidableEq
def Lv.z:Lv:=⟨0,0,0,0,0,0,0⟩
def Lv.at(e:Lv)(id:Nat):Bool:=e.u == id||e.v == id
def cB(L:List Lv)(id:Nat):List Nat:=(L.filter fun e=>e.at id).map (·.slot)
def aD(L:List Lv)(i:Nat):Lv:=(L.find? fun e=>e.slot == i).getD Lv.z
structure Sm where
  V:Nat
  E:Nat
  last:Nat
  A:Ar
  M:Md
  L:List Lv
namespace Sm
structure Ok (s:Sm):Prop where
  ar:s.A.ok
  sl:s.A.slots=s.E
  md:s.M.Ok
  ms:s.M.slots=s.V
  used:∀i,s.A.isUsed i↔∃e∈s.L,e.slot=i
  one:(s.L.map (·.slot)).Nodup
  seq:s.L.Pairwise fun a b=>a.seq<b.seq
  last:∀e∈s.L,e.seq<=s.last
  vert:∀id,(s.M.find id).isSome=true↔cB s.L id≠[]
  ne:∀e∈s.L,e.u≠e.v
  u64:∀e∈s.L,e.u<18446744073709551616/\e.v<18446744073709551616
  leV:s.V<=4096
  leE:s.E<=16384
  lt:s.last<18446744073709551616
def new(V E last:Nat):Sm:={ V:=V,E:=E,last:=last,A:=Ar.new E,M:=Md.new V,L:=[] }
def more(s:Sm)(u v:Nat):Nat:=(if (s.M.find u).isSome=true then 0 else 1)+if (s.M.find v).isSome=true then 0 else 1
def chk(s:Sm)(u v:Nat):Nat:=if u=v then 9 else if s.E<=s.A.used then 12 else if s.V<s.M.L.length+s.more u v then 11 else 0
def slot(s:Sm):Nat:=s.A.next.getD 0
def edge(s:Sm)(u v:Nat)(wt t x:Int):Lv:=⟨s.slot,s.last+1,u,v,wt,t,x⟩
def ins(s:Sm)(u v:Nat)(wt t x:Int):Sm:={ s with last:=s.last+1,A:=s.A.alloc,M:=((s.M.put u).M.put v).M,L:=s.L++[s.edge u v wt t x] }
def delIf(M:Md)(L:List Lv)(id:Nat):Md:=if cB L id=[] then(M.del id).M else M
def rem(s:Sm)(i:Nat):Sm:=
  { s with A:=s.A.put i,L:=s.L.filter (fun e=>e.slot != i),M:=delIf (delIf s.M (s.L.filter fun e=>e.slot != i) (aD s.L i).u) (s.L.filter fun e=>e.slot != i) (aD s.L i).v }
end Sm
theorem yG(L:List Lv)(e:Lv)(id:Nat):cB (L++[e]) id=cB L id++if e.at id then [e.slot] else []:=by
 unfold cB;rw[List.filter_append,List.map_append];congr 1
 by_cases h:e.at id=true<;>simp[h]
theorem fI{L:List Lv}{id i:Nat}:i∈cB L id↔∃e∈L,e.at id=true/\e.slot=i:=by
 unfold cB;simp[zF,zJ,and_assoc]
theorem uN{L:List Lv}(h:(L.map (·.slot)).Nodup)(id:Nat):(cB L id).Nodup:=(List.Sublist.map _ List.filter_sublist).nodup h
theorem jR(L:List Lv)(id i:Nat):cB (L.filter fun e=>e.slot != i) id=(cB L id).filter (· != i):=by
 unfold cB;rw[List.filter_map,List.filter_filter,List.filter_filter];congr 1
 exact List.filter_congr fun e _=>by simp[Bool.and_comm]
theorem mI(L:List Lv)(id:Nat):(cB L id).length<=L.length:=by
 unfold cB;rw[List.length_map];exact List.length_filter_le _ _
theorem gR{L:List Lv}(h:(L.map (·.slot)).Nodup){e:Lv}(he:e∈L):aD L e.slot=e:=by
 unfold aD;induction L with
 | nil=>cases he
 | cons a r ih=>{
 simp only[List.map_cons,qX]at h;by_cases e0:a.slot=e.slot
 {
 rcases qF.1 he with rfl|he
 · simp
 · exact absurd (zF.2 ⟨_,he,e0.symm⟩) h.1}
 {
 rcases qF.1 he with rfl|he
 · exact absurd rfl e0
 · rw[List.find?_cons_of_neg (by simpa using e0)];exact ih h.2 he}}
theorem sW{L:List Lv}{i:Nat}(h:∀e∈L,e.slot≠i):aD L i=Lv.z:=by
 unfold aD;rw[List.find?_eq_none.2 (fun e he=>by simpa using h e he)];rfl
theorem aCZ{L:List Lv}{e:Lv}(h:∀x∈L,x.slot≠e.slot)(i:Nat):aD (L++[e]) i=if i=e.slot then e else aD L i:=by
 unfold aD;by_cases hi:i=e.slot
 {
 subst hi;rw[qI rfl,List.find?_append,List.find?_eq_none.2 (fun x hx=>by simpa using h x hx)];simp}
 {
 rw[qH hi,List.find?_append];have hn:(e.slot == i)=false:=by simp;omega
 simp[hn]}
theorem xH{L:List Lv}(i j:Nat):aD (L.filter fun e=>e.slot != i) j=if j=i then Lv.z else aD L j:=by
 by_cases hj:j=i
 {
 subst hj;rw[qI rfl];exact sW fun e he=>by simpa using (zJ.1 he).2}
 {
 rw[qH hj];unfold aD;rw[List.find?_filter];congr 1
 congr 1
 funext e
 by_cases he:e.slot=j
 · subst he;simp[hj]
 · simp[he]}
theorem aAS{A:Ar}(h:A.used<A.slots):∃i,A.next=some i:=by
 obtain⟨s,b,f⟩:=A;cases f with
 | nil=>{
 have hb:b<s:=by simpa[Ar.used] using h
 exact⟨b,qI hb⟩}
 | cons k r=>exact⟨k,rfl⟩
theorem uO{A:Ar}(hok:A.ok){i:Nat}(h:A.next=some i):i<A.slots:=by
 obtain⟨s,b,f⟩:=A;cases f with
 | nil=>{
 simp only[Ar.next]at h;split at h
 · cases h;assumption
 · cases h}
 | cons k r=>{
 cases h;exact Nat.lt_of_lt_of_le (hok.lt _ (List.mem_cons_self ..)) hok.hb}
theorem aKN{A:Ar}(h:A.ok){k:Nat}(hu:A.isUsed k):(A.put k).ok:=by
 refine⟨h.hs,h.hb,?_,?_⟩
 · simp only[Ar.put,qX];exact⟨hu.2,h.nd⟩
 {
 intro x hx;simp only[Ar.put,qF]at hx;rcases hx with rfl|hx
 · exact hu.1
 · exact h.lt x hx}
theorem uP(A:Ar):A.alloc.slots=A.slots:=by
 obtain⟨s,b,f⟩:=A;cases f<;>rfl
theorem lB(M:Md)(id:Nat):(M.put id).M.slots=M.slots:=by
 unfold Md.put;cases M.find id with
 | some i=>rfl
 | none=>cases M.next<;>rfl
theorem aAT(M:Md)(id:Nat):(M.del id).M.slots=M.slots:=by
 unfold Md.del;cases M.find id<;>rfl
theorem aTC{M:Md}(h:M.Ok)(hl:M.L.length<M.slots):∃i,M.next=some i:=by
 have hc:=h.cnt;obtain⟨s,L,f,g⟩:=M;cases f with
 | nil=>{
 have hb:g<s:=by simp at hc hl;omega
 exact⟨g,qI hb⟩}
 | cons k r=>exact⟨k,rfl⟩
def aGB(M:Md)(id:Nat):Prop:=(M.find id).isSome=true∨M.L.length<M.slots
theorem uQ{M:Md}(h:M.Ok){id i:Nat}(hid:id<18446744073709551616)(hf:M.find id=none)(hn:M.next=some i)(x:Nat):(M.add id i).find x=if x=id then some i else M.find x:=by
 have hok:=Md.ok_add h hid hf hn;by_cases hx:x=id
 {
 subst hx;rw[qI rfl];exact(Md.find_iff hok).2 (by simp[Md.add])}
 {
 rw[qH hx];cases hy:M.find x with
 | some j=>exact(Md.find_iff hok).2 (by have:=Md.find_mem hy;simp[Md.add,this])
 | none=>{
 refine Md.find_none.2 fun j hm=>?_;simp only[Md.add,qJ,qP,zN]at hm;rcases hm with hm|⟨e,_⟩
 · exact Md.find_none.1 hy j hm
 · exact hx e}}
theorem mJ{M:Md}(h:M.Ok){id:Nat}(hid:id<18446744073709551616)(hf:aGB M id):
    (M.put id).err=0/\(∀x,((M.put id).M.find x).isSome=true↔((M.find x).isSome=true∨x=id))/\(M.put id).M.L.length=M.L.length+(if (M.find id).isSome=true then 0 else 1)/\(M.put id).M.find id=some (M.put id).idx:=by
 unfold Md.put;cases hi:M.find id with
 | some i=>{
 refine⟨rfl,fun x=>⟨.inl,fun hx=>hx.elim (fun h=>h) fun e=>?_⟩,by simp,hi⟩;subst e;rw[hi];rfl}
 | none=>{
 have hl:M.L.length<M.slots:=hf.resolve_left (by rw[hi];simp);obtain⟨i,hn⟩:=aTC h hl;simp only[hn];refine⟨trivial,fun x=>?_,by simp[Md.add],by rw[uQ h hid hi hn,qI rfl]⟩;rw[uQ h hid hi hn];by_cases hx:x=id
 · simp[hx]
 · simp[hx]}
theorem aNH{M:Md}(h:M.Ok)(id x:Nat):((M.del id).M.find x).isSome=true↔((M.find x).isSome=true/\x≠id):=by
 unfold Md.del;cases hi:M.find id with
 | none=>{
 refine⟨fun hx=>⟨hx,fun e=>?_⟩,fun hx=>hx.1⟩;subst e;rw[hi]at hx;cases hx}
 | some i=>{
 have hok:=Md.ok_rem h (Md.find_mem hi);simp only[zE];constructor
 {
 rintro⟨j,hj⟩;have hm:=Md.find_mem hj;simp only[Md.rem,zJ,bne_iff_ne]at hm;exact⟨⟨j,(Md.find_iff h).2 hm.1⟩,hm.2⟩}
 {
 rintro⟨⟨j,hj⟩,hne⟩;refine⟨j,(Md.find_iff hok).2 ?_⟩;simp only[Md.rem,zJ,bne_iff_ne];exact⟨Md.find_mem hj,hne⟩}}
namespace Sm
section
variable {s:Sm}
theorem ok_new{V E last:Nat}(hV:V<=4096)(hE:E<=16384)(hl:last<18446744073709551616):(new V E last).Ok:=by
 refine⟨⟨by simp[new,Ar.new];omega,by simp[new,Ar.new],by simp[new,Ar.new],by simp[new,Ar.new]⟩,rfl,Md.ok_new (by omega),rfl,fun i=>?_,by simp[new],by simp[new],by simp[new],fun id=>?_,by simp[new],by simp[new],hV,hE,hl⟩
 · simp[new,Ar.new,Ar.isUsed]
 · simp[new,Md.new,Md.find,cB]
theorem len_used(h:s.Ok):s.A.used=s.L.length:=by
 rw[<-rX h.ar];have:=((List.perm_ext_iff_of_nodup (mH s.A) h.one).2 fun i=>by rw[iY,h.used];simp).length_eq;rw[List.length_map]at this;exact this
theorem chk_ok(_h:s.Ok){u v:Nat}(hc:s.chk u v=0):u≠v/\s.A.used<s.E/\s.M.L.length+s.more u v<=s.V:=by
 unfold chk at hc;split at hc
 · cases hc
 {
 split at hc
 · cases hc
 {
 split at hc
 · cases hc
 · exact⟨by assumption,by omega,by omega⟩}}
theorem slot_next(h:s.Ok){u v:Nat}(hc:s.chk u v=0):s.A.next=some s.slot:=by
 obtain⟨i,hi⟩:=aAS (A:=s.A) (by rw[h.sl];exact(chk_ok h hc).2.1);unfold slot;rw[hi];rfl
theorem fits_uv(h:s.Ok){u v:Nat}(hu:u<18446744073709551616)(hc:s.chk u v=0):aGB s.M u/\aGB (s.M.put u).M v:=by
 obtain⟨hne,_,hle⟩:=chk_ok h hc;unfold more at hle;have hs:=h.ms;have h1:aGB s.M u:=by {
 unfold aGB;by_cases hf:(s.M.find u).isSome=true
 · exact .inl hf
 · rw[qH hf]at hle;exact .inr (by omega)};obtain⟨_,p2,p3,_⟩:=mJ h.md hu h1;refine⟨h1,?_⟩;unfold aGB;rw[p2,p3,lB];by_cases hf:(s.M.find v).isSome=true
 · exact .inl (.inl hf)
 {
 rw[qH hf]at hle;refine .inr ?_;omega}
theorem ok_ins(h:s.Ok){u v:Nat}(hu:u<18446744073709551616)(hv:v<18446744073709551616)(hc:s.chk u v=0)(hl:s.last+1<18446744073709551616)(wt t x:Int):(s.ins u v wt t x).Ok:=by
 obtain⟨hne,hlt,_⟩:=chk_ok h hc;have hn:=slot_next h hc;obtain⟨f1,f2⟩:=fits_uv h hu hc;obtain⟨hnu,hiff⟩:=Md.isUsed_alloc' h.ar hn;have hnew:∀e∈s.L,e.slot≠s.slot:=fun e he ee=>hnu ((h.used _).2 ⟨e,he,ee⟩);obtain⟨_,p2,_,_⟩:=mJ h.md hu f1;have hok1:=Md.ok_put h.md hu;obtain⟨_,q2,_,_⟩:=mJ hok1 hv f2;refine⟨Md.alloc_ok h.ar hn,(uP _).trans h.sl,Md.ok_put hok1 hv,(lB _ _).trans ((lB _ _).trans h.ms),fun i=>?_,?_,?_,?_,fun id=>?_,?_,?_,h.leV,h.leE,hl⟩
 {
 simp only[ins];rw[hiff,h.used];simp only[qJ,qP];constructor
 {
 rintro(⟨e,he,rfl⟩|rfl)
 · exact⟨e,.inl he,rfl⟩
 · exact⟨_,.inr rfl,rfl⟩}
 {
 rintro⟨e,he|rfl,rfl⟩
 · exact .inl ⟨e,he,rfl⟩
 · exact .inr rfl}}
 {
 simp only[ins,List.map_append,List.map_cons,List.map_nil,qW];refine⟨h.one,by simp,fun a ha b hb e=>?_⟩;simp only[qP]at hb;obtain⟨x,hx,rfl⟩:=zF.1 ha;exact hnew x hx (e.trans hb)}
 {
 simp only[ins];rw[List.pairwise_append];refine⟨h.seq,by simp,fun a ha b hb=>?_⟩;obtain rfl:=qP.1 hb;exact Nat.lt_succ_of_le (h.last a ha)}
 {
 intro e he;simp only[ins,qJ,qP]at he;rcases he with he|rfl
 · exact Nat.le_succ_of_le (h.last e he)
 · exact qS _}
 {
 simp only[ins];rw[q2,p2,h.vert,yG];have hat:(s.edge u v wt t x).at id=true↔u=id∨v=id:=by simp[Lv.at,edge]
 by_cases h1:(s.edge u v wt t x).at id=true
 {
 rw[qI h1];refine⟨fun _=>by simp,fun _=>?_⟩;rcases hat.1 h1 with e|e
 · exact .inl (.inr e.symm)
 · exact .inr e.symm}
 {
 rw[qH h1,List.append_nil];refine⟨fun h2=>?_,fun h2=>.inl (.inl h2)⟩;rcases h2 with(h2|h2)|h2
 · exact h2
 · exact absurd (hat.2 (.inl h2.symm)) h1
 · exact absurd (hat.2 (.inr h2.symm)) h1}}
 {
 intro e he;simp only[ins,qJ,qP]at he;rcases he with he|rfl
 · exact h.ne e he
 · exact hne}
 {
 intro e he;simp only[ins,qJ,qP]at he;rcases he with he|rfl
 · exact h.u64 e he
 · exact⟨hu,hv⟩}
theorem live_used(h:s.Ok){i:Nat}(hu:s.A.isUsed i):aD s.L i∈s.L/\(aD s.L i).slot=i:=by
 obtain⟨e,he,rfl⟩:=(h.used i).1 hu;rw[gR h.one he];exact⟨he,rfl⟩
theorem delIf_ok{M:Md}(h:M.Ok)(L:List Lv)(id:Nat):(delIf M L id).Ok:=by
 unfold delIf;split
 · exact Md.ok_del h id
 · exact h
theorem delIf_slots(M:Md)(L:List Lv)(id:Nat):(delIf M L id).slots=M.slots:=by
 unfold delIf;split
 · exact aAT M id
 · rfl
theorem delIf_find{M:Md}(h:M.Ok)(L:List Lv)(id x:Nat):((delIf M L id).find x).isSome=true↔((M.find x).isSome=true/\(x=id->cB L id≠[])):=by
 unfold delIf;split
 {
 rename_i hn;rw[aNH h];refine and_congr_right fun _=>⟨fun h1 h2=>absurd h2 h1,fun h1 h2=>h1 h2 hn⟩}
 {
 rename_i hn;exact⟨fun h1=>⟨h1,fun _=>hn⟩,fun h1=>h1.1⟩}
theorem ok_rem(h:s.Ok){i:Nat}(hu:s.A.isUsed i):(s.rem i).Ok:=by
 obtain⟨hm,hs⟩:=live_used h hu;have hiff:=Md.isUsed_put' hu;have ho1:=delIf_ok h.md (s.L.filter fun e=>e.slot != i) (aD s.L i).u;refine⟨aKN h.ar hu,h.sl,delIf_ok ho1 _ _,?_,fun j=>?_,(List.Sublist.map _ List.filter_sublist).nodup h.one,h.seq.sublist List.filter_sublist,fun e he=>h.last e (zJ.1 he).1,fun id=>?_,fun e he=>h.ne e (zJ.1 he).1,fun e he=>h.u64 e (zJ.1 he).1,h.leV,h.leE,h.lt⟩
 · simp only[rem,delIf_slots];exact h.ms
 {
 simp only[rem];rw[hiff,h.used];simp only[zJ,bne_iff_ne];constructor
 · rintro⟨⟨e,he,rfl⟩,hj⟩;exact⟨e,⟨he,hj⟩,rfl⟩
 · rintro⟨e,⟨he,hj⟩,rfl⟩;exact⟨⟨e,he,rfl⟩,hj⟩}
 {
 simp only[rem];rw[delIf_find ho1,delIf_find h.md,h.vert];constructor
 {
 rintro⟨⟨h1,h2⟩,h3⟩;by_cases e1:id=(aD s.L i).u
 · rw[e1];exact h2 e1
 {
 by_cases e2:id=(aD s.L i).v
 · rw[e2];exact h3 e2
 {
 intro e3;apply h1;refine List.eq_nil_iff_forall_not_mem.2 fun k hk=>?_;rw[jR]at e3;have hki:k=i:=by {
 apply qZ;intro hne;have:k∈(cB s.L id).filter (· != i):=zJ.2 ⟨hk,by simpa using hne⟩;rw[e3]at this;cases this};subst hki;obtain⟨e,he,hat,hes⟩:=fI.1 hk;have:e=aD s.L k:=by rw[<-hes,gR h.one he]
 subst this;unfold Lv.at at hat;simp only[Bool.or_eq_true,beq_iff_eq]at hat;rcases hat with hat|hat
 · exact e1 hat.symm
 · exact e2 hat.symm}}}
 {
 intro h1;refine⟨⟨fun e=>h1 ?_,fun e=>e▸h1⟩,fun e=>e▸h1⟩;rw[jR,e];rfl}}
end
end Sm
end Go.Proofs.YtgmnemndjjmgkaaGreat
namespace Go.Proofs.YtgmnemndjjmgkaaGreat
open Go.RowKit Go.Maps
def tK(ok:Value->Bool)(v:Value):Option (DataW Value×List MemPlace):=if ok v then some (.held v,[]) else none
theorem aAU{ok:Value->Bool}{v:Value}(h:ok v=true):tK ok v=some (.held v,[]):=by simp[tK,h]
theorem pK{ok:Value->Bool}{v u:Value}{ps:List MemPlace}(h:tK ok v=some (.held u,ps)):v=u:=by
 unfold tK at h;split at h
 · simp only[qQ,zN,DataW.held.injEq]at h;exact h.1
 · cases h
theorem oF{H:Type}{w:World}{P:Program}{k:TypeId}{R:Value->Option (DataW H×List MemPlace)}{b n:Nat}{D:DataW H}(h:w.ownsMap P k R b n D):w.ownsMap P k R b (Maps.size D) D:=by
 obtain⟨es,clock,hb,F,_,rfl⟩:=h;exact⟨es,clock,hb,F,by simp[Maps.size,length_sorted],rfl⟩
theorem aAV{H:Type}{w w' :World}{P:Program}{k:TypeId}{R:Value->Option (DataW H×List MemPlace)}{b n:Nat}{D:DataW H}(h:w.ownsMap P k R b n D)(e:w'.heap[b]? =w.heap[b]?):w'.ownsMap P k R b n D:=by
 obtain⟨es,clock,hb,r⟩:=h;exact⟨es,clock,e.trans hb,r⟩
def lC(m:Int->Option Value)(a:Int)(v:Option Value):Int->Option Value:=fun x=>if x=a then v else m x
theorem cV(m:Int->Option Value)(a:Int)(v:Option Value):lC m a v a=v:=by simp[lC]
theorem bP{m:Int->Option Value}{a x:Int}{v:Option Value}(h:x≠a):lC m a v x=m x:=by simp[lC,h]
def dF(P:Program)(k:TypeId)(q:IntKind)(ok:Value->Bool)(w:World)(b:Nat)(m:Int->Option Value)(n:Nat):Prop:=
  ∃D:DataW Value,w.ownsMap P k (tK ok) b n D/\Tidy D/\Maps.size D=n /\
    ∀a:Int,(Lit.int q a).wf=true->(Maps.has D (.int q a)=(m a).isSome/\∀v,m a=some v->ok v=true/\∀z,D.atKey (.int q a) z=.held v)
section
variable {P:Program} {k t e:TypeId} {q:IntKind} {ok:Value->Bool} {w w' :World} {b n:Nat} {m:Int->Option Value}
theorem dF.same(h:dF P k q ok w b m n)(he:w'.heap[b]? =w.heap[b]?):dF P k q ok w' b m n:=by
 obtain⟨D,h1,h2⟩:=h;exact⟨D,aAV h1 he,h2⟩
theorem dF.lt(h:dF P k q ok w b m n):b<w.heap.size:=by obtain⟨D,h1,_⟩:=h;exact h1.lt
theorem dF.made(w:World)(P:Program)(k:TypeId)(q:IntKind)(ok:Value->Bool):dF P k q ok (w.alloc (.map #[] 0)) w.heap.size (fun _=>none) 0:=
  ⟨_,World.ownsMap_made w P k (tK ok),tidy_empty,rfl,fun _ _=>⟨rfl,fun _ h=>by cases h⟩⟩
theorem dF.run_get(h:dF P k q ok w b m n)(hk:P.underlying k=some (.int q))(ht:P.underlying t=some (.map k e)){z:Value}(hz:(zeroValue e).run P w=.ok z w)(hzo:ok z=true){a:Int}(ha:(Lit.int q a).wf=true):
    (Instr.lookup t (.map (some b)) (.int q a) false).run P w=.ok ((m a).getD z) w:=by
 obtain⟨D,h1,h2,_,h3⟩:=h;obtain⟨v,ps,hr,hv⟩:=h1.lookup (int_keyed hk) ht hz (aAU hzo) (keyOf_int_mk hk ha);rw[hr];cases hm:m a with
 | some u=>{
 rw[((h3 a ha).2 u hm).2]at hv;rw[pK hv];rfl}
 | none=>{
 have hn:=(h3 a ha).1;rw[hm]at hn;rw[atKey_of_not_has hn]at hv;rw[pK hv];rfl}
theorem dF.run_ok(h:dF P k q ok w b m n)(hk:P.underlying k=some (.int q))(ht:P.underlying t=some (.map k e)){z:Value}(hz:(zeroValue e).run P w=.ok z w)(hzo:ok z=true){a:Int}(ha:(Lit.int q a).wf=true):
    (Instr.lookup t (.map (some b)) (.int q a) true).run P w=.ok (.tuple #[(m a).getD z,.bool (m a).isSome]) w:=by
 obtain⟨D,h1,h2,_,h3⟩:=h;obtain⟨v,ps,hr,hv⟩:=h1.look_ok (int_keyed hk) ht hz (aAU hzo) (keyOf_int_mk hk ha);rw[hr,(h3 a ha).1];cases hm:m a with
 | some u=>{
 rw[((h3 a ha).2 u hm).2]at hv;rw[pK hv];rfl}
 | none=>{
 have hn:=(h3 a ha).1;rw[hm]at hn;rw[atKey_of_not_has hn]at hv;rw[pK hv];rfl}
theorem Fr.of_turned(h:w.mapTurned w' b):Fr [b] w w' :=(Fr.refl [b] w).grown h.grown (fun k e=>.inl (by simp at e;simp[e]))
theorem oQ(q:IntKind)(a:Int):WideAt.IsKeyLit (.int q a):=trivial
theorem dF.put(h:dF P k q ok w b m n)(hk:P.underlying k=some (.int q))(ht:P.underlying t=some (.map k e))(hn:n<maxLen){a:Int}(ha:(Lit.int q a).wf=true){v:Value}(hv:ok v=true):
    ∃w', (Instr.mapUpdate t (.map (some b)) (.int q a) v).run P w=.ok () w' /\ dF P k q ok w' b (lC m a (some v)) (if (m a).isSome then n else n+1)/\Fr [b] w w' :=by
 obtain⟨D,h1,h2,hs,h3⟩:=h;obtain⟨w', hr,h1', hT⟩:=h1.store (int_keyed hk) ht hn (keyOf_int_mk hk ha) (aAU hv);refine⟨w', hr,⟨D.put (.int q a) (.held v),?_,h2.put (oQ q a) _,?_,fun x hx=>?_⟩,Fr.of_turned hT⟩
 {
 have:=oF h1';rw[size_put h2,(h3 a ha).1,hs]at this;exact this}
 · rw[size_put h2,(h3 a ha).1,hs]
 {
 by_cases e:x=a
 {
 subst e;rw[cV];refine⟨has_put_same h2.isMap (oQ q x) _,fun u hu=>?_⟩;cases hu;exact⟨hv,fun z=>atKey_put_same h2.isMap (oQ q x) _ z⟩}
 {
 have hne:(Lit.int q x)≠.int q a:=fun h=>e (by injection h);rw[bP e,has_put_other hne];exact⟨(h3 x hx).1,fun u hu=>⟨((h3 x hx).2 u hu).1,fun z=>by rw[atKey_put_other hne];exact((h3 x hx).2 u hu).2 z⟩⟩}}
theorem dF.del(h:dF P k q ok w b m n)(hk:P.underlying k=some (.int q))(ht:P.underlying t=some (.map k e)){a:Int}(ha:(Lit.int q a).wf=true)(ty:TypeId):
    ∃w', (Builtin.delete_ #[t,k] ty #[.map (some b),.int q a]).run P w=.ok (.tuple #[]) w' /\ dF P k q ok w' b (lC m a none) (if (m a).isSome then n-1 else n)/\Fr [b] w w' :=by
 obtain⟨D,h1,h2,hs,h3⟩:=h;obtain⟨w', hr,h1', hT⟩:=h1.drop (int_keyed hk) ht (keyOf_int_mk hk ha) ty;have hsz:Maps.size (D.del (.int q a))=if (m a).isSome then n-1 else n:=by {
 have:=size_del (k:=.int q a) h2;rw[(h3 a ha).1,hs]at this;cases hm:(m a).isSome<;>rw[hm]at this<;>simp at this ⊢ <;> omega};refine⟨w', hr,⟨D.del (.int q a),?_,h2.del _,hsz,fun x hx=>?_⟩,Fr.of_turned hT⟩
 {
 have:=oF h1';rw[hsz]at this;exact this}
 {
 by_cases e:x=a
 {
 subst e;rw[cV];exact⟨has_del_same,fun u hu=>by cases hu⟩}
 {
 have hne:(Lit.int q x)≠.int q a:=fun h=>e (by injection h);rw[bP e,has_del_other hne];exact⟨(h3 x hx).1,fun u hu=>⟨((h3 x hx).2 u hu).1,fun z=>by rw[atKey_del_other hne];exact((h3 x hx).2 u hu).2 z⟩⟩}}
end
theorem tL{P:Program}{w:World}{ops:Array Oper}{rest:List Oper}{o:Oper}{act:Act}{Q:Exit->Act->World->Prop}(hg:o.guard=none)(mo x v:Operand)(t:TypeId)(hop:o.op=Op.mapUpdate t mo x v)
    {k e:TypeId} {q:IntKind} {ok:Value->Bool} {b n:Nat} {m:Int->Option Value} (h:dF P k q ok w b m n) (hk:P.underlying k=some (.int q)) (ht:P.underlying t=some (.map k e)) (hn:n<maxLen)
    (hm:act.eval mo=.map (some b)) (a:Int) (hx:act.eval x=.int q a) (ha:(Lit.int q a).wf=true) (u:Value) (hv:act.eval v=u) (hu:ok u=true)
    (hK:∀w', dF P k q ok w' b (lC m a (some u)) (if (m a).isSome then n else n+1)->Fr [b] w w' -> wpList P ops Q rest (act.put o.dst undef) w'):wpList P ops Q (o::rest) act w:=by
 refine wpList_plain hg fun K' hK' =>?_;obtain⟨w', hrun,r1,r2⟩:=h.put hk ht hn ha hu;unfold Oper.wp;simp[execOp,hop,hm,hx,hv,hrun,Result.andThen];exact hK' _ _ (hK w' r1 r2)
end Go.Proofs.YtgmnemndjjmgkaaGreat
namespace Go.Proofs.YtgmnemndjjmgkaaGreat
open Go.RowKit
theorem uR{w:World}{pa:Nat}{A:Ar}{l:List Nat}(h:aQ w pa A l):
    Calls Tryz.prog 101 #[ptr pa] w fun e w' =>∃pa', e=.returned (ptr pa')/\∃l', aQ w' pa' A l' /\ Fr [] w w' /\ ∀b∈l', w.heap.size<=b:=by
 have hok:=h.ok;have hs:=hok.hs;have hb:=hok.hb;have HA:=qB h;obtain⟨v0,bs,st,af,h1,h2,h3,rfl,hnd,hl,_,hst,hch⟩:=h;have c0:=h1.cell 0;have c1:=h1.cell 1;have c2:=h1.cell 2;have c3:=h1.cell 3;have c4:=h1.cell 4;have c5:=h1.cell 5;simp only[zS,zT]at c0 c1 c2 c3 c4 c5;obtain⟨a2,cp2,rfl⟩:=aJ h2;have hpa:=h1.lt;have H1:=qB (zR h1 (zR h2 h3));clear h1 h2 h3;have hbl:bs.length<=1024:=by omega
 go_enter Tryz.func101,Tryz.ntmps101
 go_wp2_with (go_at_call 139;refine(cO pa _ c0).mono ?_;rintro e w' ⟨rfl,rfl⟩)
 go_still_tail 16,(by kernel_rfl)
 change wpList _ _ _ _ _ w.drew;have hF0:Fr [] w (w.alloc (.cells #[.pointer (some ⟨w.heap.size,0,none⟩),.slice none 0 0,.int .i64 A.slots,.int .i64 A.begun,.int .i64 A.used,.int .i64 (fF A.free)] 198)).drew:=((Fr.refl [] w).alloc _).drew;have hb0:=(Blk.new w [ptr w.heap.size,.slice none 0 0,.int .i64 A.slots,.int .i64 A.begun,.int .i64 A.used,.int .i64 (fF A.free)] 198).drew;have d1:(w.alloc (.cells #[.pointer (some ⟨w.heap.size,0,none⟩),.slice none 0 0,.int .i64 A.slots,.int .i64 A.begun,.int .i64 A.used,.int .i64 (fF A.free)] 198)).cell? ⟨pa,1,none⟩=some (.slice a2 bs.length cp2):=((Fr.refl [] w).alloc _).cell c1 (by simp);go_wp2
 have hsz1:(w.alloc (.cells #[.pointer (some ⟨w.heap.size,0,none⟩),.slice none 0 0,.int .i64 A.slots,.int .i64 A.begun,.int .i64 A.used,.int .i64 (fF A.free)] 198)).drew.heap.size=w.heap.size+1:=by simp
 have HB0:Hid (Blk (w.alloc (.cells #[.pointer (some ⟨w.heap.size,0,none⟩),.slice none 0 0,.int .i64 A.slots,.int .i64 A.begun,.int .i64 A.used,.int .i64 (fF A.free)] 198)).drew w.heap.size 198 [ptr w.heap.size,.slice none 0 0,.int .i64 A.slots,.int .i64 A.begun,.int .i64 A.used,.int .i64 (fF A.free)]):=qB hb0;have HF0:=qB hF0;clear hF0 hb0;generalize (w.alloc (.cells #[.pointer (some ⟨w.heap.size,0,none⟩),.slice none 0 0,.int .i64 A.slots,.int .i64 A.begun,.int .i64 A.used,.int .i64 (fF A.free)] 198)).drew=w1 at *;clear c0 c1 c2 c3 c4 c5 d1
 go_loopw [37] (fun si wr=>∃(i:Nat) (v:Value) (bs' :List Nat),i<=bs.length/\si=.int .i64 i/\bs'.length=i/\Hid (Fr [] w wr)/\Hid (Blk wr w.heap.size 198 [ptr w.heap.size,v,.int .i64 A.slots,.int .i64 A.begun,.int .i64 A.used,.int .i64 (fF A.free)]) /\
   wr.ownsRow 0 209 1 v i (bs'.map ptr)/\Hid (∀q,v.ownBlock=some q->w.heap.size<q/\q∉bs')/\Hid (bs'.Nodup/\∀b∈bs', w.heap.size<b) /\
   Hid (∀(j b b' :Nat),bs[j]? =some b->bs'[j]? =some b' -> ∃cs,Blk w b 211 cs/\Blk wr b' 211 cs)) (fun si _=>bs.length-(intOf si).toNat)
 case atStart=>exact⟨0,.slice none 0 0,[],zB _,rfl,rfl,HF0,HB0,World.ownsRow_nil _ _ _ _,qB (fun q e=>by cases e),qB ⟨List.nodup_nil,by simp⟩,qB (fun j b b' _ h=>by simp at h)⟩
 case round=>
  clear HB0 HF0 hsz1;obtain⟨i,v,bs', hi,rfl,hbl', HF,HB,hown,HQ,HN,HC⟩:=hrel;obtain⟨a8,c8,rfl⟩:=aJ hown;have c1:=HB.out.cell 1;have z1:=HB.out.frozen 1;simp only[zS,zT]at c1;by_cases hlt:i<bs.length
  {
  have hil:(i:Int)<bs.length:=by omega
  obtain⟨g,cap,e,_,hg,hcg,_⟩:=cD H1.out.2.1 hlt;simp only[qY,true_and]at e;obtain⟨rfl,rfl⟩:=e;have hbi:bs[i]? =some bs[i]:=qT hlt;obtain⟨cs,hcs,hrs⟩:=H1.out.2.2 i bs[i] hbi;generalize bs[i]=b at *;have hcg' :wr.cell? ⟨g,i,none⟩=some (ptr b):=HF.out.cell (by rw[hcg];simp[hbi]) (by simp);have hcsr:=HF.out.blk hcs (by simp);have hcl:=(hrs 0 (by decide)).2.2.2;have hone:∀u∈cs,u.oneCell' =true:=by {
  intro u hu;obtain⟨k,hk⟩:=List.mem_iff_getElem?.1 hu;have hk2:k<192:=by rw[<-hcl];exact(zC.1 hk).1
  obtain⟨r0,r1,⟨t,r2⟩,_⟩:=hrs (k/3) (by omega);rcases(show k=k/3*3∨k=k/3*3+1∨k=k/3*3+2 by omega) with e|e|e
  · rw[<-e,hk]at r0;cases r0;rfl
  · rw[<-e,hk]at r1;cases r1;rfl
  · rw[<-e,hk]at r2;cases r2;rfl};have hinfo:(Tryz.prog.info? 211).map (·.size)=some cs.toArray.size:=by {
  have:(Tryz.prog.info? 211).map (·.size)=some 192:=by kernel_rfl
  rw[this];simp[hcl]};have hz:Tryz.zeroCells211.size=cs.toArray.size:=by {
  have:=mF;simp only[Array.length_toList]at this;rw[this];simp[hcl]};have Hone:=qB hone;clear hone;have Hcs:=qB hcs;clear hcs hrs;go_wp2
  refine wp_load_row 211 _ rfl b rfl 211 cs.toArray (0,0) _ hcsr Tryz.underlying211 rfl hinfo ?_;have hst:=run_storeCells_new (P:=Tryz.prog) wr 211 Tryz.zeroCells211 cs.toArray hinfo hz (by simpa using Hone.out);simp only[List.toList_toArray]at hst;have hFa:Fr [] wr (wr.alloc (.cells cs.toArray 211)):=(Fr.refl [] wr).alloc _;have c1' :=hFa.cell c1 (by simp);have hbn:Blk (wr.alloc (.cells cs.toArray 211)) wr.heap.size 211 cs:=Blk.new wr cs 211;have Hbn:=qB hbn;clear hbn;have HFa:=qB hFa;clear hFa;go_wp2_with (at_builtin;refine fT rfl _ _ 196 rfl 209 (.pointer none) 8 Tryz.underlying196 Tryz.info209 rfl (.slice a8 i c8) i _ rfl ((hown.alloc _).alloc _) (wr.heap.size+1) (ptr wr.heap.size) rfl (fS _ _ _ _ (by simp)) rfl (by omega) (by decide) ?_;intro g' cap' w4 hown4 hgrow4 hg4;have hF4:Fr (Value.slice a8 i c8).ownBlock.toList (wr.alloc (.cells cs.toArray 211)) w4:=((Fr.refl _ _).alloc _).grown hgrow4 (fun q e=>.inl (by simp[e]));have hB4:Blk w4 w.heap.size 198 [ptr w.heap.size,.slice a8 i c8,.int .i64 A.slots,.int .i64 A.begun,.int .i64 A.used,.int .i64 (fF A.free)]:=hF4.blk (HFa.out.blk HB.out (by simp)) (fun hm=>by have:=(HQ.out w.heap.size (by simpa using hm)).1;omega);have c4:=hB4.cell 1;have z4:=hB4.frozen 1;simp only[zS,zT]at c4)
  have hlow:∀b' ∈ bs', b' < wr.heap.size:=by {
  intro b' hb';obtain⟨j,hj,e⟩:=List.mem_iff_getElem.1 hb';obtain⟨_,_,h2⟩:=HC.out j _ b' (qT (show j<bs.length by omega)) (by rw[qT hj,e]);exact h2.lt};have hhd:=HB.out.lt;have hol:∀q,(Value.slice a8 i c8).ownBlock=some q->q<wr.heap.size:=fun q hq=>(hown.lt q hq).2;simp only[World.size_alloc]at hg4;have hgn:g' ≠ w.heap.size:=by {
  rintro rfl;rcases hg4 with e|e
  · have:=(HQ.out _ e).1;omega
  · omega};go_roundw
  case rel=>
   refine⟨i+1,.slice (some ⟨g', 0,none⟩) (i+1) cap', bs' ++ [wr.heap.size],by omega,by go_num,by simp;omega,qB ?_,qB (hB4.set 1 _),?_,qB (fun q e=>?_),qB ⟨?_,fun x hx=>?_⟩,qB (fun j x y hj hy=>?_)⟩
   · exact((HF.out.trans' HFa.out).trans hF4 (fun q hq=>.inr (Nat.le_of_lt (HQ.out q (by simpa using hq)).1))).setCell _ _ (.inr (qS _))
   {
   have e:(bs' ++ [wr.heap.size]).map ptr=bs'.map ptr++[ptr wr.heap.size]:=by simp
   rw[e];exact bQ hown4 _ _ (by simpa[Value.ownBlock] using hgn)}
   {
   simp only[Value.ownBlock,qQ]at e;subst e;simp only[qJ,qP,not_or];rcases hg4 with e|e
   {
   have h1:=hol _ e;exact⟨(HQ.out _ e).1,(HQ.out _ e).2,by omega⟩}
   {
   refine⟨by omega,fun hm=>?_,by omega⟩;have:=hlow _ hm;omega}}
   {
   rw[qW];refine⟨HN.out.1,by simp,fun x hx y hy e=>?_⟩;simp at hy;have:=hlow x hx;omega}
   {
   simp only[qJ,qP]at hx;rcases hx with hx|rfl
   · exact HN.out.2 x hx
   · omega}
   {
   by_cases hji:j<i
   {
   rw[List.getElem?_append_left (by omega)]at hy;obtain⟨cs', k1,k2⟩:=HC.out j x y hj hy;have hym:=List.mem_of_getElem? hy;refine⟨cs', k1,(hF4.blk (HFa.out.blk k2 (by simp)) (fun hm=>(HQ.out y (by simpa using hm)).2 hym)).other _ _ ?_⟩;have:=HN.out.2 y hym;simp;omega}
   {
   have hjl:j<(bs' ++ [wr.heap.size]).length:=(zC.1 hy).1;simp at hjl;obtain rfl:j=i:=by omega
   rw[List.getElem?_append_right (by omega)]at hy;simp[hbl']at hy;subst hy;have:x=b:=by rw[hbi]at hj;simpa using hj.symm
   subst this;refine⟨cs,Hcs.out,(hF4.blk Hbn.out (fun hm=>?_)).other _ _ ?_⟩
   {
   have:=hol wr.heap.size (by simpa using hm);omega}
   · simp;omega}}
  case measure=>simp[intOf];omega}
  {
  obtain rfl:i=bs.length:=by omega
  have Hown:=qB hown;clear hown;go_wp2
  go_ret;refine⟨w.heap.size,rfl,w.heap.size::((Value.slice a8 bs.length c8).ownBlock.toList++bs'),⟨.slice a8 bs.length c8,bs', st,af,HB.out,by rw[hbl'];exact Hown.out,?_,rfl,?_,by rw[hbl', hl],hok,hst,hch⟩,HF.out,?_⟩
  {
  intro j b' hj;have hjl:j<bs'.length:=(zC.1 hj).1;have hbj:bs[j]? =some bs[j]:=qT (by omega);obtain⟨cs,k1,k2⟩:=HC.out j _ b' hbj hj;obtain⟨cs0,k3,k4⟩:=H1.out.2.2 j _ hbj;obtain rfl:=k1.eq k3;exact⟨cs,k2,k4⟩}
  {
  rw[qX,qW];refine⟨?_,by cases (Value.slice a8 bs.length c8).ownBlock<;>simp,HN.out.1,?_⟩
  {
  simp only[qJ,Option.mem_toList,not_or];refine⟨fun e=>?_,fun hm=>?_⟩
  · have:=(HQ.out _ e).1;omega
  · have:=HN.out.2 _ hm;omega}
  {
  intro x hx y hy e;subst e;exact(HQ.out x (by simpa using hx)).2 hy}}
  {
  intro x hx;simp only[qF,qJ,Option.mem_toList]at hx;rcases hx with rfl|hx|hx
  · exact qS _
  · exact Nat.le_of_lt (HQ.out x hx).1
  · exact Nat.le_of_lt (HN.out.2 x hx)}}
end Go.Proofs.YtgmnemndjjmgkaaGreat
namespace Go.Proofs.YtgmnemndjjmgkaaGreat
open Go.RowKit Go.Sort
def tM(d:Array Int):List Value:=d.toList.map (Value.int .u64)
theorem aTD{d:Array Int}{t:Nat}(ht:t<d.size):(tM d)[t]? =some (.int .u64 d[t]!):=by
 simp[tM,ht]
theorem aNI{d:Array Int}{i j:Nat}(hi:i<d.size)(hj:j<d.size):((tM d).set i (.int .u64 d[j]!)).set j (.int .u64 d[i]!)=tM (swp d i j):=by
 simp only[tM,swp,Array.toList_setIfInBounds,List.map_set]
structure SR (w wr:World) (blk off:Nat) (d:Array Int):Prop where
  off0:off=0
  row:∃rest,Blk wr blk 26 (tM d++rest)/\∃l0,Blk w blk 26 l0/\l0.length=d.size+rest.length
  fr:Fr [blk] w wr
section
variable {w wr:World} {blk off:Nat} {d:Array Int}
theorem uS(d:Array Int):(tM d).length=d.size:=by simp[tM]
theorem SR.cell(h:SR w wr blk off d){t:Nat}(ht:t<d.size):wr.cell? ⟨blk,off+t,none⟩=some (.int .u64 d[t]!):=by
 obtain⟨rest,h1,_⟩:=h.row;rw[h.off0,Nat.zero_add,h1.cell,List.getElem?_append_left (by rw[uS];exact ht),aTD ht]
theorem SR.frozen(h:SR w wr blk off d)(t:Nat):wr.frozen? ⟨blk,t,none⟩=false:=by
 obtain⟨rest,h1,_⟩:=h.row;exact h1.frozen t
theorem SR.drewN(h:SR w wr blk off d)(q:Nat):SR w (wr.drewN q) blk off d:=by
 obtain⟨rest,h1,h2⟩:=h.row;exact⟨h.off0,⟨rest,h1.drewN q,h2⟩,h.fr.drewN q⟩
theorem SR.alloc(h:SR w wr blk off d)(o:Obj):SR w (wr.alloc o) blk off d:=by
 obtain⟨rest,h1,h2⟩:=h.row;exact⟨h.off0,⟨rest,h1.alloc o,h2⟩,h.fr.alloc o⟩
theorem SR.other(h:SR w wr blk off d){b i:Nat}(u:Value)(hb:w.heap.size<=b)(hne:b≠blk):SR w (wr.setCell ⟨b,i,none⟩ u) blk off d:=by
 obtain⟨rest,h1,h2⟩:=h.row;exact⟨h.off0,⟨rest,h1.other _ _ (Ne.symm hne),h2⟩,h.fr.setCell _ _ (.inr hb)⟩
theorem SR.swap(h:SR w wr blk off d)(q:Nat){i j:Nat}(hi:i<d.size)(hj:j<d.size):
    SR w (((wr.drewN q).setCell ⟨blk,off+i,none⟩ (.int .u64 d[j]!)).setCell ⟨blk,off+j,none⟩ (.int .u64 d[i]!)) blk off (swp d i j):=by
 obtain⟨rest,h1,l0,h2,h3⟩:=h.row;refine⟨h.off0,⟨rest,?_,l0,h2,by rw[h3,size_swp]⟩,((h.fr.drewN q).setCell _ _ (.inl (by simp))).setCell _ _ (.inl (by simp))⟩;rw[h.off0,Nat.zero_add,Nat.zero_add,<-aNI hi hj];have:=((h1.drewN q).set i (.int .u64 d[j]!)).set j (.int .u64 d[i]!);rw[List.set_append_left _ _ (by rw[uS];exact hi),List.set_append_left _ _ (by rw[List.length_set,uS];exact hj)]at this;exact this
theorem SR.lt(h:SR w wr blk off d):blk<wr.heap.size:=by
 obtain⟨rest,h1,_⟩:=h.row;exact h1.lt
end
theorem bBN(x:Int)(w:World):Calls Tryz.prog 147 #[.int .u64 x] w fun e w' =>e=.returned (.bool false)/\w' =w:=by
 go_enter Tryz.func147,Tryz.ntmps147
 go_wp2
 go_ret;exact⟨by simp,rfl⟩
theorem eJ(x y:Int)(w:World):Calls Tryz.prog 219 #[.int .u64 x,.int .u64 y] w fun e w' =>e=.returned (.bool (ltInt x y))/\w' =w:=by
 go_enter Tryz.func219,Tryz.ntmps219
 go_wp2_with (go_at_call 147;refine(bBN _ _).mono ?_;rintro e w' ⟨rfl,rfl⟩)
 go_ret;exact⟨rfl,rfl⟩
theorem bBO{w wr:World}{blk off cap a b:Nat}{d:Array Int}(h:SR w wr blk off d)(hab:a<=b)(hb:b<=d.size)(hsz:d.size<4611686018427387904):
    Calls Tryz.prog 213 #[.slice (some ⟨blk,off,none⟩) d.size cap,.int .i64 a,.int .i64 b] wr fun e w' =>e=.returned (.tuple #[])/\SR w w' blk off (insertionSort ltInt d a b):=by
 have HS:=qB h;clear h;go_enter Tryz.func213,Tryz.ntmps213
 go_wp2
 go_loopw [6] (fun vi wr=>∃(i:Nat) (dk:Array Int),vi=.int .i64 i/\a<i/\i<=b+1/\dk.size=d.size/\Hid (SR w wr blk off dk)/\Hid (insOuter ltInt a b i dk=insOuter ltInt a b (a+1) d)) (fun vi _=>b+1-(intOf vi).toNat)
 case atStart=>exact⟨a+1,d,by go_num,by omega,by omega,rfl,HS,qB rfl⟩
 case round=>
  clear HS;obtain⟨i,dk,rfl,hai,hib,hsk,HS,HO⟩:=hrel;by_cases hlt:i<b
  {
  go_wp2
  go_loopw [7] (fun vj wr2=>∃(j:Nat) (dj:Array Int),vj=.int .i64 j/\a<=j/\j<=i/\dj.size=d.size/\Hid (SR w wr2 blk off dj)/\Hid (insInner ltInt a j dj=insInner ltInt a i dk)) (fun vj _=>(intOf vj).toNat)
  case atStart=>exact⟨i,dk,rfl,by omega,qS _,hsk,HS,qB rfl⟩
  case round=>
   clear HS;obtain⟨j,dj,rfl,haj,hji,hsj,HS,HI⟩:=hrel;have OUT:∀q,(j<=a∨ltInt dj[j]! dj[j-1]! =false)->Hid (SR w (wr.drewN q) blk off dj)/\Hid (insOuter ltInt a b (i+1) dj=insOuter ltInt a b (a+1) d):=fun q hs=>
     ⟨qB (HS.out.drewN q),qB (by rw[<-HO.out,insOuter_go _ _ _ _ _ hlt,<-HI.out,insInner_stop _ _ _ _ hs])⟩
   have HOUT:=qB OUT;clear OUT;by_cases hja:a<j
   {
   have hc:∀t,t<d.size->wr.cell? ⟨blk,off+t,none⟩=some (.int .u64 dj[t]!):=fun t ht=>HS.out.cell (by omega);have hf:∀t,t<d.size->wr.frozen? ⟨blk,off+t,none⟩=false:=fun t _=>HS.out.frozen _;obtain⟨G,hG⟩:∃G:Nat->Int,∀t,dj[t]! =G t:=⟨fun t=>dj[t]!,fun _=>rfl⟩;simp only[hG]at hc;have HG:=qB hG;clear hG;cases hl:ltInt (G j) (G (j-1)) with
   | true=>{
   go_wp2
   go_quiet (first|(go_at_call 219;refine qR (eJ _ _ _)))
   go_wp2
   go_region
   all_goals go_wp2
   go_roundw
   case rel=>
    refine⟨j-1,swp dj j (j-1),by congr 1;omega,by omega,by omega,by rw[size_swp];exact hsj,qB ?_,qB ?_⟩
    {
    have:=HS.out.swap (nq+1) (i:=j) (j:=j-1) (by omega) (by omega);rw[HG.out,HG.out]at this;exact this}
    · rw[<-HI.out,insInner_go ltInt a j dj hja (by rw[HG.out,HG.out];exact hl)]
   case measure=>simp[intOf];omega}
   | false=>{
   go_wp2
   go_quiet (first|(go_at_call 219;refine qR (eJ _ _ _)))
   go_wp2
   go_roundw
   case rel=>
    obtain⟨h1,h2⟩:=HOUT.out nq (.inr (by rw[HG.out,HG.out];exact hl));exact⟨i+1,dj,by go_num,by omega,by omega,hsj,h1,h2⟩
   case measure=>simp[intOf];omega}}
   {
   go_wp2
   go_quiet (first|(go_at_call 219;refine qR (eJ _ _ _)))
   go_wp2
   go_roundw
   case rel=>
    obtain⟨h1,h2⟩:=HOUT.out nq (.inl (by omega));exact⟨i+1,dj,by go_num,by omega,by omega,hsj,h1,h2⟩
   case measure=>simp[intOf];omega}}
  {
  go_wp2
  go_end0
  exact⟨rfl,by unfold Sort.insertionSort;rw[<-HO.out,insOuter_stop _ _ _ _ _ hlt];exact HS.out⟩}
theorem kD{x:Int}{y:Nat}(h:x=y)(hy:y<9223372036854775808):IntKind.i64.wrap x=(y:Int):=by rw[h];exact zP _ (by omega)
theorem aNJ{w wr:World}{blk off cap lo hi first n:Nat}{d:Array Int}(h:SR w wr blk off d)(hn:d.size=n)(hlo:lo<=hi)(hb:first+hi<=n)(hsz:n<4611686018427387904):
    Calls Tryz.prog 226 #[.slice (some ⟨blk,off,none⟩) n cap,.int .i64 lo,.int .i64 hi,.int .i64 first] wr fun e w' =>e=.returned (.tuple #[])/\SR w w' blk off (siftDown ltInt hi first lo d):=by
 have HS:=qB h;clear h;go_enter Tryz.func226,Tryz.ntmps226
 go_wp2
 go_loopw [8] (fun vr wr=>∃(root:Nat) (dk:Array Int),vr=.int .i64 root/\root<=hi/\dk.size=n/\Hid (SR w wr blk off dk)/\Hid (siftDown ltInt hi first root dk=siftDown ltInt hi first lo d)) (fun vr _=>hi-(intOf vr).toNat)
 case atStart=>exact⟨lo,d,rfl,hlo,hn,HS,qB rfl⟩
 case round=>
  clear HS;obtain⟨root,dk,rfl,hr,hsk,HS,HO⟩:=hrel;obtain⟨c,hc⟩:∃c:Nat,c=2*root+1:=⟨_,rfl⟩;have hci:2*(root:Int)+1=(c:Int):=by omega
  by_cases h1:hi<=2*root+1
  {
  have hd:decide (hi<=c)=true:=qO (by omega);have Hc:=qB hc;clear hc;go_wp2
  go_end0
  exact⟨rfl,by rw[<-HO.out,sd_end _ _ h1];exact HS.out⟩}
  {
  have hd:decide (hi<=c)=false:=qK (by omega);have hlt0:c<hi:=by omega
  obtain⟨r,hrr⟩:∃r:Nat,r=first+root:=⟨_,rfl⟩;obtain⟨p,hp⟩:∃p:Nat,p=first+c:=⟨_,rfl⟩;obtain⟨p1,hp1⟩:∃p1:Nat,p1=first+c+1:=⟨_,rfl⟩;obtain⟨G,hG⟩:∃G:Nat->Int,∀t,dk[t]! =G t:=⟨fun t=>dk[t]!,fun _=>rfl⟩;have cr:wr.cell? ⟨blk,off+r,none⟩=some (.int .u64 (G r)):=by rw[HS.out.cell (by omega),hG]
  have cp:wr.cell? ⟨blk,off+p,none⟩=some (.int .u64 (G p)):=by rw[HS.out.cell (by omega),hG]
  have fr:wr.frozen? ⟨blk,off+r,none⟩=false:=HS.out.frozen _;have fp:wr.frozen? ⟨blk,off+p,none⟩=false:=HS.out.frozen _;have rn:(r:Int)<n:=by omega
  have pn:(p:Int)<n:=by omega
  have ne3:r≠p:=by omega
  have ne4:p≠r:=by omega
  have wr1:IntKind.i64.wrap ((first:Int)+root)=(r:Int):=kD (by omega) (by omega);have wp:IntKind.i64.wrap ((first:Int)+c)=(p:Int):=kD (by omega) (by omega);obtain⟨c1,hc1⟩:∃c1:Nat,c1=c+1:=⟨_,rfl⟩;have wc1:IntKind.i64.wrap ((c:Int)+1)=(c1:Int):=kD (by omega) (by omega);have hc1i:(c:Int)+1=(c1:Int):=by omega
  by_cases h2:c1<hi
  {
  have hd1:decide ((c1:Int)<(hi:Int))=true:=qO (by omega);have cp1:wr.cell? ⟨blk,off+p1,none⟩=some (.int .u64 (G p1)):=by rw[HS.out.cell (by omega),hG]
  have fp1:wr.frozen? ⟨blk,off+p1,none⟩=false:=HS.out.frozen _;have p1n:(p1:Int)<n:=by omega
  have ne1:r≠p1:=by omega
  have ne2:p1≠r:=by omega
  have wp1:IntKind.i64.wrap ((p:Int)+1)=(p1:Int):=kD (by omega) (by omega);have wp1' :IntKind.i64.wrap ((first:Int)+c1)=(p1:Int):=kD (by omega) (by omega);have HN:=qB (show r=first+root/\p=first+(2*root+1)/\p1=first+(2*root+2)/\c=2*root+1/\c1=2*root+2 by omega);have HG:=qB hG;clear hG hc hp hp1 hrr hc1 h1;cases hl2:ltInt (G p) (G p1) with
  | true=>{
  cases hl3:ltInt (G r) (G p1) with
  | false=>{
  go_wp2
  go_quiet (first|(go_at_call 219;refine qR (eJ _ _ _)))
  go_wp2
  have cr2:(wr.drewN nq).cell? ⟨blk,off+r,none⟩=some (.int .u64 (G r)):=cr;have fr2:(wr.drewN nq).frozen? ⟨blk,off+r,none⟩=false:=fr;have cp2:(wr.drewN nq).cell? ⟨blk,off+p,none⟩=some (.int .u64 (G p)):=cp;have fp2:(wr.drewN nq).frozen? ⟨blk,off+p,none⟩=false:=fp;have cp12:(wr.drewN nq).cell? ⟨blk,off+p1,none⟩=some (.int .u64 (G p1)):=cp1;have fp12:(wr.drewN nq).frozen? ⟨blk,off+p1,none⟩=false:=fp1;have HS2:=qB (HS.out.drewN nq);generalize wr.drewN nq=wr2 at *;go_quiet (first|(go_at_call 219;refine qR (eJ _ _ _)))
  go_wp2
  (try simp only[Exit.inBlock,Exit.then]);refine bodyPost_ret (results_none rfl _ _ _) rfl ?_
  exact⟨rfl,by
    obtain⟨e1,e2,e3,e4,e5⟩:=HN.out;rw[<-HO.out,sd_right_stop (root:=root) ltInt dk (by omega) (by rw[<-e2,<-e3,HG.out,HG.out];exact hl2) (by rw[<-e1,<-e3,HG.out,HG.out];exact hl3)];exact HS2.out.drewN _⟩}
  | true=>{
  go_wp2
  go_quiet (first|(go_at_call 219;refine qR (eJ _ _ _)))
  go_wp2
  have cr2:(wr.drewN nq).cell? ⟨blk,off+r,none⟩=some (.int .u64 (G r)):=cr;have fr2:(wr.drewN nq).frozen? ⟨blk,off+r,none⟩=false:=fr;have cp2:(wr.drewN nq).cell? ⟨blk,off+p,none⟩=some (.int .u64 (G p)):=cp;have fp2:(wr.drewN nq).frozen? ⟨blk,off+p,none⟩=false:=fp;have cp12:(wr.drewN nq).cell? ⟨blk,off+p1,none⟩=some (.int .u64 (G p1)):=cp1;have fp12:(wr.drewN nq).frozen? ⟨blk,off+p1,none⟩=false:=fp1;have HS2:=qB (HS.out.drewN nq);generalize wr.drewN nq=wr2 at *;go_quiet (first|(go_at_call 219;refine qR (eJ _ _ _)))
  go_wp2
  go_region
  all_goals go_wp2
  go_roundw
  case rel=>
   obtain⟨e1,e2,e3,e4,e5⟩:=HN.out;refine⟨c1,swp dk r p1,rfl,by omega,by rw[size_swp];exact hsk,qB ?_,qB ?_⟩
   {
   have:=HS2.out.swap (nq+1) (i:=r) (j:=p1) (by omega) (by omega);rw[HG.out,HG.out]at this;exact this}
   · rw[<-HO.out,sd_right_go (root:=root) ltInt dk (by omega) (by rw[<-e2,<-e3,HG.out,HG.out];exact hl2) (by rw[<-e1,<-e3,HG.out,HG.out];exact hl3),e1,e3,e5]
  case measure=>simp[intOf];have:=HN.out;omega}}
  | false=>{
  cases hl3:ltInt (G r) (G p) with
  | false=>{
  go_wp2
  go_quiet (first|(go_at_call 219;refine qR (eJ _ _ _)))
  go_wp2
  have cr2:(wr.drewN nq).cell? ⟨blk,off+r,none⟩=some (.int .u64 (G r)):=cr;have fr2:(wr.drewN nq).frozen? ⟨blk,off+r,none⟩=false:=fr;have cp2:(wr.drewN nq).cell? ⟨blk,off+p,none⟩=some (.int .u64 (G p)):=cp;have fp2:(wr.drewN nq).frozen? ⟨blk,off+p,none⟩=false:=fp;have cp12:(wr.drewN nq).cell? ⟨blk,off+p1,none⟩=some (.int .u64 (G p1)):=cp1;have fp12:(wr.drewN nq).frozen? ⟨blk,off+p1,none⟩=false:=fp1;have HS2:=qB (HS.out.drewN nq);generalize wr.drewN nq=wr2 at *;go_quiet (first|(go_at_call 219;refine qR (eJ _ _ _)))
  go_wp2
  (try simp only[Exit.inBlock,Exit.then]);refine bodyPost_ret (results_none rfl _ _ _) rfl ?_
  exact⟨rfl,by
    obtain⟨e1,e2,e3,e4,e5⟩:=HN.out;rw[<-HO.out,sd_left_stop (root:=root) ltInt dk (by omega) (fun _=>by rw[<-e2,<-e3,HG.out,HG.out];exact hl2) (by rw[<-e1,<-e2,HG.out,HG.out];exact hl3)];exact HS2.out.drewN _⟩}
  | true=>{
  go_wp2
  go_quiet (first|(go_at_call 219;refine qR (eJ _ _ _)))
  go_wp2
  have cr2:(wr.drewN nq).cell? ⟨blk,off+r,none⟩=some (.int .u64 (G r)):=cr;have fr2:(wr.drewN nq).frozen? ⟨blk,off+r,none⟩=false:=fr;have cp2:(wr.drewN nq).cell? ⟨blk,off+p,none⟩=some (.int .u64 (G p)):=cp;have fp2:(wr.drewN nq).frozen? ⟨blk,off+p,none⟩=false:=fp;have cp12:(wr.drewN nq).cell? ⟨blk,off+p1,none⟩=some (.int .u64 (G p1)):=cp1;have fp12:(wr.drewN nq).frozen? ⟨blk,off+p1,none⟩=false:=fp1;have HS2:=qB (HS.out.drewN nq);generalize wr.drewN nq=wr2 at *;go_quiet (first|(go_at_call 219;refine qR (eJ _ _ _)))
  go_wp2
  go_region
  all_goals go_wp2
  go_roundw
  case rel=>
   obtain⟨e1,e2,e3,e4,e5⟩:=HN.out;refine⟨c,swp dk r p,rfl,by omega,by rw[size_swp];exact hsk,qB ?_,qB ?_⟩
   {
   have:=HS2.out.swap (nq+1) (i:=r) (j:=p) (by omega) (by omega);rw[HG.out,HG.out]at this;exact this}
   · rw[<-HO.out,sd_left_go (root:=root) ltInt dk (by omega) (fun _=>by rw[<-e2,<-e3,HG.out,HG.out];exact hl2) (by rw[<-e1,<-e2,HG.out,HG.out];exact hl3),e1,e2,e4]
  case measure=>simp[intOf];have:=HN.out;omega}}}
  {
  have hd1:decide ((c1:Int)<(hi:Int))=false:=qK (by omega);have HN:=qB (show r=first+root/\p=first+(2*root+1)/\p1=first+(2*root+2)/\c=2*root+1/\c1=2*root+2 by omega);have H1:=qB h1;have HG:=qB hG;clear hG hc hp hp1 hrr hc1 h1;cases hl3:ltInt (G r) (G p) with
  | false=>{
  go_wp2
  go_quiet (first|(go_at_call 219;refine qR (eJ _ _ _)))
  go_wp2
  have cr2:(wr.drewN nq).cell? ⟨blk,off+r,none⟩=some (.int .u64 (G r)):=cr;have fr2:(wr.drewN nq).frozen? ⟨blk,off+r,none⟩=false:=fr;have cp2:(wr.drewN nq).cell? ⟨blk,off+p,none⟩=some (.int .u64 (G p)):=cp;have fp2:(wr.drewN nq).frozen? ⟨blk,off+p,none⟩=false:=fp;have HS2:=qB (HS.out.drewN nq);generalize wr.drewN nq=wr2 at *;go_quiet (first|(go_at_call 219;refine qR (eJ _ _ _)))
  go_wp2
  (try simp only[Exit.inBlock,Exit.then]);refine bodyPost_ret (results_none rfl _ _ _) rfl ?_
  exact⟨rfl,by
    obtain⟨e1,e2,e3,e4,e5⟩:=HN.out;rw[<-HO.out,sd_left_stop (root:=root) ltInt dk (by have:=H1.out;omega) (fun _=>by omega) (by rw[<-e1,<-e2,HG.out,HG.out];exact hl3)];exact HS2.out.drewN _⟩}
  | true=>{
  go_wp2
  go_quiet (first|(go_at_call 219;refine qR (eJ _ _ _)))
  go_wp2
  have cr2:(wr.drewN nq).cell? ⟨blk,off+r,none⟩=some (.int .u64 (G r)):=cr;have fr2:(wr.drewN nq).frozen? ⟨blk,off+r,none⟩=false:=fr;have cp2:(wr.drewN nq).cell? ⟨blk,off+p,none⟩=some (.int .u64 (G p)):=cp;have fp2:(wr.drewN nq).frozen? ⟨blk,off+p,none⟩=false:=fp;have HS2:=qB (HS.out.drewN nq);generalize wr.drewN nq=wr2 at *;go_quiet (first|(go_at_call 219;refine qR (eJ _ _ _)))
  go_wp2
  go_region
  all_goals go_wp2
  go_roundw
  case rel=>
   obtain⟨e1,e2,e3,e4,e5⟩:=HN.out;refine⟨c,swp dk r p,rfl,by have:=H1.out;omega,by rw[size_swp];exact hsk,qB ?_,qB ?_⟩
   {
   have:=HS2.out.swap (nq+1) (i:=r) (j:=p) (by omega) (by omega);rw[HG.out,HG.out]at this;exact this}
   · rw[<-HO.out,sd_left_go (root:=root) ltInt dk (by have:=H1.out;omega) (fun _=>by omega) (by rw[<-e1,<-e2,HG.out,HG.out];exact hl3),e1,e2,e4]
  case measure=>simp[intOf];have:=HN.out;have:=H1.out;omega}}}
theorem SR.swapD{w wr:World}{blk off:Nat}{d:Array Int}(h:SR w wr blk off d){i j:Nat}(hi:i<d.size)(hj:j<d.size):
    SR w ((wr.setCell ⟨blk,off+i,none⟩ (.int .u64 d[j]!)).setCell ⟨blk,off+j,none⟩ (.int .u64 d[i]!)).drew blk off (swp d i j):=by
 have:=h.swap 0 hi hj;exact this.drewN 1
theorem aYI{w wr:World}{blk off cap a b n:Nat}{d:Array Int}(h:SR w wr blk off d)(hn:d.size=n)(hab:a<=b)(hb:b<=n)(hsz:n<4611686018427387904):
    Calls Tryz.prog 214 #[.slice (some ⟨blk,off,none⟩) n cap,.int .i64 a,.int .i64 b] wr fun e w' =>e=.returned (.tuple #[])/\SR w w' blk off (heapSort ltInt d a b):=by
 obtain⟨m,hm⟩:∃m:Nat,m=b-a:=⟨_,rfl⟩;obtain⟨k0,hk0⟩:∃k0:Nat,k0=(m-1)/2+1:=⟨_,rfl⟩;have hmi:(b:Int)-(a:Int)=(m:Int):=by omega
 have htd:((m:Int)-1).tdiv 2=(k0:Int)-1:=by {
 have:=half_start hab;rw[hmi,<-hm]at this;rw[this,hk0]};have hk0m:k0<=m+1:=by omega
 have hkm:k0<=m∨m=0:=by omega
 have HE:=qB (show heapSort ltInt d a b=heapPop ltInt a m (heapBuild ltInt m a k0 d) by unfold heapSort;rw[<-hm,<-hk0]);have ham:a+m<=n:=by omega
 clear hm hk0;have HS:=qB h;clear h;go_enter Tryz.func214,Tryz.ntmps214
 go_wp2
 go_loopw [9] (fun vi wr=>∃(k:Nat) (dk:Array Int),vi=.int .i64 ((k:Int)-1)/\k<=k0/\dk.size=n/\Hid (SR w wr blk off dk)/\Hid (heapBuild ltInt m a k dk=heapBuild ltInt m a k0 d)) (fun vi _=>(intOf vi+1).toNat)
 case atStart=>exact⟨k0,d,rfl,qS _,hn,HS,qB rfl⟩
 case round=>
  clear HS;obtain⟨k,dk,rfl,hk,hsk,HS,HB⟩:=hrel;cases k with
  | succ k=>{
  have e1:((k+1:Nat):Int)-1=(k:Int):=by omega
  rw[e1];have hd:decide ((k:Int)≥0)=true:=qO (by omega);have hkm2:k<=m:=by omega
  have HC:=qB (aNJ (cap:=cap) HS.out hsk hkm2 ham hsz);go_wp2_with fail
  refine HC.out.mono ?_;rintro _ w2 ⟨rfl,h2⟩;have HS2:=qB h2;clear h2;go_wp2
  go_roundw
  case rel=>exact⟨k,_,rfl,by omega,by rw[size_siftDown _ _ _ (m-k) _ _ (qS _)];exact hsk,HS2,qB (by rw[<-HB.out];rfl)⟩
  case measure=>simp[intOf]}
  | zero=>{
  rw[show(((0:Nat):Int)-1)=-1 from rfl];have HB2:=qB (show dk=heapBuild ltInt m a k0 d from HB.out);go_wp2
  go_loopw [10] (fun vi wr=>∃(k:Nat) (dj:Array Int),vi=.int .i64 ((k:Int)-1)/\k<=m/\dj.size=n/\Hid (SR w wr blk off dj)/\Hid (heapPop ltInt a k dj=heapPop ltInt a m dk)) (fun vi _=>(intOf vi+1).toNat)
  case atStart=>exact⟨m,dk,rfl,qS _,hsk,HS,qB rfl⟩
  case round=>
   clear HS;obtain⟨k,dj,rfl,hk,hsj,HS,HP⟩:=hrel;cases k with
   | succ k=>{
   have e1:((k+1:Nat):Int)-1=(k:Int):=by omega
   rw[e1];have hd:decide ((k:Int)≥0)=true:=qO (by omega);obtain⟨p,hp⟩:∃p:Nat,p=a+k:=⟨_,rfl⟩;have wp:IntKind.i64.wrap ((a:Int)+k)=(p:Int):=kD (by omega) (by omega);obtain⟨G,hG⟩:∃G:Nat->Int,∀t,dj[t]! =G t:=⟨fun t=>dj[t]!,fun _=>rfl⟩;have ca:wr.cell? ⟨blk,off+a,none⟩=some (.int .u64 (G a)):=by rw[HS.out.cell (by omega),hG]
   have fa:wr.frozen? ⟨blk,off+a,none⟩=false:=HS.out.frozen _;have an:(a:Int)<n:=by omega
   have hsw:SR w ((wr.setCell ⟨blk,off+a,none⟩ (.int .u64 (G p))).setCell ⟨blk,off+p,none⟩ (.int .u64 (G a))).drew blk off (swp dj a p):=by {
   have:=HS.out.swapD (i:=a) (j:=p) (by omega) (by omega);rw[hG,hG]at this;exact this};have HSw:=qB hsw;clear hsw;have hkm2:0<=k:=by omega
   have hak:a+k<=n:=by omega
   have HC:=qB (fun(w2:World) (h:SR w w2 blk off (swp dj a p))=>aNJ (cap:=cap) (lo:=0) h (by rw[size_swp];exact hsj) hkm2 hak hsz);have HP2:=qB (show heapPop ltInt a k (siftDown ltInt k a 0 (swp dj a p))=heapPop ltInt a m dk by rw[<-HP.out,hp];rfl);by_cases hk0:k=0
   {
   subst hk0;obtain rfl:p=a:=by omega
   clear hp;go_wp2
   go_region
   all_goals go_wp2_with fail
   refine(HC.out _ (HSw.out)).mono ?_;rintro _ w2 ⟨rfl,h2⟩;have HS2:=qB h2;clear h2;go_wp2
   go_roundw
   case rel=>exact⟨0,_,rfl,by omega,by rw[size_siftDown _ _ _ 0 _ _ (qS _),size_swp];exact hsj,HS2,HP2⟩
   case measure=>simp[intOf]}
   {
   have ne1:a≠p:=by omega
   have ne2:p≠a:=by omega
   have cp:wr.cell? ⟨blk,off+p,none⟩=some (.int .u64 (G p)):=by rw[HS.out.cell (by omega),hG]
   have fp:wr.frozen? ⟨blk,off+p,none⟩=false:=HS.out.frozen _;have pn:(p:Int)<n:=by omega
   clear hp;go_wp2
   go_region
   all_goals go_wp2_with fail
   refine(HC.out _ (HSw.out)).mono ?_;rintro _ w2 ⟨rfl,h2⟩;have HS2:=qB h2;clear h2;go_wp2
   go_roundw
   case rel=>exact⟨k,_,rfl,by omega,by rw[size_siftDown _ _ _ (k-0) _ _ (qS _),size_swp];exact hsj,HS2,HP2⟩
   case measure=>simp[intOf]}}
   | zero=>{
   rw[show(((0:Nat):Int)-1)=-1 from rfl];go_wp2
   go_end0
   exact⟨rfl,by rw[HE.out,<-HB2.out,<-HP.out];exact HS.out⟩}}
theorem bBP{w wr:World}{blk off cap a b n:Nat}{d:Array Int}(h:SR w wr blk off d)(hn:d.size=n)(hab:a<=b)(hb:b<=n)(hsz:n<4611686018427387904):
    Calls Tryz.prog 217 #[.slice (some ⟨blk,off,none⟩) n cap,.int .i64 a,.int .i64 b] wr fun e w' =>e=.returned (.tuple #[])/\SR w w' blk off (reverseRange d a b):=by
 have HS:=qB h;clear h;go_enter Tryz.func217,Tryz.ntmps217
 go_wp2
 go_loopw [6,7] (fun vi vj wr=>∃(i:Nat) (j:Int) (dk:Array Int),vi=.int .i64 i/\vj=.int .i64 j/\a<=i/\ -1<=j/\j<b/\(i:Int)<=b/\dk.size=n/\Hid (SR w wr blk off dk)/\Hid (reverseLoop i j.toNat dk=reverseRange d a b)) (fun vi vj _=>(intOf vj-intOf vi).toNat)
 case atStart=>exact⟨a,(b:Int)-1,d,rfl,rfl,qS _,by omega,by omega,by omega,hn,HS,qB (by unfold reverseRange;congr 1;omega)⟩
 case round=>
  clear HS;obtain⟨i,j,dk,rfl,rfl,hai,hj1,hjb,hib,hsk,HS,HR⟩:=hrel;by_cases hlt:(i:Int)<j
  {
  obtain⟨j,rfl⟩:∃k:Nat,j=k:=⟨j.toNat,by omega⟩;have ne1:i≠j:=by omega
  have ne2:j≠i:=by omega
  obtain⟨G,hG⟩:∃G:Nat->Int,∀t,dk[t]! =G t:=⟨fun t=>dk[t]!,fun _=>rfl⟩;have ci:wr.cell? ⟨blk,off+i,none⟩=some (.int .u64 (G i)):=by rw[HS.out.cell (by omega),hG]
  have cj:wr.cell? ⟨blk,off+j,none⟩=some (.int .u64 (G j)):=by rw[HS.out.cell (by omega),hG]
  have fi:wr.frozen? ⟨blk,off+i,none⟩=false:=HS.out.frozen _;have fj:wr.frozen? ⟨blk,off+j,none⟩=false:=HS.out.frozen _;have i_n:(i:Int)<n:=by omega
  have j_n:(j:Int)<n:=by omega
  have hsw:SR w ((wr.setCell ⟨blk,off+i,none⟩ (.int .u64 (G j))).setCell ⟨blk,off+j,none⟩ (.int .u64 (G i))).drew blk off (swp dk i j):=by {
  have:=HS.out.swapD (i:=i) (j:=j) (by omega) (by omega);rw[hG,hG]at this;exact this};have HSw:=qB hsw;clear hsw;have HR2:=qB (show reverseLoop (i+1) (j-1) (swp dk i j)=reverseRange d a b by rw[<-HR.out,reverseLoop.eq_1 i _ dk,qI (by omega)];simp);go_wp2
  go_region
  all_goals go_wp2
  go_roundw
  case rel=>exact⟨i+1,(j:Int)-1,_,by go_num,rfl,by omega,by omega,by omega,by omega,by rw[size_swp];exact hsk,qB (HSw.out),qB (by rw[<-HR2.out];congr 1;omega)⟩
  case measure=>simp[intOf];omega}
  {
  go_wp2
  go_end0
  refine⟨rfl,?_⟩;rw[<-HR.out,reverseLoop.eq_1,qH (by omega)];exact HS.out}
end Go.Proofs.YtgmnemndjjmgkaaGreat
