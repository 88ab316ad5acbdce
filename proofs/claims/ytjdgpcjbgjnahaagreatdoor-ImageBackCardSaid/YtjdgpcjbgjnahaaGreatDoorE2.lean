/- A map from integers whose elements are values of one shape, in memory. -/
import Derived.Test.YtjdgpcjbgjnahaaGreatDoorE1
import Derived.Maps.OwnOps
import Derived.Maps.OwnSet
set_option maxRecDepth 10000
set_option maxHeartbeats 800000
set_option linter.unusedSimpArgs false
set_option linter.unusedVariables false
/- The plain law of a hash table with linear probing, whose removal shifts entries back. No program in sight. -/
namespace Go.Proofs.YtjdgpcjbgjnahaaGreatDoor
def dst(n a b:Nat):Nat:=if a<=b then b-a else b+n-a
def nxt(n c:Nat):Nat:=if c+1=n then 0 else c+1
def gA(f:Nat->Nat)(i x:Nat):Nat->Nat:=fun j=>if j=i then x else f j
theorem bB(f:Nat->Nat)(i x:Nat):gA f i x i=x:=by simp[gA]
theorem aD{f:Nat->Nat}{i x j:Nat}(h:j≠i):gA f i x j=f j:=by simp[gA,h]
theorem aPT{n c:Nat}(h:c<n):(c+1)%n=nxt n c:=by
 unfold nxt;by_cases e:c+1=n
 · rw[qD e,e,Nat.mod_self]
 · rw[qC e,Nat.mod_eq_of_lt (by omega)]
theorem aBD{n a b:Nat}(ha:a<n)(hb:b<n):((b:Int)-(a:Int))%(n:Int)=(dst n a b:Int):=by
 unfold dst;by_cases h:a<=b
 · rw[qD h,Int.emod_eq_of_lt (by omega) (by omega)];omega
 · rw[qC h,show(b:Int)-a=((b:Int)-a+n)+n*(-1) by omega,Int.add_mul_emod_self_left,Int.emod_eq_of_lt (by omega) (by omega)];omega
theorem aTS{n h j:Nat}(hh:h<n)(hj:j<n):(h+j)%n<n/\dst n h ((h+j)%n)=j:=by
 refine⟨Nat.mod_lt _ (by omega),?_⟩;unfold dst;by_cases e:h+j<n
 · rw[Nat.mod_eq_of_lt e,qD (by omega)];omega
 {
 rw[Nat.mod_eq_sub_mod (by omega),Nat.mod_eq_of_lt (by omega)];split<;>omega}
theorem aEE{n h q:Nat}(hh:h<n)(hq:q<n):dst n h q<n/\(h+dst n h q)%n=q:=by
 unfold dst;split
 {
 refine⟨by omega,?_⟩;rw[show h+(q-h)=q by omega,Nat.mod_eq_of_lt hq]}
 {
 refine⟨by omega,?_⟩;rw[show h+(q+n-h)=q+n by omega,Nat.add_mod_right,Nat.mod_eq_of_lt hq]}
theorem oR(n h:Nat):dst n h h=0:=by simp[dst]
structure gZ (n:Nat) (hf:Nat->Nat) (C ids:Nat->Nat) (U:Nat->Prop):Prop where
  live:∀c,c<n->C c≠0->U (C c-1)
  inj:∀c d,c<n->d<n->C c≠0->C c=C d->c=d
  at_:∀i,U i->∃p,p<n/\C p=i+1/\∀q,q<n->dst n (hf (ids i)) q<dst n (hf (ids i)) p->C q≠0
structure rF (n:Nat) (hf:Nat->Nat) (C ids:Nat->Nat) (U:Nat->Prop) (h c:Nat):Prop where
  hn:h<n
  cn:c<n
  live:∀p,p<n->p≠h->C p≠0->U (C p-1)
  inj:∀p q,p<n->q<n->p≠h->q≠h->C p≠0->C p=C q->p=q
  at_:∀i,U i->∃p,p<n/\p≠h/\C p=i+1/\∀q,q<n->dst n (hf (ids i)) q<dst n (hf (ids i)) p->C q≠0
  nz:C h≠0
  run:∀p,p<n->0<dst n h p->dst n h p<=dst n h c->C p≠0/\dst n (hf (ids (C p-1))) p<dst n h p
theorem rF.start{n:Nat}{hf C ids:Nat->Nat}{U:Nat->Prop}{h i0:Nat}(t:gZ n hf C ids U)(hn:h<n)(hc:C h=i0+1):
    rF n hf C ids (fun i=>U i/\i≠i0) h h:=by
 refine⟨hn,hn,fun p hp hne h0=>⟨t.live p hp h0,fun e=>hne (t.inj p h hp hn h0 (by omega))⟩,fun p q hp hq _ _ h0 e=>t.inj p q hp hq h0 e,?_,by omega,?_⟩
 {
 rintro i ⟨hu,hne⟩;obtain⟨p,hp,hpc,hpath⟩:=t.at_ i hu;exact⟨p,hp,fun e=>hne (by subst e;omega),hpc,hpath⟩}
 {
 intro p _ h1 h2;rw[oR]at h2;omega}
section
variable {n:Nat} {hf C ids:Nat->Nat} {U:Nat->Prop} {h c:Nat}
theorem yO(hh:h<n)(_hc:c<n)(hne:nxt n c≠h):dst n h (nxt n c)=dst n h c+1:=by
 unfold nxt at *;by_cases e:c+1=n
 · rw[qD e]at *;unfold dst;rw[qC (by omega)];split<;>omega
 · rw[qC e]at *;unfold dst;(repeat' split)<;>omega
theorem tR(hc:c<n):nxt n c<n:=by unfold nxt;split<;>omega
theorem rF.stay(H:rF n hf C ids U h c)(hne:nxt n c≠h)(h0:C (nxt n c)≠0)(hd:dst n (hf (ids (C (nxt n c)-1))) (nxt n c)<dst n h (nxt n c)):
    rF n hf C ids U h (nxt n c):=by
 refine⟨H.hn,tR H.cn,H.live,H.inj,H.at_,H.nz,fun p hp h1 h2=>?_⟩;have e:=yO H.hn H.cn hne;by_cases hle:dst n h p<=dst n h c
 · exact H.run p hp h1 hle
 {
 have:p=nxt n c:=by {
 have hq:=tR H.cn;have hh:=H.hn;have e2:dst n h p=dst n h (nxt n c):=by omega
 unfold dst at e2;(repeat' split at e2)<;>omega};subst this;exact⟨h0,hd⟩}
theorem rF.move(H:rF n hf C ids U h c)(hf_lt:∀x,hf x<n)(hne:nxt n c≠h)(h0:C (nxt n c)≠0)(hd:dst n h (nxt n c)<=dst n (hf (ids (C (nxt n c)-1))) (nxt n c)):
    rF n hf (gA C h (C (nxt n c))) ids U (nxt n c) (nxt n c):=by
 have hq:=tR H.cn;have hh:=H.hn;refine⟨hq,hq,?_,?_,?_,by rw[aD hne];exact h0,?_⟩
 {
 intro p hp hpn hp0;by_cases e:p=h
 · subst e;rw[bB]at hp0 ⊢;exact H.live _ hq hne hp0
 · rw[aD e]at hp0 ⊢;exact H.live p hp e hp0}
 {
 intro p q hp hqn hpn hqn' hp0 e;by_cases ep:p=h
 {
 by_cases eq:q=h
 · omega
 {
 rw[ep,bB,aD eq]at e;exact absurd (H.inj (nxt n c) q hq hqn hne eq h0 e).symm hqn'}}
 {
 by_cases eq:q=h
 {
 rw[eq,bB,aD ep]at e;rw[aD ep]at hp0;exact absurd (H.inj p (nxt n c) hp hq ep hne hp0 e) hpn}
 {
 rw[aD ep]at hp0 e;rw[aD eq]at e;exact H.inj p q hp hqn ep eq hp0 e}}}
 {
 intro i hu;obtain⟨p,hp,hph,hpc,hpath⟩:=H.at_ i hu;have nz:∀q,C q≠0->gA C h (C (nxt n c)) q≠0:=by {
 intro q hq0;by_cases e:q=h
 · subst e;rw[bB];exact h0
 · rw[aD e];exact hq0};by_cases e:p=nxt n c
 {
 subst e;have hi:C (nxt n c)-1=i:=by omega
 rw[hi]at hd;refine⟨h,hh,fun e=>hne e.symm,by rw[bB];exact hpc,fun q hqn hlt=>nz q (hpath q hqn ?_)⟩;have hfl:=hf_lt (ids i);generalize hf (ids i)=a at *;unfold dst at *;(repeat' split at hd)<;>(repeat' split at hlt)<;>(repeat' split)<;>omega}
 · exact⟨p,hp,e,by rw[aD hph];exact hpc,fun q hqn hlt=>nz q (hpath q hqn hlt)⟩}
 {
 intro p hp h1 h2;rw[oR]at h2;omega}
theorem rF.fin(H:rF n hf C ids U h c)(hf_lt:∀x,hf x<n)(hne:nxt n c≠h)(h0:C (nxt n c)=0):
    gZ n hf (gA C h 0) ids U:=by
 have hq:=tR H.cn;have hh:=H.hn;refine⟨?_,?_,?_⟩
 {
 intro p hp hp0;by_cases e:p=h
 · subst e;rw[bB]at hp0;omega
 · rw[aD e]at hp0 ⊢;exact H.live p hp e hp0}
 {
 intro p q hp hqn hp0 e;by_cases ep:p=h
 · subst ep;rw[bB]at hp0;omega
 {
 by_cases eq:q=h
 · subst eq;rw[bB]at e;omega
 · rw[aD ep]at hp0 e;rw[aD eq]at e;exact H.inj p q hp hqn ep eq hp0 e}}
 {
 intro i hu;obtain⟨p,hp,hph,hpc,hpath⟩:=H.at_ i hu;refine⟨p,hp,by rw[aD hph];exact hpc,fun q hqn hlt=>?_⟩;by_cases e:q=h
 {
 exfalso
 subst e;have hfl:=hf_lt (ids i);have hz:¬dst n (hf (ids i)) (nxt n c)<dst n (hf (ids i)) p:=fun hl=>hpath _ hq hl h0;have hpz:p≠nxt n c:=fun e=>by subst e;omega
 by_cases hrun:dst n q p<=dst n q c
 {
 have hr:=(H.run p hp (by unfold dst;split<;>omega) hrun).2;have hi:C p-1=i:=by omega
 rw[hi]at hr;generalize hf (ids i)=a at *;unfold dst at hlt hr;(repeat' split at hlt)<;>(repeat' split at hr)<;>omega}
 {
 have hcn:=H.cn;have e2:=yO hh hcn hne;generalize hf (ids i)=a at *;generalize nxt n c=z at *;unfold dst at *;(repeat' split at hlt)<;>(repeat' split at hz)<;>(repeat' split at hrun)<;>(repeat' split at e2)<;>omega}}
 · rw[aD e];exact hpath q hqn hlt}
end
theorem gZ.put{n:Nat}{hf C ids:Nat->Nat}{U:Nat->Prop}{c i id:Nat}(t:gZ n hf C ids U)(hc:c<n)(h0:C c=0)(hi:¬U i)
    (hpath:∀q,q<n->dst n (hf id) q<dst n (hf id) c->C q≠0):gZ n hf (gA C c (i+1)) (gA ids i id) (fun j=>U j∨j=i):=by
 refine⟨?_,?_,?_⟩
 {
 intro p hp hp0;by_cases e:p=c
 · subst e;rw[bB];exact .inr (by omega)
 · rw[aD e]at hp0 ⊢;exact .inl (t.live p hp hp0)}
 {
 intro p q hp hq hp0 e;by_cases ep:p=c
 {
 by_cases eq:q=c
 · omega
 {
 rw[ep,bB,aD eq]at e;exact absurd (by have:=t.live q hq (by omega);rwa[<-e]at this) hi}}
 {
 by_cases eq:q=c
 {
 rw[eq,bB,aD ep]at e;rw[aD ep]at hp0;exact absurd (by have:=t.live p hp hp0;rwa[e]at this) hi}
 · rw[aD ep]at hp0 e;rw[aD eq]at e;exact t.inj p q hp hq hp0 e}}
 {
 have nz:∀q,C q≠0->gA C c (i+1) q≠0:=by {
 intro q hq0;by_cases e:q=c
 · subst e;rw[bB];omega
 · rw[aD e];exact hq0};intro j hj;by_cases e:j=i
 {
 subst e;rw[bB];exact⟨c,hc,bB _ _ _,fun q hq hl=>nz q (hpath q hq hl)⟩}
 {
 obtain⟨p,hp,hpc,hpp⟩:=t.at_ j (hj.resolve_right e);have epc:p≠c:=by rintro rfl;omega
 rw[aD e];exact⟨p,hp,by rw[aD epc];exact hpc,fun q hq hl=>nz q (hpp q hq hl)⟩}}
theorem gZ.congr{n:Nat}{hf C ids ids' :Nat->Nat}{U U' :Nat->Prop}(t:gZ n hf C ids U)(hu:∀i,U i↔U' i)(hi:∀i,U i->ids' i=ids i):gZ n hf C ids' U' :=by
 refine⟨fun c hc h0=>(hu _).1 (t.live c hc h0),t.inj,fun i hui=>?_⟩;rw[hi i ((hu i).2 hui)];exact t.at_ i ((hu i).2 hui)
end Go.Proofs.YtjdgpcjbgjnahaaGreatDoor
namespace Go.Proofs.YtjdgpcjbgjnahaaGreatDoor
open Go.RowKit
def bT(n:Nat)(f:Nat->Value):List Value:=(List.range n).map f
theorem eE{n:Nat}{f:Nat->Value}{i:Nat}(h:i<n):(bT n f)[i]? =some (f i):=by simp[bT,h]
theorem cN(n:Nat)(f:Nat->Value):(bT n f).length=n:=by simp[bT]
def eP(C:Nat->Nat):Nat->Value:=fun c=>.int .i64 (C c)
def idF(ids:Nat->Nat):Nat->Value:=fun c=>.int .u64 (ids c)
theorem aIH(n:Nat)(C:Nat->Nat)(h x:Nat):(bT n (eP C)).set h (.int .i64 x)=bT n (eP (gA C h x)):=by
 apply List.ext_getElem?;intro i;simp only[List.getElem?_set,cN];by_cases hi:i<n
 {
 rw[eE hi,eE hi];by_cases e:h=i
 · subst e;rw[qD rfl,qD hi];simp[eP,bB]
 · rw[qC e];simp only[eP];rw[aD (fun h=>e h.symm)]}
 {
 have h1:∀f,(bT n f)[i]? =none:=fun f=>zB (by rw[cN];omega);rw[h1,h1];by_cases e:h=i
 · rw[qD e,qC (by omega)]
 · rw[qC e]}
theorem kZ(n:Nat)(C:Nat->Nat)(h x:Nat):(bT n (idF C)).set h (.int .u64 x)=bT n (idF (gA C h x)):=by
 apply List.ext_getElem?;intro i;simp only[List.getElem?_set,cN];by_cases hi:i<n
 {
 rw[eE hi,eE hi];by_cases e:h=i
 · subst e;rw[qD rfl,qD hi];simp[idF,bB]
 · rw[qC e];simp only[idF];rw[aD (fun h=>e h.symm)]}
 {
 have h1:∀f,(bT n f)[i]? =none:=fun f=>zB (by rw[cN];omega);rw[h1,h1];by_cases e:h=i
 · rw[qD e,qC (by omega)]
 · rw[qC e]}
def iA(n:Nat)(C:Nat->Nat)(rst:List Value):List Value:=bT n (eP C)++rst
theorem fQ{n:Nat}{C:Nat->Nat}{rst:List Value}{i:Nat}(h:i<n):(iA n C rst)[i]? =some (eP C i):=by
 unfold iA;rw[List.getElem?_append_left (by rw[cN];exact h),eE h]
theorem mN{n:Nat}{C:Nat->Nat}{rst:List Value}{h:Nat}(x:Nat)(hh:h<n):(iA n C rst).set h (.int .i64 x)=iA n (gA C h x) rst:=by
 unfold iA;rw[List.set_append_left _ _ (by rw[cN];exact hh),aIH]
theorem aPU{rst:List Value}(pt gc n cpc m h0:Nat)(C ids:Nat->Nat)(U:Nat->Prop)(v:Value)(w:World)(hM:vY n)(hpt:pt≠gc)
    (h3:w.cell? ⟨pt,3,none⟩=some (.slice (some ⟨gc,0,none⟩) n cpc)) (h2:w.cell? ⟨pt,2,none⟩=some v) (hgc:Blk w gc 3 (iA n C rst))
    (hv:∀i,i<m->∃gi cap,v=.slice (some ⟨gi,0,none⟩) m cap/\gi≠gc/\gi≠pt/\w.cell? ⟨gi,i,none⟩=some (.int .u64 (ids i))/\ids i<18446744073709551616)
    (hU:∀i,U i->i<m) (hmm:m<=65536) (hH:rF n (hm n) C ids U h0 h0) (hz:∃z,z<n/\C z=0):
    Calls Tryz.prog 199 #[ptr pt,.int .i64 h0] w fun e w' =>e=.returned (.tuple #[])/\∃C', Blk w' gc 3 (iA n C' rst)/\gZ n (hm n) C' ids U/\Fr [gc] w w' :=by
 have hn:=hM.pos;have hn2:=hM.le;have hi:=hM.i64;have HV:=qA hv;clear hv;have HZ:=qA hz;clear hz;have HU:=qA hU;clear hU;go_enter Tryz.func199,Tryz.ntmps199
 go_step3
 go_wp2
 refine wp_label ?_;go_wp2
 obtain⟨z,hz1,hz2⟩:=HZ.out;have HZ1:=qA hz1;clear hz1;have HZ2:=qA hz2;clear hz2;clear HZ
 go_loopw [1, 5] (fun a b wr => ∃ (h c : Nat) (D : Nat -> Nat), h < n /\ c < n /\ a = .int .i64 h /\ b = .int .i64 c /\ Blk wr gc 3 (iA n D rst) /\ Fr [gc] w wr /\ Hid (rF n (hm n) D ids U h c /\ D z = 0 /\ dst n h c < dst n h z))
   (fun _ b _=>dst n (intOf b).toNat z)
 case atStart=>exact⟨h0,h0,C,hH.hn,hH.hn,rfl,rfl,hgc,Fr.refl _ _,qA ⟨hH,HZ2.out,by
   rw[oR];have:h0≠z:=fun e=>hH.nz (by rw[e];exact HZ2.out);have hh:=hH.hn;have hz:=HZ1.out;unfold dst;split<;>omega⟩⟩
 case round=>
  obtain⟨h,c,D,hh,hc,rfl,rfl,hB,hF,HH⟩:=hrel;have r3:=hF.cell h3 (by simpa using hpt);have r2:=hF.cell h2 (by simpa using hpt);have hfr:wr.frozen? ⟨gc,h,none⟩=false:=hB.frozen h;have rH:wr.cell? ⟨gc,h,none⟩=some (.int .i64 (D h)):=(hB.cell h).trans (fQ hh);have hnx:((c:Int)+1)%(n:Int)=((nxt n c:Nat):Int):=by rw[<-aPT hc];simp
  have hc' :=tR (n:=n) hc;have HN:Hid (nxt n c≠h):=by {
  intro e;obtain⟨H1,H2,H3⟩:=HH.out;have hz:=HZ1.out;subst e;unfold nxt at H3;unfold dst at H3
  (repeat' split at H3)<;>omega};have HE:Hid (dst n h (nxt n c)=dst n h c+1):=yO hh hc HN.out;have HD:Hid (nxt n c≠z->dst n h (nxt n c)<dst n h z/\dst n (nxt n c) z<dst n c z):=by {
  intro hne;obtain⟨H1,H2,H3⟩:=HH.out;have hz:=HZ1.out;have e1:=HN.out;have e2:=HE.out;unfold nxt at *;by_cases e:c+1=n
  · rw[qD e]at *;unfold dst at *;(repeat' split at H3)<;>(repeat' split at e2)<;>(repeat' split)<;>omega
  · rw[qC e]at *;unfold dst at *;(repeat' split at H3)<;>(repeat' split at e2)<;>(repeat' split)<;>omega};have rC:wr.cell? ⟨gc,nxt n c,none⟩=some (.int .i64 (D (nxt n c))):=(hB.cell _).trans (fQ hc');generalize hcc:nxt n c=c' at *;have HC:=qA hcc;clear hcc;by_cases hD0:D c' =0
  {
  have hb0:((D c' :Int) == 0)=true:=beq_iff_eq.2 (by omega);have hD0' :Hid (D c' =0):=hD0;clear hD0;go_wp2
  simp only[Exit.noGoto];go_end0
  obtain⟨H1,H2,H3⟩:=HH.out;refine⟨rfl,gA D h 0,?_,?_,hF.setCell _ _ (.inl (by simp))⟩
  {
  have:=hB.set h (.int .i64 (0:Nat));rw[mN _ hh]at this;exact this}
  {
  have e:=HC.out;subst e;exact H1.fin (tQ (by omega)) HN.out hD0'}}
  {
  obtain⟨i,hi'⟩:∃i,D c' =i+1:=⟨D c' - 1,by omega⟩;rw[hi']at rC;have HI:=qA hi'; clear hi';clear hD0;have hUi:U i:=by {
  have:=HH.out.1.live c' hc' HN.out (by rw[HI.out];omega);rw[HI.out]at this;exact this};have him:=HU.out i hUi;obtain⟨gi,cap,rfl,hg1,hg2,hgi,hid⟩:=HV.out i him;have ri:=hF.cell hgi (by simpa using hg1);have hd1:=aBD (tQ (show 0<n by omega) (ids i)) hc';have hd2:=aBD hh hc';have hml:=tQ (show 0<n by omega) (ids i);generalize hx1:dst n (hm n (ids i)) c' =d1 at *;generalize hx2:dst n h c' =d2 at *;have HX1:=qA hx1;clear hx1;have HX2:=qA hx2;clear hx2;have hb0:(((i:Int)+1) == 0)=false:=qR.2 (by omega);by_cases hlt:d1<d2
  {
  go_wp2_with (go_at_call 222;refine(aEC pt gc n cpc (ids i) _ r3 hid hM).mono ?_;rintro e w' ⟨rfl,rfl⟩)
  go_roundw
  case rel=>
   obtain⟨H1,H2,H3⟩:=HH.out;refine⟨h,c', D,hh,hc', rfl,rfl,hB,hF,qA ?_⟩;have e:=HC.out;have hne:nxt n c≠z:=fun e2=>by rw[<-e,e2]at HI;have:=HI.out;omega
   have hD:=HD.out (by rw[<-e];exact hne);refine⟨?_,H2,by rw[HX2.out];exact hD.1⟩;have hst:=H1.stay (by rw[e];exact HN.out) (by rw[e,HI.out];omega) (by rw[e,HI.out,HX2.out];show dst n (hm n (ids i)) c' < d2;rw[HX1.out];exact hlt);rw[e]at hst;exact hst
  case measure=>
   have e:=HC.out;have hne:nxt n c≠z:=fun e2=>by
     obtain⟨H1,H2,H3⟩:=HH.out;rw[<-e,e2]at HI;have:=HI.out;omega
   have hD:=HD.out (by rw[<-e];exact hne);simp[intOf];exact hD.2}
  {
  go_wp2_with (go_at_call 222;refine(aEC pt gc n cpc (ids i) _ r3 hid hM).mono ?_;rintro e w' ⟨rfl,rfl⟩)
  go_roundw
  case rel=>
   obtain⟨H1,H2,H3⟩:=HH.out;have e:=HC.out;have hne:nxt n c≠z:=fun e2=>by rw[<-e,e2]at HI;have:=HI.out;omega
   have hD:=HD.out (by rw[<-e];exact hne);have hhz:h≠z:=fun e=>by rw[e]at H3;unfold dst at H3;(repeat' split at H3)<;>omega
   refine⟨c', c', gA D h (i+1),hc', hc', rfl,rfl,?_,hF.setCell _ _ (.inl (by simp)),qA ⟨?_,by rw[aD (fun e=>hhz e.symm)];exact H2,?_⟩⟩
   {
   have:=hB.set h (.int .i64 ((i+1:Nat):Int));rw[mN _ hh]at this;exact this}
   {
   have hst:=H1.move (tQ (by omega)) (by rw[e];exact HN.out) (by rw[e,HI.out];omega) (by rw[e,HI.out,HX2.out];show d2<=dst n (hm n (ids i)) c'; rw[HX1.out];omega);rw[e,HI.out]at hst;exact hst}
   {
   rw[oR];have:=HZ1.out;have hne2:c' ≠ z:=by rw[<-e];exact hne
   unfold dst;split<;>omega}
  case measure=>
   have e:=HC.out;have hne:nxt n c≠z:=fun e2=>by
     obtain⟨H1,H2,H3⟩:=HH.out;rw[<-e,e2]at HI;have:=HI.out;omega
   have hD:=HD.out (by rw[<-e];exact hne);simp[intOf];exact hD.2}}
@[go_sem] theorem aWW(a:Addr)(w:World):(binOp .eql 142 (.pointer (some a)) (.pointer (some a))).run Tryz.prog w=.ok (.bool true) w:=by
 obtain⟨j,hj⟩:=qV.1 (show(Tryz.prog.info? 211).isSome=true by kernel_rfl);exact run_eql_ptr_same w a Tryz.underlying142 hj
@[go_sem] theorem aPV(a:Addr)(w:World):(binOp .eql 142 (.pointer none) (.pointer (some a))).run Tryz.prog w=.ok (.bool false) w:=by
 have h:∀d:Nat,(Op.equalIn (d+1) 142 (.pointer none) (.pointer (some a))).run Tryz.prog w=.ok false w:=fun d=>by
   simp[Op.equalIn,run_underlying Tryz.underlying142]
 simp only[binOp];simp[Op.equal,Op.maxDepth,h 9999]
theorem cY(pt:Nat)(w:World)(hc:w.cell? ⟨pt,0,none⟩=some (ptr pt)):
    Calls Tryz.prog 143 #[ptr pt] w fun e w' =>e=.returned (.bool true)/\w=w' :=by
 go_enter Tryz.func143,Tryz.ntmps143
 go_wp2
 go_ret;exact⟨rfl,rfl⟩
structure Tb where
  A:Ar
  ids:Nat->Nat
def Tb.used(T:Tb)(i:Nat):Prop:=T.A.isUsed i
def cB(w:World)(pt:Nat)(T:Tb)(l:List Nat):Prop:=
  ∃(cpc:Nat) (rst:List Value) (pa gc n:Nat) (vi:Value) (C:Nat->Nat) (la:List Nat),
    Blk w pt 211 [ptr pt,ptr pa,vi,.slice (some ⟨gc,0,none⟩) n cpc]/\aR w pa T.A la /\
    w.ownsRow 0 36 1 vi T.A.begun (bT T.A.begun (idF T.ids))/\Blk w gc 3 (iA n C rst) /\
    l=pt::gc::(vi.ownBlock.toList++la)/\l.Nodup/\vY n/\2*T.A.slots<=n/\gZ n (hm n) C T.ids T.used /\
    (∀i j,T.used i->T.used j->T.ids i=T.ids j->i=j)/\(∀i,i<T.A.begun->T.ids i<18446744073709551616)
theorem cB.same{w w' :World}{pt:Nat}{T:Tb}{l:List Nat}(h:cB w pt T l)(hs:∀b∈l,w'.heap[b]? =w.heap[b]?):cB w' pt T l:=by
 obtain⟨cpc,rst,pa,gc,n,vi,C,la,h1,h2,h3,h4,rfl,r⟩:=h;exact⟨cpc,rst,pa,gc,n,vi,C,la,h1.of_same (hs _ (by simp)),h2.same (fun b hb=>hs b (by simp[hb])),aL h3 (fun k hk=>hs k (by simp[hk])),h4.of_same (hs _ (by simp)),rfl,r⟩
theorem cB.lt{w:World}{pt:Nat}{T:Tb}{l:List Nat}(h:cB w pt T l):∀b∈l,b<w.heap.size:=by
 obtain⟨cpc,rst,pa,gc,n,vi,C,la,h1,h2,h3,h4,rfl,r⟩:=h;intro b hb;simp only[qB,qE,Option.mem_toList]at hb;rcases hb with rfl|rfl|hb|hb
 · exact h1.lt
 · exact h4.lt
 · exact(h3.lt b hb).2
 · exact h2.lt b hb
theorem cB.fr{w w' :World}{pt:Nat}{T:Tb}{l S:List Nat}(h:cB w pt T l)(hf:Fr S w w')(hd:∀b∈l,b∉S):cB w' pt T l:=
  h.same fun b hb=>hf.keep b (h.lt b hb) (hd b hb)
theorem tS{n:Nat}{C ids:Nat->Nat}{A:Ar}(t:gZ n (hm n) C ids A.isUsed)(hok:A.ok)(hn:1<n)(hs:2*A.slots<=n):∃z,z<n/\C z=0:=by
 apply qQ;intro hno;have hall:∀z,z<n->C z≠0:=fun z hz h0=>hno ⟨z,hz,h0⟩;have hnd:((List.range n).map (fun z=>C z-1)++A.free).Nodup:=by {
 rw[qN];refine⟨?_,hok.nd,?_⟩
 {
 rw[List.nodup_iff_pairwise_ne,List.pairwise_map];refine List.Pairwise.imp_of_mem ?_ (List.nodup_iff_pairwise_ne.1 List.nodup_range);intro a b ha hb hne e;simp at ha hb;have h1:=hall a ha;have h2:=hall b hb;exact hne (t.inj a b ha hb h1 (by omega))}
 {
 intro a ha b hb e;subst e;simp only[qW,List.mem_range]at ha;obtain⟨z,hz,rfl⟩:=ha;exact(t.live z hz (hall z hz)).2 hb}};have hlen:=jW hnd (n:=A.begun) (by
   intro k hk;simp only[qE,qW,List.mem_range]at hk;rcases hk with⟨z,hz,rfl⟩|hk
   · exact(t.live z hz (hall z hz)).1
   · exact hok.lt k hk)
 simp at hlen;have:=hok.hb;omega
theorem fD{n:Nat}{C ids:Nat->Nat}{U:Nat->Prop}{id c:Nat}(t:gZ n (hm n) C ids U)(hn:0<n)(h:aBC n C ids id c true):∃i,c<n/\C c=i+1/\U i/\ids i=id:=by
 obtain⟨k,hk,rfl,_,h⟩:=h;rcases h with⟨h,_⟩|⟨_,h0,h⟩
 · cases h
 {
 have hc:=Nat.mod_lt (hm n id+k) hn;exact⟨C ((hm n id+k)%n)-1,hc,by omega,t.live _ hc h0,h⟩}
theorem iV{n:Nat}{C ids:Nat->Nat}{U:Nat->Prop}{id c:Nat}(t:gZ n (hm n) C ids U)(hn:0<n)(h:aBC n C ids id c false):
    c<n/\C c=0/\(∀i,U i->ids i≠id)/\(∀q,q<n->dst n (hm n id) q<dst n (hm n id) c->C q≠0):=by
 obtain⟨k,hk,rfl,hs,h⟩:=h;rcases h with⟨_,h0⟩|⟨h,_⟩
 {
 have hh:=tQ hn id;obtain⟨hc,hd⟩:=aTS hh hk;have hpath:∀q,q<n->dst n (hm n id) q<dst n (hm n id) ((hm n id+k)%n)->C q≠0/\ids (C q-1)≠id:=by {
 intro q hq hl;rw[hd]at hl;have:=hs _ hl;rw[(aEE hh hq).2]at this;exact this};refine⟨hc,h0,?_,fun q hq hl=>(hpath q hq hl).1⟩;intro i hu e;subst e;obtain⟨p,hp,hpc,hpp⟩:=t.at_ i hu;rcases Nat.lt_trichotomy (dst n (hm n (ids i)) p) (dst n (hm n (ids i)) ((hm n (ids i)+k)%n)) with hl|he|hg
 {
 have:=(hpath p hp hl).2;rw[hpc]at this;exact this rfl}
 {
 have:p=(hm n (ids i)+k)%n:=by {
 have h1:=(aEE hh hp).2;have h2:=(aEE hh hc).2;rw[he,h2]at h1;exact h1.symm};rw[this]at hpc;omega}
 · exact hpp _ hc hg h0}
 · cases h
theorem fE{w:World}{pt pa gc n cpc:Nat}{rst:List Value}{vi:Value}{C:Nat->Nat}{T:Tb}{la:List Nat}(id:Nat)(hid:id<18446744073709551616)
    (h1:Blk w pt 211 [ptr pt,ptr pa,vi,.slice (some ⟨gc,0,none⟩) n cpc]) (h2:aR w pa T.A la)
    (h3:w.ownsRow 0 36 1 vi T.A.begun (bT T.A.begun (idF T.ids))) (h4:Blk w gc 3 (iA n C rst)) (hM:vY n) (hs:2*T.A.slots<=n) (hT:gZ n (hm n) C T.ids T.used):
    Calls Tryz.prog 171 #[ptr pt,.int .u64 id] w fun e w' =>∃(c:Nat) (b:Bool),e=.returned (.tuple #[.int .i64 c,.bool b])/\aBC n C T.ids id c b/\Below w.heap.size w w' :=by
 have hok:=h2.ok;have hn:=hM.pos;have hb:=hok.hb;have hss:=hok.hs;refine aTR pt gc n cpc T.A.begun id C T.ids vi w (fun c hc=>?_) hM (by omega) hid ⟨h1.lt,h4.lt,h1.cell 3,h1.cell 2,fun c hc=>(h4.cell c).trans (fQ hc)⟩ (tS hT hok hn hs) ?_
 {
 by_cases h0:C c=0
 · omega
 · have:=(hT.live c hc h0).1;omega}
 {
 intro i hi;obtain⟨g,cap,rfl,_,hg,hc,_⟩:=bW h3 hi;exact⟨g,cap,rfl,hg,hc.trans (eE hi)⟩}
theorem aII{w:World}{pt:Nat}{T:Tb}{l:List Nat}(h:cB w pt T l):
    Calls Tryz.prog 97 #[ptr pt] w fun e w' =>e=.returned (.int .i64 T.A.used)/\w=w' :=by
 obtain⟨cpc,rst,pa,gc,n,vi,C,la,h1,h2,h3,h4,rfl,hnd,hM,hs,hT,hinj,hb64⟩:=h;have c0:=h1.cell 0;have c1:=h1.cell 1;simp only[zJ,zK]at c0 c1;go_enter Tryz.func97,Tryz.ntmps97
 go_wp2_with (first|(go_at_call 143;refine(cY pt _ c0).mono ?_;rintro e w' ⟨rfl,rfl⟩)|(go_at_call 98;refine(mM h2).mono ?_;rintro e w' ⟨rfl,rfl⟩))
 go_ret;exact⟨rfl,rfl⟩
theorem vZ{w:World}{pt:Nat}{T:Tb}{l:List Nat}{id i:Nat}(hid:id<18446744073709551616)(h:cB w pt T l)(hu:T.used i)(hi:T.ids i=id):
    Calls Tryz.prog 133 #[ptr pt,.int .u64 id] w fun e w' =>e=.returned (.tuple #[.int .i64 i,.bool true])/\Below w.heap.size w w' :=by
 obtain⟨cpc,rst,pa,gc,n,vi,C,la,h1,h2,h3,h4,rfl,hnd,hM,hs,hT,hinj,hb64⟩:=h;have c0:=h1.cell 0;have c3:=h1.cell 3;simp only[zJ,zK]at c0 c3;have hpt:=h1.lt;have hn:=hM.pos;have hn2:=hM.le;have hbl:i<65536:=by have:=h2.ok.hs;have:=h2.ok.hb;have:=hu.1;omega
 have hfind:=fE id hid h1 h2 h3 h4 hM hs hT;have HF:=qA hfind;clear hfind;have HI:=qA hi;clear hi;go_enter Tryz.func133,Tryz.ntmps133
 go_wp2_with (go_at_call 143;refine(cY pt _ c0).mono ?_;rintro e w' ⟨rfl,rfl⟩)
 refine HF.out.mono ?_;rintro e w1 ⟨c,b,rfl,hf,hB⟩;have d3:=(hB.cell (p:=⟨pt,3,none⟩) hpt).trans c3;cases b with
 | false=>exact absurd HI.out ((iV hT (by omega) hf).2.2.1 i hu)
 | true=>{
 obtain⟨j,hc,hcj,huj,hej⟩:=fD hT (by omega) hf;obtain rfl:j=i:=hinj j i huj hu (hej.trans HI.out.symm);have dc:w1.cell? ⟨gc,c,none⟩=some (.int .i64 ((j:Int)+1)):=by rw[hB.cell (p:=⟨gc,c,none⟩) h4.lt,h4.cell,fQ hc];simp[eP,hcj]
 have H1:=qA hcj;clear hcj;have H2:=qA hej;clear hej;clear hf;go_wp2
 go_ret2;exact⟨rfl,hB⟩}
theorem yP{w:World}{pt:Nat}{T:Tb}{l:List Nat}{id:Nat}(hid:id<18446744073709551616)(h:cB w pt T l)(hno:∀i,T.used i->T.ids i≠id):
    Calls Tryz.prog 133 #[ptr pt,.int .u64 id] w fun e w' =>e=.returned (.tuple #[.int .i64 0,.bool false])/\Below w.heap.size w w' :=by
 obtain⟨cpc,rst,pa,gc,n,vi,C,la,h1,h2,h3,h4,rfl,hnd,hM,hs,hT,hinj,hb64⟩:=h;have c0:=h1.cell 0;simp only[zJ]at c0;have hn:=hM.pos;have hfind:=fE id hid h1 h2 h3 h4 hM hs hT;have HF:=qA hfind;clear hfind;have HN:=qA hno;clear hno;go_enter Tryz.func133,Tryz.ntmps133
 go_wp2_with (go_at_call 143;refine(cY pt _ c0).mono ?_;rintro e w' ⟨rfl,rfl⟩)
 refine HF.out.mono ?_;rintro e w1 ⟨c,b,rfl,hf,hB⟩;cases b with
 | true=>{
 obtain⟨j,hc,hcj,huj,hej⟩:=fD hT (by omega) hf;exact absurd hej (HN.out j huj)}
 | false=>{
 clear hf;go_wp2
 go_ret2;exact⟨rfl,hB⟩}
theorem sQ{w:World}{pt:Nat}{T:Tb}{l:List Nat}{id i:Nat}(hid:id<18446744073709551616)(h:cB w pt T l)(hu:T.used i)(hi:T.ids i=id):
    Calls Tryz.prog 173 #[ptr pt,.int .u64 id] w fun e w' =>e=.returned (.tuple #[.int .i64 i,.bool false,.int .i64 0])/\Below w.heap.size w w' :=by
 obtain⟨cpc,rst,pa,gc,n,vi,C,la,h1,h2,h3,h4,rfl,hnd,hM,hs,hT,hinj,hb64⟩:=h;have c0:=h1.cell 0;have c3:=h1.cell 3;simp only[zJ,zK]at c0 c3;have hpt:=h1.lt;have hn:=hM.pos;have hn2:=hM.le;have hbl:i<65536:=by have:=h2.ok.hs;have:=h2.ok.hb;have:=hu.1;omega
 have hfind:=fE id hid h1 h2 h3 h4 hM hs hT;have HF:=qA hfind;clear hfind;have HI:=qA hi;clear hi;go_enter Tryz.func173,Tryz.ntmps173
 go_wp2_with (go_at_call 143;refine(cY pt _ c0).mono ?_;rintro e w' ⟨rfl,rfl⟩)
 refine HF.out.mono ?_;rintro e w1 ⟨c,b,rfl,hf,hB⟩;have d3:=(hB.cell (p:=⟨pt,3,none⟩) hpt).trans c3;cases b with
 | false=>exact absurd HI.out ((iV hT (by omega) hf).2.2.1 i hu)
 | true=>{
 obtain⟨j,hc,hcj,huj,hej⟩:=fD hT (by omega) hf;obtain rfl:j=i:=hinj j i huj hu (hej.trans HI.out.symm);have dc:w1.cell? ⟨gc,c,none⟩=some (.int .i64 ((j:Int)+1)):=by rw[hB.cell (p:=⟨gc,c,none⟩) h4.lt,h4.cell,fQ hc];simp[eP,hcj]
 have H1:=qA hcj;clear hcj;have H2:=qA hej;clear hej;clear hf;go_wp2
 go_ret3;exact⟨rfl,hB⟩}
theorem tT{w:World}{pt:Nat}{T:Tb}{l:List Nat}{id:Nat}(hid:id<18446744073709551616)(h:cB w pt T l)(hno:∀i,T.used i->T.ids i≠id)(hfull:T.A.next=none):
    Calls Tryz.prog 173 #[ptr pt,.int .u64 id] w fun e w' =>e=.returned (.tuple #[.int .i64 0,.bool false,.int .i64 4])/\Below w.heap.size w w' :=by
 obtain⟨cpc,rst,pa,gc,n,vi,C,la,h1,h2,h3,h4,rfl,hnd,hM,hs,hT,hinj,hb64⟩:=h;have c0:=h1.cell 0;have c1:=h1.cell 1;simp only[zJ,zK]at c0 c1;have hpt:=h1.lt;have hn:=hM.pos;have hfind:=fE id hid h1 h2 h3 h4 hM hs hT;have HF:=qA hfind;clear hfind;have HN:=qA hno;clear hno;have HX:=qA hfull;clear hfull;go_enter Tryz.func173,Tryz.ntmps173
 go_wp2_with (go_at_call 143;refine(cY pt _ c0).mono ?_;rintro e w' ⟨rfl,rfl⟩)
 refine HF.out.mono ?_;rintro e w1 ⟨c,b,rfl,hf,hB⟩;have d1:=(hB.cell (p:=⟨pt,1,none⟩) hpt).trans c1;cases b with
 | true=>{
 obtain⟨j,hc,hcj,huj,hej⟩:=fD hT (by omega) hf;exact absurd hej (HN.out j huj)}
 | false=>{
 clear hf;have h2' :aR w1 pa T.A la:=h2.same (fun b hb=>hB.block b (h2.lt b hb));go_wp2_with (go_at_call 172;refine(rE h2' HX.out).mono ?_;rintro e w2 ⟨rfl,hE⟩)
 go_ret3;exact⟨rfl,hB.trans ⟨hE.os,hE.tape,hE.output,by rw[hE.heap];exact qK _,fun k _=>by rw[hE.heap]⟩⟩}
theorem isUsed_alloc{A:Ar}{i:Nat}(hok:A.ok)(hn:A.next=some i):(¬A.isUsed i)/\∀j,A.alloc.isUsed j↔(A.isUsed j∨j=i):=by
 obtain⟨slots,begun,free⟩:=A;cases free with
 | cons k r=>{
 obtain rfl:k=i:=by simpa[Ar.next] using hn
 have hnd:=hok.nd;have hlt:=hok.lt k (by simp);simp only[qO]at hnd;dsimp only at hlt
 refine⟨by simp[Ar.isUsed],fun j=>?_⟩;simp only[Ar.isUsed,Ar.alloc,qB,not_or];constructor
 {
 rintro⟨a,b⟩;by_cases e:j=k
 · exact .inr e
 · exact .inl ⟨a,e,b⟩}
 {
 rintro(⟨a,_,b⟩|rfl)
 · exact⟨a,b⟩
 · exact⟨hlt,hnd.1⟩}}
 | nil=>{
 simp only[Ar.next]at hn;by_cases hb:begun<slots
 {
 rw[qD hb]at hn;obtain rfl:begun=i:=by simpa using hn
 refine⟨by simp[Ar.isUsed],fun j=>?_⟩;simp only[Ar.isUsed,Ar.alloc,List.not_mem_nil,not_false_eq_true,and_true];omega}
 · rw[qC hb]at hn;cases hn}
theorem nX{A:Ar}{i:Nat}(hok:A.ok)(hn:A.next=some i):(i<A.begun/\A.alloc.begun=A.begun)∨(i=A.begun/\A.alloc.begun=A.begun+1):=by
 obtain⟨slots,begun,free⟩:=A;cases free with
 | cons k r=>{
 obtain rfl:k=i:=by simpa[Ar.next] using hn
 exact .inl ⟨hok.lt k (by simp),rfl⟩}
 | nil=>{
 simp only[Ar.next]at hn;by_cases hb:begun<slots
 {
 rw[qD hb]at hn;obtain rfl:begun=i:=by simpa using hn
 exact .inr ⟨rfl,rfl⟩}
 · rw[qC hb]at hn;cases hn}
theorem rZ(A:Ar):A.alloc.slots=A.slots:=by
 obtain⟨slots,begun,free⟩:=A;cases free<;>rfl
def Tb.put(T:Tb)(id i:Nat):Tb:={ A:=T.A.alloc,ids:=gA T.ids i id }
theorem aIJ(m:Nat)(ids:Nat->Nat)(x:Nat):bT m (idF ids)++[.int .u64 x]=bT (m+1) (idF (gA ids m x)):=by
 simp only[bT,List.range_succ,List.map_append,List.map_cons,List.map_nil];congr 1
 {
 apply List.map_congr_left;intro a ha;simp at ha;simp only[idF];rw[aD (by omega)]}
 · simp[idF,bB]
theorem Tb.put_ok{n:Nat}{C:Nat->Nat}{T:Tb}{id i c:Nat}(hok:T.A.ok)(hid:id<18446744073709551616)(hM:vY n)(hT:gZ n (hm n) C T.ids T.used)(hn:T.A.next=some i)
    (hinj:∀i j,T.used i->T.used j->T.ids i=T.ids j->i=j) (hb64:∀i,i<T.A.begun->T.ids i<18446744073709551616) (hf:aBC n C T.ids id c false):
    c<n/\gZ n (hm n) (gA C c (i+1)) (T.put id i).ids (T.put id i).used/\(∀a b,(T.put id i).used a->(T.put id i).used b->(T.put id i).ids a=(T.put id i).ids b->a=b) /\
      (∀a,a<(T.put id i).A.begun->(T.put id i).ids a<18446744073709551616):=by
 have hpos:=hM.pos;obtain⟨hc,h0,hno,hpath⟩:=iV hT (by omega) hf;obtain⟨hnu,hiff⟩:=isUsed_alloc hok hn;refine⟨hc,?_,?_,?_⟩
 · exact(hT.put hc h0 hnu hpath).congr (fun j=>(hiff j).symm) (fun _ _=>rfl)
 {
 intro a b ha hb e;simp only[Tb.put]at e;rcases(hiff a).1 ha with ha|ha<;>rcases(hiff b).1 hb with hb|hb
 {
 have na:a≠i:=fun e=>hnu (e▸ha);have nb:b≠i:=fun e=>hnu (e▸hb);rw[aD na,aD nb]at e;exact hinj a b ha hb e}
 {
 have na:a≠i:=fun e=>hnu (e▸ha);rw[aD na,hb,bB]at e;exact absurd e (hno a ha)}
 {
 have nb:b≠i:=fun e=>hnu (e▸hb);rw[aD nb,ha,bB]at e;exact absurd e.symm (hno b hb)}
 · omega}
 {
 intro a ha;simp only[Tb.put]at ha ⊢;by_cases e:a=i
 · rw[e,bB];exact hid
 {
 rw[aD e];refine hb64 a ?_;rcases nX hok hn with⟨_,h⟩|⟨_,h⟩<;>omega}}
theorem Tryz.info36:(Tryz.prog.info? 36).map (fun i=>(i.zero,i.size,i.bytes))=some (some (.int .u64 0),1,8):=by kernel_rfl
theorem aIK{rst:List Value}{T:Tb}(vi:Value)(w2 w3:World)(pt gc n _c g' cap' :Nat)(hd:List Value)(C:Nat->Nat)(m1:Blk w2 pt 211 hd)(m4:Blk w2 gc 3 (iA n C rst))
    (hown3:w3.ownsRow 0 36 1 (.slice (some ⟨g', 0,none⟩) (T.A.begun+1) cap') (T.A.begun+1) (bT T.A.begun (idF T.ids)++[.int .u64 0]))
    (hgrow3:(w2.alloc (.cells #[.int .u64 0] 36)).grownBy w3 vi.ownBlock) (hg3:vi.ownBlock=some g' ∨ (w2.alloc (.cells #[.int .u64 0] 36)).heap.size<=g')
    (hvq:∀q,vi.ownBlock=some q->q≠pt/\q≠gc/\q<w2.heap.size):
    Blk w3 pt 211 hd/\Blk w3 gc 3 (iA n C rst)/\g' ≠ pt/\g' ≠ gc/\w3.cell? ⟨g', T.A.begun,none⟩=some (.int .u64 0)/\w3.frozen? ⟨g', T.A.begun,none⟩=false /\
      Fr vi.ownBlock.toList w2 w3/\(vi.ownBlock=some g' ∨ w2.heap.size<=g'):=by
 have hb0:∀k,k<w2.heap.size->vi.ownBlock≠some k->w3.heap[k]? =w2.heap[k]? :=by {
 intro k hk hne;rw[hgrow3.block k (by simp;omega) (fun e=>hne e.symm),Below.heap_alloc _ _ _ hk]};have hg:vi.ownBlock=some g' ∨ w2.heap.size<g' :=by {
 rcases hg3 with h|h
 · exact .inl h
 · simp at h;exact .inr (by omega)};obtain⟨g,cap,e,_,_,hc,hfz⟩:=bW hown3 (Nat.lt_succ_self _);simp only[qP,qI,Addr.mk.injEq,and_true,true_and]at e;obtain⟨rfl,_⟩:=e;refine⟨m1.of_same (hb0 pt m1.lt (fun e=>(hvq pt e).1 rfl)),m4.of_same (hb0 gc m4.lt (fun e=>(hvq gc e).2.1 rfl)),?_,?_,?_,hfz _,⟨hgrow3.os,hgrow3.tape,hgrow3.output,by have:=hgrow3.size;simp at this;omega,fun k hk hn=>hb0 k hk (fun e=>hn (by simp[e]))⟩,?_⟩
 {
 rcases hg with h|h
 · exact(hvq _ h).1
 · have:=m1.lt;omega}
 {
 rcases hg with h|h
 · exact(hvq _ h).2.1
 · have:=m4.lt;omega}
 · rw[hc,List.getElem?_append_right (by rw[cN];exact qK _)];simp[cN]
 {
 rcases hg with h|h
 · exact .inl h
 · exact .inr (by omega)}
theorem wA{w:World}{pt:Nat}{T:Tb}{l:List Nat}{id i:Nat}(hid:id<18446744073709551616)(h:cB w pt T l)(hno:∀i,T.used i->T.ids i≠id)(hnext:T.A.next=some i):
    Calls Tryz.prog 173 #[ptr pt,.int .u64 id] w fun e w' =>e=.returned (.tuple #[.int .i64 i,.bool true,.int .i64 0]) /\
      ∃l', cB w' pt (T.put id i) l' /\ Fr l w w' /\ ∀b∈l', b∈l∨w.heap.size<=b:=by
 have hltw:=h.lt;obtain⟨cpc,rst,pa,gc,n,vi,C,la,h1,h2,h3,h4,rfl,hnd,hM,hs,hT,hinj,hb64⟩:=h;have hok:=h2.ok;have c0:=h1.cell 0;have c1:=h1.cell 1;have c2:=h1.cell 2;have c3:=h1.cell 3;simp only[zJ,zK]at c0 c1 c2 c3;have hpt:=h1.lt;have hgc:=h4.lt;have hn:=hM.pos;have hn2:=hM.le;have hil:i<65536/\T.A.begun<=65536:=by {
 have:=hok.hs;have:=hok.hb;rcases nX hok hnext with⟨ha,_⟩|⟨ha,hb⟩
 · omega
 {
 have:T.A.begun<T.A.slots:=by {
 obtain⟨A,ids⟩:=T;obtain⟨slots,begun,free⟩:=A;cases free with
 | cons k r=>{
 simp[Ar.next]at hnext;subst hnext;have:=hok.lt k (by simp);dsimp only at this ha;omega}
 | nil=>{
 simp only[Ar.next]at hnext;by_cases hb:begun<slots
 · exact hb
 · rw[qC hb]at hnext;cases hnext}};omega}};obtain⟨hil,hbl⟩:=hil;have hfind:=fE id hid h1 h2 h3 h4 hM hs hT;have HF:=qA hfind;clear hfind;have HN:=qA hno;clear hno;have HX:=qA hnext;clear hnext;have hnd2:pt≠gc/\(∀q,vi.ownBlock=some q->q≠pt/\q≠gc/\q∉la)/\pt∉la/\gc∉la/\la.Nodup:=by {
 simp only[qO,qN,qB,qE,Option.mem_toList,not_or]at hnd;refine⟨hnd.1.1,fun q hq=>⟨fun e=>hnd.1.2.1 (e▸hq),fun e=>hnd.2.1.1 (e▸hq),fun hm=>hnd.2.2.2.2 q (by simpa using hq) q hm rfl⟩,hnd.1.2.2,hnd.2.1.2,hnd.2.2.2.1⟩};obtain⟨hpg,hvq,hpla,hgla,hlnd⟩:=hnd2;go_enter Tryz.func173,Tryz.ntmps173
 go_wp2_with (go_at_call 143;refine(cY pt _ c0).mono ?_;rintro e w' ⟨rfl,rfl⟩)
 refine HF.out.mono ?_;rintro e w1 ⟨c,b,rfl,hf,hB⟩;cases b with
 | true=>{
 obtain⟨j,hc,hcj,huj,hej⟩:=fD hT (by omega) hf;exact absurd hej (HN.out j huj)}
 | false=>{
 have d1:=(hB.cell (p:=⟨pt,1,none⟩) hpt).trans c1;have h2' :aR w1 pa T.A la:=h2.same (fun b hb=>hB.block b (h2.lt b hb));have k1:Blk w1 pt _ _:=h1.of_same (hB.block pt hpt);have k4:Blk w1 gc _ _:=h4.of_same (hB.block gc hgc);have k3:=aL h3 (fun q hq=>hB.block q (h3.lt q hq).2);have HFd:=qA hf;clear hf;have hBs:=hB.size;go_wp2_with fail
 refine(jE h2' HX.out).mono ?_;rintro e w2 ⟨rfl,la', hA', hFr,hsub⟩;clear d1;have m1:Blk w2 pt _ _:=hFr.blk k1 hpla;have m4:Blk w2 gc _ _:=hFr.blk k4 hgla;have m3:=aL k3 (fun q hq=>hFr.keep q (k3.lt q hq).2 (hvq q hq).2.2);have e2:=m1.cell 2;have e3:=m1.cell 3;simp only[zJ,zK]at e2 e3;have efr:=m1.frozen;obtain⟨hc,hT', hinj', hb64'⟩:=Tb.put_ok hok hid hM hT HX.out hinj hb64 HFd.out;have ec:=m4.cell c;rw[fQ hc]at ec;simp only[eP]at ec;have ecf:=m4.frozen c;have HT' :=qA hT'; clear hT';have Hinj' :=qA hinj'; clear hinj';have Hb64' :=qA hb64'; clear hb64';have Hsub:=qA hsub;clear hsub;have hsz2:=hFr.size;have HA' :=qA hA'; clear hA';rcases nX hok HX.out with⟨hlt,hbe⟩|⟨heq,hbe⟩
 {
 have Hbe:=qA hbe;clear hbe;obtain⟨g,cap,rfl,hcap,hg,hci,hfz⟩:=bW m3 hlt;rw[eE hlt]at hci;simp only[idF]at hci;have hfz' :=hfz i;clear hfz;obtain⟨hgp,hgg,hgla2⟩:=hvq g rfl;have hne:((i:Int) == (T.A.begun:Int))=false:=qR.2 (by omega);clear c0 c1 c2 c3 hvq;go_wp2
 go_ret3;have hlA:=HA'.out.lt;have hgw:g<w.heap.size:=hltw g (by simp[Value.ownBlock]);refine⟨rfl,pt::gc::([g]++la'),⟨cpc,rst,pa,gc,n,_,gA C c (i+1),la', (m1.other _ _ (fun e=>hgp e.symm)).other _ _ hpg,HA'.out.same ?_,?_,?_,rfl,?_,hM,?_,HT'.out,Hinj'.out,Hb64'.out⟩,?_,?_⟩
 {
 intro b hb;have hb' :=Hsub.out b hb;have n1:b≠g:=by rcases hb' with hb' | hb'; exact fun e=>hgla2 (e▸hb');omega
 have n2:b≠gc:=by rcases hb' with hb' | hb'; exact fun e=>hgla (e▸hb');omega
 rw[Below.heap_setCell _ _ _ _ n2,Below.heap_setCell _ _ _ _ n1]}
 {
 have hx:=bL (iU m3 hlt (.int .u64 id)) ⟨gc,c,none⟩ (.int .i64 (i+1)) (by simp[Value.ownBlock];exact hgg);rw[kZ]at hx;show World.ownsRow _ 0 _ 1 _ T.A.alloc.begun (bT T.A.alloc.begun (idF (gA T.ids i id)))
 rw[Hbe.out];exact hx}
 {
 have hx:=(m4.other ⟨g,i,none⟩ (.int .u64 id) (fun e=>hgg e.symm)).set c (.int .i64 ((i+1:Nat):Int));rw[mN _ hc]at hx;exact hx}
 {
 have hla' :la'.Nodup:=by obtain⟨_,_,_,_,_,_,_,_,hq,_⟩:=HA'.out;exact hq
 have q1:∀b∈la', b≠pt/\b≠gc/\b≠g:=by {
 intro b hb;rcases Hsub.out b hb with hb' | hb'
 · exact⟨fun e=>hpla (e▸hb'),fun e=>hgla (e▸hb'),fun e=>hgla2 (e▸hb')⟩
 · exact⟨by omega,by omega,by omega⟩};simp only[qO,qN,qB,qE,List.not_mem_nil,or_false,not_or];exact⟨⟨hpg,fun e=>hgp e.symm,fun hm=>(q1 pt hm).1 rfl⟩,⟨fun e=>hgg e.symm,fun hm=>(q1 gc hm).2.1 rfl⟩,by simp,hla', fun a ha b hb=>by subst ha;exact fun e=>(q1 b hb).2.2 e.symm⟩}
 {
 show 2*T.A.alloc.slots<=n
 rw[rZ];exact hs}
 {
 have f1:Fr (pt::gc::((Value.slice (some ⟨g,0,none⟩) T.A.begun cap).ownBlock.toList++la)) w w2:=((Fr.of_below hB).mono (S' :=pt::gc::((Value.slice (some ⟨g,0,none⟩) T.A.begun cap).ownBlock.toList++la)) (by simp)).trans hFr (fun b hb=>.inl (by simp[hb]));exact(f1.setCell _ _ (.inl (by simp[Value.ownBlock]))).setCell _ _ (.inl (by simp))}
 {
 intro b hb;simp only[qB,qE,List.not_mem_nil,or_false]at hb;rcases hb with rfl|rfl|rfl|hb
 · exact .inl (by simp)
 · exact .inl (by simp)
 · exact .inl (by simp[Value.ownBlock])
 {
 rcases Hsub.out b hb with hb' | hb'
 · exact .inl (by simp[hb'])
 · exact .inr (by omega)}}}
 {
 subst heq;have Hbe:=qA hbe;clear hbe;have hvl:∀q,vi.ownBlock=some q->q<w.heap.size:=fun q hq=>hltw q (by simp[hq]);have hpt2:pt<w2.heap.size:=by omega
 have hgc2:gc<w2.heap.size:=by omega
 clear c0 c1 c2 c3;obtain⟨a0,cp0,rfl⟩:=aO m3;go_wp2_with (at_builtin;refine aB rfl _ _ 104 rfl 36 (.int .u64 0) 8 Tryz.underlying104 Tryz.info36 rfl (.slice a0 T.A.begun cp0) T.A.begun _ rfl (m3.alloc _) w2.heap.size (.int .u64 0) rfl (aC _ _ _ _ rfl) rfl (by omega) (by decide) ?_;intro g' cap' w3 hown3 hgrow3 hg3;obtain⟨f1,f2,f3,f4,f5,f6,f8,f9⟩:=aIK (T:=T) (Value.slice a0 T.A.begun cp0) w2 w3 pt gc n c g' cap' _ C m1 m4 hown3 hgrow3 hg3 (fun q hq=>⟨(hvq q hq).1,(hvq q hq).2.1,by have:=hvl q hq;omega⟩);have HO:=qA hown3;have H9:=qA f9;clear f9;have f7:=f1.frozen;clear hgrow3 hown3 hg3;have g1:=f1.cell 2;have g2:=f1.cell 3;have g3:=f2.cell c;have g4:=f2.frozen c;rw[fQ hc]at g3;simp only[eP]at g3;simp only[zJ,zK]at g1 g2)
 go_ret3;have hlA:=HA'.out.lt;have hla' :la'.Nodup:=by obtain⟨_,_,_,_,_,_,_,_,hq,_⟩:=HA'.out;exact hq
 have hgl:∀b∈la', b≠g' :=by {
 intro b hb e;subst e;rcases H9.out with h9|h9
 {
 have:=hvq _ h9;rcases Hsub.out _ hb with hb' | hb'
 · exact this.2.2 hb'
 · have:=hvl _ h9;omega}
 · have:=hlA _ hb;omega};have q1:∀b∈la', b≠pt/\b≠gc:=by {
 intro b hb;rcases Hsub.out b hb with hb' | hb'
 · exact⟨fun e=>hpla (e▸hb'),fun e=>hgla (e▸hb')⟩
 · exact⟨by omega,by omega⟩};refine⟨rfl,pt::gc::([g']++la'),⟨cpc,rst,pa,gc,n,.slice (some ⟨g', 0,none⟩) (T.A.begun+1) cap', gA C c (T.A.begun+1),la', ?_,HA'.out.same ?_,?_,?_,rfl,?_,hM,?_,HT'.out,Hinj'.out,Hb64'.out⟩,?_,?_⟩
 · exact(((f1.set 2 (.slice (some ⟨g', 0,none⟩) (T.A.begun+1) cap')).other ⟨g', T.A.begun,none⟩ (.int .u64 id) (fun e=>f3 e.symm)).other ⟨gc,c,none⟩ (.int .i64 (T.A.begun+1)) hpg)
 {
 intro b hb;rw[Below.heap_setCell _ _ _ _ (q1 b hb).2,Below.heap_setCell _ _ _ _ (hgl b hb),Below.heap_setCell _ _ _ _ (q1 b hb).1];refine f8.keep b (hlA b hb) ?_;intro hm;simp only[Option.mem_toList]at hm;rcases Hsub.out b hb with hb' | hb'
 · exact(hvq b hm).2.2 hb'
 · have:=hvl b hm;omega}
 {
 have hx0:=bL HO.out ⟨pt,2,none⟩ (.slice (some ⟨g', 0,none⟩) (T.A.begun+1) cap') (by simp[Value.ownBlock];exact f3);have hx:=bL (iU hx0 (Nat.lt_succ_self _) (.int .u64 id)) ⟨gc,c,none⟩ (.int .i64 (T.A.begun+1)) (by simp[Value.ownBlock];exact f4);have e0:=aIJ T.A.begun T.ids 0;simp only[Int.cast_ofNat_Int]at e0;rw[e0,kZ]at hx;have e1:gA (gA T.ids T.A.begun 0) T.A.begun id=gA T.ids T.A.begun id:=by funext j;simp only[gA];split<;>rfl
 rw[e1]at hx;show World.ownsRow _ 0 _ 1 _ T.A.alloc.begun (bT T.A.alloc.begun (idF (gA T.ids T.A.begun id)))
 rw[Hbe.out];exact hx}
 {
 have hx:=((f2.other ⟨pt,2,none⟩ (.slice (some ⟨g', 0,none⟩) (T.A.begun+1) cap') (fun e=>hpg e.symm)).other ⟨g', T.A.begun,none⟩ (.int .u64 id) (fun e=>f4 e.symm)).set c (.int .i64 ((T.A.begun+1:Nat):Int));rw[mN _ hc]at hx;exact hx}
 {
 simp only[qO,qN,qB,qE,List.not_mem_nil,or_false,not_or];exact⟨⟨hpg,fun e=>f3 e.symm,fun hm=>(q1 pt hm).1 rfl⟩,⟨fun e=>f4 e.symm,fun hm=>(q1 gc hm).2 rfl⟩,by simp,hla', fun a ha b hb=>by subst ha;exact fun e=>hgl b hb e.symm⟩}
 {
 show 2*T.A.alloc.slots<=n
 rw[rZ];exact hs}
 {
 have p1:Fr (pt::gc::((Value.slice a0 T.A.begun cp0).ownBlock.toList++la)) w w2:=((Fr.of_below hB).mono (S' :=pt::gc::((Value.slice a0 T.A.begun cp0).ownBlock.toList++la)) (by simp)).trans hFr (fun b hb=>.inl (by simp[hb]));have p2:=p1.trans f8 (fun b hb=>.inl (by simp at hb;simp[hb]));refine((p2.setCell _ _ (.inl (by simp))).setCell _ _ ?_).setCell _ _ (.inl (by simp));rcases H9.out with h9|h9
 · exact .inl (by simp[h9])
 · exact .inr (by simp;omega)}
 {
 intro b hb;simp only[qB,qE,List.not_mem_nil,or_false]at hb;rcases hb with rfl|rfl|rfl|hb
 · exact .inl (by simp)
 · exact .inl (by simp)
 {
 rcases H9.out with h9|h9
 · exact .inl (by simp[h9])
 · exact .inr (by omega)}
 {
 rcases Hsub.out b hb with hb' | hb'
 · exact .inl (by simp[hb'])
 · exact .inr (by omega)}}}}
theorem isUsed_put{A:Ar}{k:Nat}(_hu:A.isUsed k)(j:Nat):(A.put k).isUsed j↔(A.isUsed j/\j≠k):=by
 simp only[Ar.isUsed,Ar.put,qB,not_or];constructor
 · rintro⟨a,b,c⟩;exact⟨⟨a,c⟩,b⟩
 · rintro⟨⟨a,c⟩,b⟩;exact⟨a,b,c⟩
def Tb.del(T:Tb)(i:Nat):Tb:={ A:=T.A.put i,ids:=gA T.ids i 0 }
theorem tU{w:World}{pt:Nat}{T:Tb}{l:List Nat}{id:Nat}(hid:id<18446744073709551616)(h:cB w pt T l)(hno:∀i,T.used i->T.ids i≠id):
    Calls Tryz.prog 155 #[ptr pt,.int .u64 id] w fun e w' =>e=.returned (.int .i64 5)/\Below w.heap.size w w' :=by
 obtain⟨cpc,rst,pa,gc,n,vi,C,la,h1,h2,h3,h4,rfl,hnd,hM,hs,hT,hinj,hb64⟩:=h;have c0:=h1.cell 0;simp only[zJ]at c0;have hn:=hM.pos;have hfind:=fE id hid h1 h2 h3 h4 hM hs hT;have HF:=qA hfind;clear hfind;have HN:=qA hno;clear hno;go_enter Tryz.func155,Tryz.ntmps155
 go_wp2_with (go_at_call 143;refine(cY pt _ c0).mono ?_;rintro e w' ⟨rfl,rfl⟩)
 refine HF.out.mono ?_;rintro e w1 ⟨c,b,rfl,hf,hB⟩;cases b with
 | true=>{
 obtain⟨j,hc,hcj,huj,hej⟩:=fD hT (by omega) hf;exact absurd hej (HN.out j huj)}
 | false=>{
 clear hf;go_wp2
 go_ret;exact⟨rfl,hB⟩}
theorem aIL{w:World}{pt:Nat}{T:Tb}{l:List Nat}{id i:Nat}(hid:id<18446744073709551616)(h:cB w pt T l)(hu:T.used i)(hi:T.ids i=id):
    Calls Tryz.prog 155 #[ptr pt,.int .u64 id] w fun e w' =>e=.returned (.int .i64 0)/\cB w' pt (T.del i) l/\Fr l w w' :=by
 have hltw:=h.lt;obtain⟨cpc,rst,pa,gc,n,vi,C,la,h1,h2,h3,h4,rfl,hnd,hM,hs,hT,hinj,hb64⟩:=h;have hok:=h2.ok;have hilt:i<T.A.begun:=hu.1;have hbl:T.A.begun<=65536:=by have:=hok.hs;have:=hok.hb;omega
 have c0:=h1.cell 0;have c1:=h1.cell 1;have c3:=h1.cell 3;simp only[zJ,zK]at c0 c1 c3;have hpt:=h1.lt;have hgc:=h4.lt;have hn:=hM.pos;have hn2:=hM.le;have hfind:=fE id hid h1 h2 h3 h4 hM hs hT;have HF:=qA hfind;clear hfind;have HI:=qA hi;clear hi;have hnd2:pt≠gc/\(∀q,vi.ownBlock=some q->q≠pt/\q≠gc/\q∉la)/\pt∉la/\gc∉la:=by {
 simp only[qO,qN,qB,qE,Option.mem_toList,not_or]at hnd;refine⟨hnd.1.1,fun q hq=>⟨fun e=>hnd.1.2.1 (e▸hq),fun e=>hnd.2.1.1 (e▸hq),fun hm=>hnd.2.2.2.2 q (by simpa using hq) q hm rfl⟩,hnd.1.2.2,hnd.2.1.2⟩};obtain⟨hpg,hvq,hpla,hgla⟩:=hnd2;obtain⟨g,cap,rfl,hcap,hg,hci,hfz⟩:=bW h3 hilt;obtain⟨hgp,hgg,hgla2⟩:=hvq g rfl;clear hvq;go_enter Tryz.func155,Tryz.ntmps155
 go_wp2_with (go_at_call 143;refine(cY pt _ c0).mono ?_;rintro e w' ⟨rfl,rfl⟩)
 refine HF.out.mono ?_;rintro e w1 ⟨c,b,rfl,hf,hB⟩;cases b with
 | false=>exact absurd HI.out ((iV hT (by omega) hf).2.2.1 i hu)
 | true=>{
 obtain⟨j,hc,hcj,huj,hej⟩:=fD hT (by omega) hf;obtain rfl:j=i:=hinj j i huj hu (hej.trans HI.out.symm);have d1:=(hB.cell (p:=⟨pt,1,none⟩) hpt).trans c1;have d3:=(hB.cell (p:=⟨pt,3,none⟩) hpt).trans c3;have dc:w1.cell? ⟨gc,c,none⟩=some (.int .i64 ((j:Int)+1)):=by rw[hB.cell (p:=⟨gc,c,none⟩) h4.lt,h4.cell,fQ hc];simp[eP,hcj]
 have H1:=qA hcj;clear hcj;have H2:=qA hej;clear hej;have h2' :aR w1 pa T.A la:=h2.same (fun b hb=>hB.block b (h2.lt b hb));have k1:Blk w1 pt _ _:=h1.of_same (hB.block pt hpt);have k4:Blk w1 gc _ _:=h4.of_same (hB.block gc hgc);have k3:=aL h3 (fun q hq=>hB.block q (h3.lt q hq).2);clear hf c0 c1 c3 hci hfz;go_wp2_with fail
 refine(tP h2' hu).mono ?_;rintro e w2 ⟨rfl,hA', hFr⟩;clear d1 d3 dc;have m1:Blk w2 pt _ _:=hFr.blk k1 hpla;have m4:Blk w2 gc _ _:=hFr.blk k4 hgla;have m3:=aL k3 (fun q hq=>hFr.keep q (k3.lt q hq).2 (by simp[Value.ownBlock]at hq;subst hq;exact hgla2));have e2:=m1.cell 2;have e3:=m1.cell 3;simp only[zJ,zK]at e2 e3;have HA' :=qA hA'; clear hA';go_wp2_with fail
 refine(aPU pt gc n cpc T.A.begun c C T.ids (fun k=>T.used k/\k≠j) (.slice (some ⟨g,0,none⟩) T.A.begun cap) w2 hM hpg e3 e2 m4 ?_ (fun k hk=>hk.1.1) hbl (rF.start hT hc H1.out) (tS hT hok hn hs)).mono ?_
 {
 intro k hk;obtain⟨g2,cap2,e,_,_,hck,_⟩:=bW m3 hk;simp only[qP,qI,Addr.mk.injEq,and_true,true_and]at e;obtain⟨rfl,rfl⟩:=e;rw[eE hk]at hck;exact⟨g,cap,rfl,hgg,hgp,hck,hb64 k hk⟩}
 {
 rintro e w3 ⟨rfl,C', hb4,hT', hF3⟩;have n1:Blk w3 pt _ _:=hF3.blk m1 (by simpa using hpg);have n3:=aL m3 (fun q hq=>hF3.keep q (m3.lt q hq).2 (by simp[Value.ownBlock]at hq;subst hq;simpa using hgg));have s2:=n1.cell 2;simp only[zJ,zK]at s2;obtain⟨g2,cap2,e,_,_,hck,hfz⟩:=bW n3 hilt;simp only[qP,qI,Addr.mk.injEq,and_true,true_and]at e;obtain⟨rfl,rfl⟩:=e;rw[eE hilt]at hck;simp only[idF]at hck;have hfz' :=hfz j;clear hfz e2 e3;have HT' :=qA hT'; clear hT';go_wp2
 go_ret;have hA3:aR w3 pa (T.A.put j) la:=HA'.out.same (fun b hb=>hF3.keep b (HA'.out.lt b hb) (by simp;rintro rfl;exact hgla hb));refine⟨rfl,⟨cpc,rst,pa,gc,n,_,C', la,n1.other _ _ (fun e=>hgp e.symm),hA3.same ?_,?_,hb4.other _ _ (fun e=>hgg e.symm),rfl,hnd,hM,hs,?_,?_,?_⟩,?_⟩
 {
 intro b hb;exact Below.heap_setCell _ _ _ _ (show b≠g by rintro rfl;exact hgla2 hb)}
 {
 have hx:=iU n3 hilt (.int .u64 ((0:Nat):Int));rw[kZ]at hx;exact hx}
 {
 refine HT'.out.congr (fun k=>(isUsed_put hu k).symm) (fun k hk=>?_);simp only[Tb.del];rw[aD hk.2]}
 {
 intro a b ha hb e;obtain⟨ha1,ha2⟩:=(isUsed_put hu a).1 ha;obtain⟨hb1,hb2⟩:=(isUsed_put hu b).1 hb;simp only[Tb.del]at e;rw[aD ha2,aD hb2]at e;exact hinj a b ha1 hb1 e}
 {
 intro a ha;simp only[Tb.del,Ar.put]at ha ⊢;by_cases e:a=j
 · rw[e,bB];omega
 · rw[aD e];exact hb64 a ha}
 {
 have p1:=(((Fr.of_below hB).mono (S' :=pt::gc::((Value.slice (some ⟨g,0,none⟩) T.A.begun cap).ownBlock.toList++la)) (by simp)).trans hFr (fun b hb=>.inl (by simp[hb]))).trans hF3 (fun b hb=>.inl (by simp at hb;simp[hb]));exact p1.setCell _ _ (.inl (by simp[Value.ownBlock]))}}}
theorem Tryz.info3:(Tryz.prog.info? 3).map (fun i=>(i.zero,i.size,i.bytes))=some (some (.int .i64 0),1,8):=by kernel_rfl
def Tb.new(slots:Nat):Tb:={ A:=Ar.new slots,ids:=fun _=>0 }
theorem aPW(slots:Int)(w:World)(h:slots<0∨65536<slots):
    Calls Tryz.prog 128 #[.int .i64 slots] w fun e w' =>e=.returned (.tuple #[.pointer none,.int .i64 2])/\w=w' :=by
 have H:=qA h;clear h;go_enter Tryz.func128,Tryz.ntmps128
 go_wp2_with (go_at_call 127;refine(yM slots _ H.out).mono ?_;rintro e w' ⟨rfl,rfl⟩)
 go_ret2;exact⟨rfl,rfl⟩
theorem wX(n:Nat):madeCells (Value.int .i64 0).cells n=(bT n (eP (fun _=>0))).toArray:=by
 apply Array.ext
 · simp[madeCells,bT]
 {
 intro i h1 h2;simp[madeCells,bT,eP,Value.cells,Nat.mod_one]}
theorem wB(n:Nat)(w:World)(hn:n<=1048576):(Instr.makeSlice 158 (.int .i64 n) (.int .i64 n)).run Tryz.prog w=.ok (.slice (some ⟨w.heap.size,0,none⟩) n n) (w.alloc (.cells (bT n (eP (fun _=>0))).toArray 3)):=by
 obtain⟨i0,hi,hz0,hz1,hz2⟩:=info_parts Tryz.info3;have h:=run_make (P:=Tryz.prog) w 158 3 i0 (.int .i64 0) Tryz.underlying158 hi hz0 .i64 .i64 n n (by omega) (by omega) (by rw[hz2];omega) (by omega);rw[hz1]at h;simp only[zD,Nat.mul_one]at h;rw[wX]at h;exact h
theorem aIM{j:Nat}(h:2 ^ j<131072):j<17:=by
 apply qQ;intro hn;have:2 ^ 17<=2 ^ j:=Nat.pow_le_pow_right (by decide) (by omega);omega
theorem aIN(slots:Nat)(w:World)(h:slots<=65536):
    Calls Tryz.prog 128 #[.int .i64 slots] w fun e w' =>∃pt,e=.returned (.tuple #[ptr pt,.int .i64 0])/\∃l,cB w' pt (Tb.new slots) l/\Fr [] w w' /\ ∀b∈l,w.heap.size<=b:=by
 go_enter Tryz.func128,Tryz.ntmps128
 go_wp2_with (go_at_call 127;refine(wU slots _ h).mono ?_;rintro e w1 ⟨rfl,hA,hFr⟩)
 go_loop [6] (fun a=>∃j n:Nat,1<=j/\j<=17/\n<=131072/\Hid (n=2 ^ j)/\a=.int .i64 n) (fun a=>200000-(intOf a).toNat)
 case atStart=>exact⟨1,2,by omega,by omega,by omega,qA rfl,rfl⟩
 case round=>
  obtain⟨j,n,hj1,hj2,hn1,Hn,rfl⟩:=hrel;by_cases hlt:n<2*slots
  {
  go_wp2
  go_round
  case rel=>
   have hj3:j<17:=aIM (by rw[<-Hn.out];omega);have hp:2 ^ (j+1)<=2 ^ 17:=Nat.pow_le_pow_right (by decide) (by omega);have hq:n*2=2 ^ (j+1):=by rw[Hn.out];rfl
   refine⟨j+1,n*2,by omega,by omega,by omega,qA hq,by go_num⟩
  case measure=>
   have hp:1<=n:=by rw[Hn.out];exact Nat.one_le_two_pow
   simp[intOf];omega}
  {
  have hmk:=fun W=>wB n W (by omega);go_wp2
  go_ret2;have hw:w.heap.size<w1.heap.size:=hA.lt _ (by simp);have b1:=Blk.new w1 (bT n (eP fun _=>0)) 3;have b2:=Blk.new (w1.alloc (.cells (bT n (eP fun _=>0)).toArray 3)) [ptr (w1.heap.size+1),ptr w.heap.size,.slice none 0 0,.slice (some ⟨w1.heap.size,0,none⟩) n n] 211;simp only[World.size_alloc]at b2;refine⟨w1.heap.size+1,rfl,(w1.heap.size+1)::w1.heap.size::([]++[w.heap.size]),⟨n,[],w.heap.size,w1.heap.size,n,.slice none 0 0,fun _=>0,[w.heap.size],b2,?_,World.ownsRow_nil _ _ _ _,by unfold iA;rw[List.append_nil];exact b1.alloc _,rfl,?_,?_,?_,?_,?_,?_⟩,?_,?_⟩
  {
  exact hA.same (fun b hb=>by
    simp only[qH]at hb;subst hb;rw[Below.heap_alloc _ _ _ (by simp;omega),Below.heap_alloc _ _ _ hw])}
  · simp;omega
  · rw[Hn.out];exact vY.mk' j hj1 hj2
  · show 2*slots<=n;omega
  · exact⟨fun c _ h0=>absurd rfl h0,fun c d _ _ h0=>absurd rfl h0,fun i hi=>absurd hi.1 (Nat.not_lt_zero _)⟩
  · intro i j hi;exact absurd hi.1 (Nat.not_lt_zero _)
  · intro i hi;exact absurd hi (Nat.not_lt_zero _)
  · exact(hFr.alloc _).alloc _
  · intro b hb;simp at hb;omega}
end Go.Proofs.YtjdgpcjbgjnahaaGreatDoor
namespace Go.Proofs.YtjdgpcjbgjnahaaGreatDoor
structure Md where
  slots:Nat
  L:List (Nat×Nat)
  free:List Nat
  given:Nat
namespace Md
def new(slots:Nat):Md:={ slots:=slots,L:=[],free:=[],given:=0 }
def find(M:Md)(id:Nat):Option Nat:=(M.L.find? (fun x=>x.1 == id)).map (·.2)
def idOf(M:Md)(i:Nat):Option Nat:=(M.L.find? (fun x=>x.2 == i)).map (·.1)
def next(M:Md):Option Nat:=match M.free with
  | k::_=>some k
  | []=>if M.given<M.slots then some M.given else none
def add(M:Md)(id i:Nat):Md:={ M with L:=M.L++[(id,i)],free:=M.free.tail,given:=match M.free with|[]=>M.given+1|_=>M.given }
def rem(M:Md)(id i:Nat):Md:={ M with L:=M.L.filter (fun x=>x.1 != id),free:=i::M.free }
structure PutR where
  idx:Nat
  added:Bool
  err:Nat
  M:Md
def put(M:Md)(id:Nat):PutR:=match M.find id with
  | some i=>⟨i,false,0,M⟩
  | none=>match M.next with
    | none=>⟨0,false,4,M⟩
    | some i=>⟨i,true,0,M.add id i⟩
structure DelR where
  err:Nat
  M:Md
def del(M:Md)(id:Nat):DelR:=match M.find id with
  | none=>⟨5,M⟩
  | some i=>⟨0,M.rem id i⟩
def ar(M:Md):Ar:={ slots:=M.slots,begun:=M.given,free:=M.free }
structure Ok (M:Md):Prop where
  ar:M.ar.ok
  ids:(M.L.map (·.1)).Nodup
  idx:(M.L.map (·.2)).Nodup
  used:∀x∈M.L,M.ar.isUsed x.2
  all:∀i,M.ar.isUsed i->∃id,(id,i)∈M.L
  cnt:M.L.length+M.free.length=M.given
  u64:∀x∈M.L,x.1<18446744073709551616
theorem mem_find{M:Md}(h:(M.L.map (·.1)).Nodup){id i:Nat}(hm:(id,i)∈M.L):M.find id=some i:=by
 unfold find;generalize M.L=l at *;induction l with
 | nil=>cases hm
 | cons a r ih=>{
 simp only[List.map_cons,qO]at h;by_cases e:a.1=id
 {
 rcases qB.1 hm with rfl|hm
 · simp
 · exact absurd (qW.2 ⟨_,hm,e.symm⟩) h.1}
 {
 rcases qB.1 hm with rfl|hm
 · exact absurd rfl e
 · rw[List.find?_cons_of_neg (by simpa using e)];exact ih h.2 hm}}
theorem find_mem{M:Md}{id i:Nat}(hf:M.find id=some i):(id,i)∈M.L:=by
 unfold find at hf;simp only[Option.map_eq_some_iff]at hf;obtain⟨x,hx,rfl⟩:=hf;have h1:=List.find?_some hx;have h2:=List.mem_of_find?_eq_some hx;simp at h1;subst h1;exact h2
theorem find_iff{M:Md}(h:M.Ok){id i:Nat}:M.find id=some i↔(id,i)∈M.L:=⟨find_mem,mem_find h.ids⟩
theorem find_none{M:Md}{id:Nat}:M.find id=none↔∀i,(id,i)∉M.L:=by
 unfold find;simp only[Option.map_eq_none_iff,List.find?_eq_none,beq_iff_eq];constructor
 · intro h i hm;exact h _ hm rfl
 · rintro h ⟨a,b⟩ hm e;subst e;exact h b hm
theorem mem_idOf{M:Md}(h:(M.L.map (·.2)).Nodup){id i:Nat}(hm:(id,i)∈M.L):M.idOf i=some id:=by
 unfold idOf;generalize M.L=l at *;induction l with
 | nil=>cases hm
 | cons a r ih=>{
 simp only[List.map_cons,qO]at h;by_cases e:a.2=i
 {
 rcases qB.1 hm with rfl|hm
 · simp
 · exact absurd (qW.2 ⟨_,hm,e.symm⟩) h.1}
 {
 rcases qB.1 hm with rfl|hm
 · exact absurd rfl e
 · rw[List.find?_cons_of_neg (by simpa using e)];exact ih h.2 hm}}
theorem ok_new{slots:Nat}(h:slots<=65536):(new slots).Ok:=
  ⟨⟨h,by simp[new,ar],by simp[new,ar],by simp[new,ar]⟩,by simp[new],by simp[new],by simp[new],fun i hi=>absurd hi.1 (Nat.not_lt_zero _),rfl,by simp[new]⟩
theorem ar_next(M:Md):M.ar.next=M.next:=by
 unfold ar next Ar.next;cases M.free<;>rfl
theorem ar_add{M:Md}{id i:Nat}(h:M.next=some i):(M.add id i).ar=M.ar.alloc:=by
 obtain⟨s,L,f,g⟩:=M;cases f<;>rfl
theorem ar_rem(M:Md)(id i:Nat):(M.rem id i).ar=M.ar.put i:=rfl
theorem alloc_ok{A:Ar}{i:Nat}(h:A.ok)(hn:A.next=some i):A.alloc.ok:=by
 obtain⟨s,b,f⟩:=A;cases f with
 | cons k r=>refine⟨h.hs,h.hb,(qO.1 h.nd).2,fun x hx=>h.lt x (List.mem_cons_of_mem _ hx)⟩
 | nil=>{
 simp only[Ar.next]at hn;by_cases hb:b<s
 · exact⟨h.hs,by simp[Ar.alloc];omega,by simp[Ar.alloc],by simp[Ar.alloc]⟩
 · rw[qC hb]at hn;cases hn}
theorem isUsed_alloc' {A:Ar}{i:Nat}(hok:A.ok)(hn:A.next=some i):(¬A.isUsed i)/\∀j,A.alloc.isUsed j↔(A.isUsed j∨j=i):=by
 obtain⟨slots,begun,free⟩:=A;cases free with
 | cons k r=>{
 obtain rfl:k=i:=by simpa[Ar.next] using hn
 have hnd:=hok.nd;have hlt:=hok.lt k (by simp);simp only[qO]at hnd;dsimp only at hlt
 refine⟨by simp[Ar.isUsed],fun j=>?_⟩;simp only[Ar.isUsed,Ar.alloc,qB,not_or];constructor
 {
 rintro⟨a,b⟩;by_cases e:j=k
 · exact .inr e
 · exact .inl ⟨a,e,b⟩}
 {
 rintro(⟨a,_,b⟩|rfl)
 · exact⟨a,b⟩
 · exact⟨hlt,hnd.1⟩}}
 | nil=>{
 simp only[Ar.next]at hn;by_cases hb:begun<slots
 {
 rw[qD hb]at hn;obtain rfl:begun=i:=by simpa using hn
 refine⟨by simp[Ar.isUsed],fun j=>?_⟩;simp only[Ar.isUsed,Ar.alloc,List.not_mem_nil,not_false_eq_true,and_true];omega}
 · rw[qC hb]at hn;cases hn}
theorem ok_add{M:Md}(h:M.Ok){id i:Nat}(hid:id<18446744073709551616)(hf:M.find id=none)(hn:M.next=some i):(M.add id i).Ok:=by
 have hn' :M.ar.next=some i:=by rw[ar_next];exact hn
 obtain⟨hnu,hiff⟩:=isUsed_alloc' h.ar hn';have hno:=find_none.1 hf;refine⟨by rw[ar_add hn];exact alloc_ok h.ar hn', ?_,?_,?_,?_,?_,?_⟩
 {
 simp only[add,List.map_append,List.map_cons,List.map_nil,qN];refine⟨h.ids,by simp,?_⟩;intro a ha b hb e;simp only[qH]at hb;obtain⟨x,hx,rfl⟩:=qW.1 ha;exact hno x.2 (by rw[<-hb,<-e];exact hx)}
 {
 simp only[add,List.map_append,List.map_cons,List.map_nil,qN];refine⟨h.idx,by simp,?_⟩;intro a ha b hb e;simp only[qH]at hb;obtain⟨x,hx,rfl⟩:=qW.1 ha;have:=h.used x hx;rw[e,hb]at this;exact hnu this}
 {
 intro x hx;rw[ar_add hn,hiff];simp only[add,qE,qH]at hx;rcases hx with hx|rfl
 · exact .inl (h.used x hx)
 · exact .inr rfl}
 {
 intro j hj;rw[ar_add hn,hiff]at hj;rcases hj with hj|rfl
 {
 obtain⟨id', hm⟩:=h.all j hj;exact⟨id', by simp[add,hm]⟩}
 · exact⟨id,by simp[add]⟩}
 {
 have:=h.cnt;obtain⟨s,L,f,g⟩:=M;cases f with
 | nil=>simp[add]at *;omega
 | cons k r=>simp[add]at *;omega}
 {
 intro x hx;simp only[add,qE,qH]at hx;rcases hx with hx|rfl
 · exact h.u64 x hx
 · exact hid}
theorem filter_ne{l:List (Nat×Nat)}{id i:Nat}(hnd:(l.map (·.1)).Nodup)(hm:(id,i)∈l):(l.filter (fun x=>x.1 != id)).length+1=l.length:=by
 induction l with
 | nil=>cases hm
 | cons a r ih=>{
 simp only[List.map_cons,qO]at hnd;by_cases e:a.1=id
 {
 have hr:r.filter (fun x=>x.1 != id)=r:=List.filter_eq_self.2 (fun x hx=>by
   simp only[bne_iff_ne];intro e2;exact hnd.1 (qW.2 ⟨x,hx,e2.trans e.symm⟩))
 rw[List.filter_cons_of_neg (by simp[e]),hr];simp}
 {
 rcases qB.1 hm with rfl|hm
 · exact absurd rfl e
 · rw[List.filter_cons_of_pos (by simpa using e),qZ,qZ,ih hnd.2 hm]}}
theorem isUsed_put' {A:Ar}{k:Nat}(_hu:A.isUsed k)(j:Nat):(A.put k).isUsed j↔(A.isUsed j/\j≠k):=by
 simp only[Ar.isUsed,Ar.put,qB,not_or];constructor
 · rintro⟨a,b,c⟩;exact⟨⟨a,c⟩,b⟩
 · rintro⟨⟨a,c⟩,b⟩;exact⟨a,b,c⟩
theorem ok_rem{M:Md}(h:M.Ok){id i:Nat}(hm:(id,i)∈M.L):(M.rem id i).Ok:=by
 have hu:=h.used _ hm;have hiff:=isUsed_put' hu;have hne:∀x∈M.L,x.1≠id->x.2≠i:=by {
 intro x hx hn e;have h1:=mem_idOf h.idx (show(x.1,x.2)∈M.L from hx);have h2:=mem_idOf h.idx hm;rw[e,h2]at h1;exact hn (by simpa using h1.symm)};refine⟨?_,?_,?_,?_,?_,?_,?_⟩
 {
 rw[ar_rem];refine⟨h.ar.hs,h.ar.hb,?_,?_⟩
 · simp only[Ar.put,qO];exact⟨hu.2,h.ar.nd⟩
 {
 intro x hx;simp only[Ar.put,qB]at hx;rcases hx with rfl|hx
 · exact hu.1
 · exact h.ar.lt x hx}}
 · exact(List.Sublist.map _ List.filter_sublist).nodup h.ids
 · exact(List.Sublist.map _ List.filter_sublist).nodup h.idx
 {
 intro x hx;simp only[rem,zA,bne_iff_ne]at hx;rw[ar_rem,hiff];exact⟨h.used x hx.1,hne x hx.1 hx.2⟩}
 {
 intro j hj;rw[ar_rem,hiff]at hj;obtain⟨id', hm'⟩:=h.all j hj.1;refine⟨id', ?_⟩;simp only[rem,zA,bne_iff_ne];refine⟨hm', fun e=>?_⟩;subst e;have h1:=mem_find h.ids hm;rw[mem_find h.ids hm']at h1;exact hj.2 (by simpa using h1)}
 {
 have:=h.cnt;have h2:=filter_ne h.ids hm;simp only[rem,qZ];omega}
 {
 intro x hx;simp only[rem,zA]at hx;exact h.u64 x hx.1}
theorem ok_put{M:Md}(h:M.Ok){id:Nat}(hid:id<18446744073709551616):(M.put id).M.Ok:=by
 unfold put;cases hf:M.find id with
 | some i=>exact h
 | none=>{
 cases hn:M.next with
 | none=>exact h
 | some i=>exact ok_add h hid hf hn}
theorem ok_del{M:Md}(h:M.Ok)(id:Nat):(M.del id).M.Ok:=by
 unfold del;cases hf:M.find id with
 | none=>exact h
 | some i=>exact ok_rem h (find_mem hf)
end Md
end Go.Proofs.YtjdgpcjbgjnahaaGreatDoor
namespace Go.Proofs.YtjdgpcjbgjnahaaGreatDoor
open Go.RowKit
def gV(w:World)(pt:Nat)(M:Md)(l:List Nat):Prop:=
  ∃T,cB w pt T l/\T.A=M.ar/\M.Ok/\∀id i,(id,i)∈M.L↔(T.used i/\T.ids i=id)
theorem gV.ok{w:World}{pt:Nat}{M:Md}{l:List Nat}(h:gV w pt M l):M.Ok:=by obtain⟨_,_,_,h,_⟩:=h;exact h
theorem gV.lt{w:World}{pt:Nat}{M:Md}{l:List Nat}(h:gV w pt M l):∀b∈l,b<w.heap.size:=by obtain⟨_,h,_⟩:=h;exact h.lt
theorem gV.fr{w w' :World}{pt:Nat}{M:Md}{l S:List Nat}(h:gV w pt M l)(hf:Fr S w w')(hd:∀b∈l,b∉S):gV w' pt M l:=by
 obtain⟨T,h,r⟩:=h;exact⟨T,h.fr hf hd,r⟩
theorem gV.below{w w' :World}{pt:Nat}{M:Md}{l:List Nat}(h:gV w pt M l)(hf:Below w.heap.size w w'):gV w' pt M l:=
  h.fr (Fr.of_below hf) (by simp)
def Next(l l' :List Nat)(w w' :World):Prop:=Fr l w w' /\ ∀b∈l', b∈l∨w.heap.size<=b
theorem Next.of_below{l:List Nat}{w w' :World}(h:Below w.heap.size w w'):Next l l w w' :=⟨(Fr.of_below h).mono (by simp),fun _ h=>.inl h⟩
theorem aPX(slots:Nat)(w:World)(h:slots<=65536):
    Calls Tryz.prog 128 #[.int .i64 slots] w fun e w' =>∃pt,e=.returned (.tuple #[ptr pt,.int .i64 0])/\∃l,gV w' pt (Md.new slots) l/\Next [] l w w' :=by
 refine(aIN slots w h).mono ?_;rintro e w' ⟨pt,rfl,l,hT,hF,hl⟩;refine⟨pt,rfl,l,⟨_,hT,rfl,Md.ok_new h,fun id i=>?_⟩,hF,fun b hb=>.inr (hl b hb)⟩;simp only[Md.new,List.not_mem_nil,false_iff,not_and];intro hu;exact absurd hu.1 (Nat.not_lt_zero _)
theorem aPY{w:World}{pt:Nat}{M:Md}{l:List Nat}(id:Nat)(hid:id<18446744073709551616)(h:gV w pt M l):
    Calls Tryz.prog 173 #[ptr pt,.int .u64 id] w fun e w' =>e=.returned (.tuple #[.int .i64 (M.put id).idx,.bool (M.put id).added,.int .i64 (M.put id).err]) /\
      ∃l', gV w' pt (M.put id).M l' /\ Next l l' w w' :=by
 have h0:=h;obtain⟨T,hT,hA,hok,hiff⟩:=h;cases hf:M.find id with
 | some i=>{
 have hm:=(hiff id i).1 (Md.find_mem hf);have e:M.put id=⟨i,false,0,M⟩:=by simp only[Md.put,hf]
 rw[e];refine(sQ hid hT hm.1 hm.2).mono ?_;rintro e w' ⟨rfl,hB⟩;exact⟨rfl,l,h0.below hB,Next.of_below hB⟩}
 | none=>{
 have hno:∀i,T.used i->T.ids i≠id:=fun i hu e=>Md.find_none.1 hf i ((hiff id i).2 ⟨hu,e⟩);cases hn:M.next with
 | none=>{
 have e:M.put id=⟨0,false,4,M⟩:=by simp only[Md.put,hf,hn]
 rw[e];refine(tT hid hT hno (by rw[hA,Md.ar_next];exact hn)).mono ?_;rintro e w' ⟨rfl,hB⟩;exact⟨rfl,l,h0.below hB,Next.of_below hB⟩}
 | some i=>{
 have e:M.put id=⟨i,true,0,M.add id i⟩:=by simp only[Md.put,hf,hn]
 rw[e];have hn' :T.A.next=some i:=by rw[hA,Md.ar_next];exact hn
 refine(wA hid hT hno hn').mono ?_;rintro e w' ⟨rfl,l', hT', hF,hs⟩;refine⟨rfl,l', ⟨T.put id i,hT', ?_,Md.ok_add hok hid hf hn,fun id' j=>?_⟩,hF,hs⟩
 · rw[Md.ar_add hn,<-hA];rfl
 {
 have hu:=isUsed_alloc (by rw[hA];exact hok.ar) hn';simp only[Md.add,qE,qH,zE,hiff];have hu2:(T.put id i).used j↔(T.used j∨j=i):=hu.2 j;rw[hu2];simp only[Tb.put];constructor
 {
 rintro(⟨h1,h2⟩|⟨rfl,rfl⟩)
 {
 have:j≠i:=fun e=>hu.1 (e▸h1);rw[aD this];exact⟨.inl h1,h2⟩}
 · rw[bB];exact⟨.inr rfl,rfl⟩}
 {
 rintro⟨h1,h2⟩;by_cases e:j=i
 · rw[e,bB]at h2;exact .inr ⟨h2.symm,e⟩
 · rw[aD e]at h2;exact .inl ⟨h1.resolve_right e,h2⟩}}}}
theorem aPZ{w:World}{pt:Nat}{M:Md}{l:List Nat}(id:Nat)(hid:id<18446744073709551616)(h:gV w pt M l):
    Calls Tryz.prog 155 #[ptr pt,.int .u64 id] w fun e w' =>e=.returned (.int .i64 (M.del id).err)/\gV w' pt (M.del id).M l/\Next l l w w' :=by
 have h0:=h;obtain⟨T,hT,hA,hok,hiff⟩:=h;cases hf:M.find id with
 | none=>{
 have hno:∀i,T.used i->T.ids i≠id:=fun i hu e=>Md.find_none.1 hf i ((hiff id i).2 ⟨hu,e⟩);have e:M.del id=⟨5,M⟩:=by simp only[Md.del,hf]
 rw[e];refine(tU hid hT hno).mono ?_;rintro e w' ⟨rfl,hB⟩;exact⟨rfl,h0.below hB,Next.of_below hB⟩}
 | some i=>{
 have hm:=(hiff id i).1 (Md.find_mem hf);have e:M.del id=⟨0,M.rem id i⟩:=by simp only[Md.del,hf]
 rw[e];refine(aIL hid hT hm.1 hm.2).mono ?_;rintro e w' ⟨rfl,hT', hF⟩;refine⟨rfl,⟨T.del i,hT', ?_,Md.ok_rem hok (Md.find_mem hf),fun id' j=>?_⟩,hF,fun _ h=>.inl h⟩
 · rw[Md.ar_rem,<-hA];rfl
 {
 have hu2:(T.del i).used j↔(T.used j/\j≠i):=isUsed_put hm.1 j;simp only[Md.rem,zA,bne_iff_ne,hiff];rw[hu2];simp only[Tb.del];constructor
 {
 rintro⟨⟨h1,h2⟩,h3⟩;have e:j≠i:=by rintro rfl;exact h3 (h2.symm.trans hm.2)
 rw[aD e];exact⟨⟨h1,e⟩,h2⟩}
 {
 rintro⟨⟨h1,h3⟩,h2⟩;rw[aD h3]at h2;refine⟨⟨h1,h2⟩,fun e=>?_⟩;have a1:=(hiff id j).2 ⟨h1,h2.trans e⟩;have a2:=Md.mem_find hok.ids a1;rw[hf]at a2;exact h3 (by simpa using a2.symm)}}}
theorem aGL{w:World}{pt:Nat}{M:Md}{l:List Nat}(id:Nat)(hid:id<18446744073709551616)(h:gV w pt M l):
    Calls Tryz.prog 133 #[ptr pt,.int .u64 id] w fun e w' =>e=.returned (.tuple #[.int .i64 ((M.find id).getD 0),.bool (M.find id).isSome])/\gV w' pt M l/\Below w.heap.size w w' :=by
 have h0:=h;obtain⟨T,hT,hA,hok,hiff⟩:=h;cases hf:M.find id with
 | none=>{
 have hno:∀i,T.used i->T.ids i≠id:=fun i hu e=>Md.find_none.1 hf i ((hiff id i).2 ⟨hu,e⟩);refine(yP hid hT hno).mono ?_;rintro e w' ⟨rfl,hB⟩;exact⟨rfl,h0.below hB,hB⟩}
 | some i=>{
 have hm:=(hiff id i).1 (Md.find_mem hf);refine(vZ hid hT hm.1 hm.2).mono ?_;rintro e w' ⟨rfl,hB⟩;exact⟨rfl,h0.below hB,hB⟩}
theorem aGM{w:World}{pt:Nat}{M:Md}{l:List Nat}(h:gV w pt M l):
    Calls Tryz.prog 97 #[ptr pt] w fun e w' =>e=.returned (.int .i64 M.L.length)/\w=w' :=by
 obtain⟨T,hT,hA,hok,hiff⟩:=h;refine(aII hT).mono ?_;rintro e w' ⟨rfl,rfl⟩;refine⟨aGF ?_,rfl⟩;have:=hok.cnt;rw[hA];simp only[Md.ar,Ar.used];omega
def fR(A:Ar)(i:Nat):List Nat:=(List.range i).filter fun k=> !A.free.contains k
def fJ(A:Ar):List Nat:=fR A A.begun
def fO(l:List Nat):List Value:=l.map fun(x:Nat)=>.int .i64 x
theorem sR{A:Ar}{i:Nat}(h:i∉A.free):fR A (i+1)=fR A i++[i]:=by
 simp[fR,List.range_succ,List.filter_append,h]
theorem tV{A:Ar}{i:Nat}(h:i∈A.free):fR A (i+1)=fR A i:=by
 simp[fR,List.range_succ,List.filter_append,h]
theorem aEF(A:Ar)(i:Nat):(fR A i).length<=i:=zH (List.length_filter_le _ _) (by simp)
theorem rG{A:Ar}(h:A.ok):(fJ A).length=A.used:=by
 unfold fJ fR Ar.used;have h1:((List.range A.begun).filter fun k=> !A.free.contains k).length+((List.range A.begun).filter fun k=>A.free.contains k).length=A.begun:=by {
 rw[<-List.countP_eq_length_filter,<-List.countP_eq_length_filter];have:=List.length_eq_countP_add_countP (fun k=>A.free.contains k) (l:=List.range A.begun);simp only[List.length_range]at this;have e:(List.range A.begun).countP (fun k=> !A.free.contains k)=(List.range A.begun).countP (fun a=>decide (¬A.free.contains a=true)):=by apply List.countP_congr;intro x _;simp
 omega};have h2:((List.range A.begun).filter fun k=>A.free.contains k).length=A.free.length:=by {
 apply List.Perm.length_eq;rw[List.perm_ext_iff_of_nodup (List.filter_sublist.nodup List.nodup_range) h.nd];intro k;simp only[zA,List.mem_range,List.contains_iff_mem];exact⟨fun h=>h.2,fun hk=>⟨h.lt k hk,hk⟩⟩};omega
theorem iG{A:Ar}{k:Nat}:k∈fJ A↔A.isUsed k:=by
 simp[fJ,fR,Ar.isUsed]
theorem lA(A:Ar):(fJ A).Nodup:=List.filter_sublist.nodup List.nodup_range
def stI(A:Ar)(k:Nat):Int:=if k∈A.free then 2 else 1
theorem aBE{w:World}{pa:Nat}{A:Ar}{l:List Nat}(h:aR w pa A l){k:Nat}(hk:k<A.begun):
    Calls Tryz.prog 145 #[ptr pa,.int .i64 k] w fun e w' =>e=.returned (.int .i64 (stI A k))/\w=w' :=by
 obtain⟨v,bs,st,af,h1,h2,h3,rfl,hnd,hl,hok,hst,hch⟩:=h;have hs:=hok.hs;have hb:=hok.hb;obtain⟨g,cap,b,tm,rfl,hbk,hg1,hg2,hbp,c1,c2,c3,c4,hfz⟩:=aR.slot h2 h3 hnd hl (show k/64<bs.length by omega);have e:st k=stI A k:=by {
 unfold stI;by_cases hf:k∈A.free
 · rw[qD hf,hst.1 k hk hf]
 · rw[qC hf,hst.2 k hk hf]};rw[<-e];exact nO pa g bs.length cap b k A.begun (st k) w (h1.cell 1) (by omega) (by omega) (h1.cell 3) hk c1 c2
theorem aIO(c:Nat)(w:World)(hn:c<=1048576):(Instr.makeSlice 158 (.int .i64 0) (.int .i64 c)).run Tryz.prog w=.ok (.slice (some ⟨w.heap.size,0,none⟩) 0 c) (w.alloc (.cells (bT c (eP (fun _=>0))).toArray 3)):=by
 obtain⟨i0,hi,hz0,hz1,hz2⟩:=info_parts Tryz.info3;have h:=run_make (P:=Tryz.prog) w 158 3 i0 (.int .i64 0) Tryz.underlying158 hi hz0 .i64 .i64 0 c (by omega) (by omega) (by rw[hz2];omega) (by omega);rw[hz1]at h;simp only[zD,Nat.mul_one]at h;rw[wX]at h;exact h
theorem wY{w:World}{e:TypeId}{cs:List Value}(c:Nat)(hc:cs.length=c)(hm:c<=1048576):(w.alloc (.cells cs.toArray e)).ownsRow 0 e 1 (.slice (some ⟨w.heap.size,0,none⟩) 0 c) 0 []:=
  ⟨rfl,.inr ⟨w.heap.size,c,cs.toArray,rfl,qS _,World.alloc_heap_new w _,qS _,by unfold maxLen;omega,by simp[hc],by simp⟩⟩
theorem aR.fr{w w' :World}{pa:Nat}{A:Ar}{l S:List Nat}(h:aR w pa A l)(hf:Fr S w w')(hd:∀b∈l,b∉S):aR w' pa A l:=
  h.same fun b hb=>hf.keep b (h.lt b hb) (hd b hb)
theorem tW{w:World}{pa:Nat}{A:Ar}{l:List Nat}(h:aR w pa A l):
    Calls Tryz.prog 103 #[ptr pa] w fun e w' =>∃v,e=.returned v/\w'.ownsRow 0 3 1 v (fJ A).length (fO (fJ A))/\(∀q,v.ownBlock=some q->w.heap.size<=q)/\Fr [] w w' :=by
 have hok:=h.ok;have hs:=hok.hs;have hb:=hok.hb;have hlt:=h.lt;have HA:=qA h;obtain⟨v0,bs,st,af,h1,_⟩:=h;have c0:=h1.cell 0;have c3:=h1.cell 3;have c4:=h1.cell 4;simp only[zJ,zK]at c0 c3 c4;have hpa:=h1.lt;have husd:A.used<=65536:=by unfold Ar.used;omega
 have hmk:=aIO A.used w (by omega);have hown0:=wY (w:=w) (e:=3) (cs:=bT A.used (eP fun _=>0)) A.used (cN _ _) (by omega);have HO0:=qA hown0;clear hown0 h1;have HLt:=qA hlt;clear hlt;have d3:(w.alloc (.cells (bT A.used (eP fun _=>0)).toArray 3)).cell? ⟨pa,3,none⟩=some (.int .i64 A.begun):=((Fr.refl [] w).alloc _).cell c3 (by simp);have HF0:Hid (Fr [] w (w.alloc (.cells (bT A.used (eP fun _=>0)).toArray 3))):=qA ((Fr.refl [] w).alloc _);go_enter Tryz.func103,Tryz.ntmps103
 go_wp2_with (go_at_call 144;refine(cK pa _ c0).mono ?_;rintro e w' ⟨rfl,rfl⟩)
 generalize w.alloc (.cells (bT A.used (eP fun _=>0)).toArray 3)=w1 at *;clear c0 c3 c4 hmk d3;go_loopw [3,17] (fun v si wr=>∃i:Nat,i<=A.begun/\si=.int .i64 i/\Hid (Fr [] w wr)/\wr.ownsRow 0 3 1 v (fR A i).length (fO (fR A i))/\Hid (∀q,v.ownBlock=some q->w.heap.size<=q)) (fun _ si _=>A.begun-(intOf si).toNat)
 case atStart=>exact⟨0,qS _,rfl,HF0,by simpa[fR,fO] using HO0.out,qA (fun q e=>by simp[Value.ownBlock]at e;omega)⟩
 case round=>
  clear HO0 HF0;obtain⟨i,hi,rfl,HF,hown,HQ⟩:=hrel;obtain⟨a8,c8,rfl⟩:=aO hown;by_cases hlt:i<A.begun
  {
  have hil:(i:Int)<A.begun:=by omega
  have HSt:=qA (aBE (HA.out.fr HF.out (by simp)) hlt);have hul:=aEF A i;by_cases hf:i∈A.free
  {
  have e1:stI A i=2:=by unfold stI;rw[qD hf]
  rw[e1]at HSt;have Hu:=qA (tV hf);clear e1 hf;go_wp2_with (go_at_call 145;refine HSt.out.mono ?_;rintro e w' ⟨rfl,rfl⟩)
  go_roundw
  case rel=>exact⟨i+1,by omega,by go_num,HF,by rw[Hu.out];exact hown,HQ⟩
  case measure=>simp[intOf];omega}
  {
  have e1:stI A i=1:=by unfold stI;rw[qC hf]
  rw[e1]at HSt;have Hu:=qA (sR hf);clear e1 hf;generalize fR A i=us at *;go_wp2_with (first|(go_at_call 145;refine HSt.out.mono ?_;rintro e w' ⟨rfl,rfl⟩)|(at_builtin;refine aB rfl _ _ 158 rfl 3 (.int .i64 0) 8 Tryz.underlying158 Tryz.info3 rfl (.slice a8 us.length c8) us.length _ rfl (hown.alloc _) wr.heap.size (.int .i64 i) rfl (aC _ _ _ _ rfl) rfl (by omega) (by decide) ?_;intro g' cap' w4 hown4 hgrow4 hg4;have hF4:Fr (Value.slice a8 us.length c8).ownBlock.toList wr w4:=((Fr.refl _ _).alloc _).grown hgrow4 (fun q e=>.inl (by simp[e]))))
  go_roundw
  case rel=>
   have hs4:=HF.out.size;simp only[World.size_alloc]at hg4;refine⟨i+1,by omega,by go_num,qA (HF.out.trans hF4 (fun q hq=>.inr (HQ.out q (by simpa using hq)))),?_,qA (fun q e=>?_)⟩
   {
   rw[Hu.out,zF];have:fO (us++[i])=fO us++[.int .i64 i]:=by simp[fO]
   rw[this];exact hown4}
   {
   simp only[Value.ownBlock,qI]at e;subst e;rcases hg4 with e|e
   · exact HQ.out _ e
   · omega}
  case measure=>simp[intOf];omega}}
  {
  obtain rfl:i=A.begun:=by omega
  have Hown:=qA hown;clear hown;go_wp2
  go_ret;exact⟨_,rfl,Hown.out,HQ.out,HF.out⟩}
end Go.Proofs.YtjdgpcjbgjnahaaGreatDoor
namespace Go.Proofs.YtjdgpcjbgjnahaaGreatDoor
structure Lv where
  slot:Nat
  seq:Nat
  u:Nat
  v:Nat
  wt:Int
  t:Int
  x:Int
deriving DecidableEq
def Lv.z:Lv:=⟨0,0,0,0,0,0,0⟩
def Lv.at(e:Lv)(id:Nat):Bool:=e.u == id||e.v == id
def bU(L:List Lv)(id:Nat):List Nat:=(L.filter fun e=>e.at id).map (·.slot)
def aF(L:List Lv)(i:Nat):Lv:=(L.find? fun e=>e.slot == i).getD Lv.z
structure Sm where
  V:Nat
  E:Nat
  last:Nat
  A:Ar
  M:Md
  L:List Lv
namespace Sm
structure Ok (s:Sm):Prop where
  ar:s.A.ok
  sl:s.A.slots=s.E
  md:s.M.Ok
  ms:s.M.slots=s.V
  used:∀i,s.A.isUsed i↔∃e∈s.L,e.slot=i
  one:(s.L.map (·.slot)).Nodup
  seq:s.L.Pairwise fun a b=>a.seq<b.seq
  last:∀e∈s.L,e.seq<=s.last
  vert:∀id,(s.M.find id).isSome=true↔bU s.L id≠[]
  ne:∀e∈s.L,e.u≠e.v
  u64:∀e∈s.L,e.u<18446744073709551616/\e.v<18446744073709551616
  leV:s.V<=4096
  leE:s.E<=16384
  lt:s.last<18446744073709551616
def new(V E last:Nat):Sm:={ V:=V,E:=E,last:=last,A:=Ar.new E,M:=Md.new V,L:=[] }
def more(s:Sm)(u v:Nat):Nat:=(if (s.M.find u).isSome=true then 0 else 1)+if (s.M.find v).isSome=true then 0 else 1
def chk(s:Sm)(u v:Nat):Nat:=if u=v then 9 else if s.E<=s.A.used then 12 else if s.V<s.M.L.length+s.more u v then 11 else 0
def slot(s:Sm):Nat:=s.A.next.getD 0
def edge(s:Sm)(u v:Nat)(wt t x:Int):Lv:=⟨s.slot,s.last+1,u,v,wt,t,x⟩
def ins(s:Sm)(u v:Nat)(wt t x:Int):Sm:={ s with last:=s.last+1,A:=s.A.alloc,M:=((s.M.put u).M.put v).M,L:=s.L++[s.edge u v wt t x] }
def delIf(M:Md)(L:List Lv)(id:Nat):Md:=if bU L id=[] then(M.del id).M else M
def rem(s:Sm)(i:Nat):Sm:=
  { s with A:=s.A.put i,L:=s.L.filter (fun e=>e.slot != i),M:=delIf (delIf s.M (s.L.filter fun e=>e.slot != i) (aF s.L i).u) (s.L.filter fun e=>e.slot != i) (aF s.L i).v }
end Sm
theorem wZ(L:List Lv)(e:Lv)(id:Nat):bU (L++[e]) id=bU L id++if e.at id then [e.slot] else []:=by
 unfold bU;rw[List.filter_append,List.map_append];congr 1
 by_cases h:e.at id=true<;>simp[h]
theorem eY{L:List Lv}{id i:Nat}:i∈bU L id↔∃e∈L,e.at id=true/\e.slot=i:=by
 unfold bU;simp[qW,zA,and_assoc]
theorem tX{L:List Lv}(h:(L.map (·.slot)).Nodup)(id:Nat):(bU L id).Nodup:=(List.Sublist.map _ List.filter_sublist).nodup h
theorem iW(L:List Lv)(id i:Nat):bU (L.filter fun e=>e.slot != i) id=(bU L id).filter (· != i):=by
 unfold bU;rw[List.filter_map,List.filter_filter,List.filter_filter];congr 1
 exact List.filter_congr fun e _=>by simp[Bool.and_comm]
theorem lB(L:List Lv)(id:Nat):(bU L id).length<=L.length:=by
 unfold bU;rw[List.length_map];exact List.length_filter_le _ _
theorem gB{L:List Lv}(h:(L.map (·.slot)).Nodup){e:Lv}(he:e∈L):aF L e.slot=e:=by
 unfold aF;induction L with
 | nil=>cases he
 | cons a r ih=>{
 simp only[List.map_cons,qO]at h;by_cases e0:a.slot=e.slot
 {
 rcases qB.1 he with rfl|he
 · simp
 · exact absurd (qW.2 ⟨_,he,e0.symm⟩) h.1}
 {
 rcases qB.1 he with rfl|he
 · exact absurd rfl e0
 · rw[List.find?_cons_of_neg (by simpa using e0)];exact ih h.2 he}}
theorem sA{L:List Lv}{i:Nat}(h:∀e∈L,e.slot≠i):aF L i=Lv.z:=by
 unfold aF;rw[List.find?_eq_none.2 (fun e he=>by simpa using h e he)];rfl
theorem aBF{L:List Lv}{e:Lv}(h:∀x∈L,x.slot≠e.slot)(i:Nat):aF (L++[e]) i=if i=e.slot then e else aF L i:=by
 unfold aF;by_cases hi:i=e.slot
 {
 subst hi;rw[qD rfl,List.find?_append,List.find?_eq_none.2 (fun x hx=>by simpa using h x hx)];simp}
 {
 rw[qC hi,List.find?_append];have hn:(e.slot == i)=false:=by simp;omega
 simp[hn]}
theorem wC{L:List Lv}(i j:Nat):aF (L.filter fun e=>e.slot != i) j=if j=i then Lv.z else aF L j:=by
 by_cases hj:j=i
 {
 subst hj;rw[qD rfl];exact sA fun e he=>by simpa using (zA.1 he).2}
 {
 rw[qC hj];unfold aF;rw[List.find?_filter];congr 1
 congr 1
 funext e
 by_cases he:e.slot=j
 · subst he;simp[hj]
 · simp[he]}
theorem yQ{A:Ar}(h:A.used<A.slots):∃i,A.next=some i:=by
 obtain⟨s,b,f⟩:=A;cases f with
 | nil=>{
 have hb:b<s:=by simpa[Ar.used] using h
 exact⟨b,qD hb⟩}
 | cons k r=>exact⟨k,rfl⟩
theorem tY{A:Ar}(hok:A.ok){i:Nat}(h:A.next=some i):i<A.slots:=by
 obtain⟨s,b,f⟩:=A;cases f with
 | nil=>{
 simp only[Ar.next]at h;split at h
 · cases h;assumption
 · cases h}
 | cons k r=>{
 cases h;exact Nat.lt_of_lt_of_le (hok.lt _ (List.mem_cons_self ..)) hok.hb}
theorem aIP{A:Ar}(h:A.ok){k:Nat}(hu:A.isUsed k):(A.put k).ok:=by
 refine⟨h.hs,h.hb,?_,?_⟩
 · simp only[Ar.put,qO];exact⟨hu.2,h.nd⟩
 {
 intro x hx;simp only[Ar.put,qB]at hx;rcases hx with rfl|hx
 · exact hu.1
 · exact h.lt x hx}
theorem tZ(A:Ar):A.alloc.slots=A.slots:=by
 obtain⟨s,b,f⟩:=A;cases f<;>rfl
theorem jX(M:Md)(id:Nat):(M.put id).M.slots=M.slots:=by
 unfold Md.put;cases M.find id with
 | some i=>rfl
 | none=>cases M.next<;>rfl
theorem yR(M:Md)(id:Nat):(M.del id).M.slots=M.slots:=by
 unfold Md.del;cases M.find id<;>rfl
theorem aQA{M:Md}(h:M.Ok)(hl:M.L.length<M.slots):∃i,M.next=some i:=by
 have hc:=h.cnt;obtain⟨s,L,f,g⟩:=M;cases f with
 | nil=>{
 have hb:g<s:=by simp at hc hl;omega
 exact⟨g,qD hb⟩}
 | cons k r=>exact⟨k,rfl⟩
def aEG(M:Md)(id:Nat):Prop:=(M.find id).isSome=true∨M.L.length<M.slots
theorem uA{M:Md}(h:M.Ok){id i:Nat}(hid:id<18446744073709551616)(hf:M.find id=none)(hn:M.next=some i)(x:Nat):(M.add id i).find x=if x=id then some i else M.find x:=by
 have hok:=Md.ok_add h hid hf hn;by_cases hx:x=id
 {
 subst hx;rw[qD rfl];exact(Md.find_iff hok).2 (by simp[Md.add])}
 {
 rw[qC hx];cases hy:M.find x with
 | some j=>exact(Md.find_iff hok).2 (by have:=Md.find_mem hy;simp[Md.add,this])
 | none=>{
 refine Md.find_none.2 fun j hm=>?_;simp only[Md.add,qE,qH,zE]at hm;rcases hm with hm|⟨e,_⟩
 · exact Md.find_none.1 hy j hm
 · exact hx e}}
theorem lC{M:Md}(h:M.Ok){id:Nat}(hid:id<18446744073709551616)(hf:aEG M id):
    (M.put id).err=0/\(∀x,((M.put id).M.find x).isSome=true↔((M.find x).isSome=true∨x=id))/\(M.put id).M.L.length=M.L.length+(if (M.find id).isSome=true then 0 else 1)/\(M.put id).M.find id=some (M.put id).idx:=by
 unfold Md.put;cases hi:M.find id with
 | some i=>{
 refine⟨rfl,fun x=>⟨.inl,fun hx=>hx.elim (fun h=>h) fun e=>?_⟩,by simp,hi⟩;subst e;rw[hi];rfl}
 | none=>{
 have hl:M.L.length<M.slots:=hf.resolve_left (by rw[hi];simp);obtain⟨i,hn⟩:=aQA h hl;simp only[hn];refine⟨trivial,fun x=>?_,by simp[Md.add],by rw[uA h hid hi hn,qD rfl]⟩;rw[uA h hid hi hn];by_cases hx:x=id
 · simp[hx]
 · simp[hx]}
theorem aLD{M:Md}(h:M.Ok)(id x:Nat):((M.del id).M.find x).isSome=true↔((M.find x).isSome=true/\x≠id):=by
 unfold Md.del;cases hi:M.find id with
 | none=>{
 refine⟨fun hx=>⟨hx,fun e=>?_⟩,fun hx=>hx.1⟩;subst e;rw[hi]at hx;cases hx}
 | some i=>{
 have hok:=Md.ok_rem h (Md.find_mem hi);simp only[qV];constructor
 {
 rintro⟨j,hj⟩;have hm:=Md.find_mem hj;simp only[Md.rem,zA,bne_iff_ne]at hm;exact⟨⟨j,(Md.find_iff h).2 hm.1⟩,hm.2⟩}
 {
 rintro⟨⟨j,hj⟩,hne⟩;refine⟨j,(Md.find_iff hok).2 ?_⟩;simp only[Md.rem,zA,bne_iff_ne];exact⟨Md.find_mem hj,hne⟩}}
namespace Sm
section
variable {s:Sm}
theorem ok_new{V E last:Nat}(hV:V<=4096)(hE:E<=16384)(hl:last<18446744073709551616):(new V E last).Ok:=by
 refine⟨⟨by simp[new,Ar.new];omega,by simp[new,Ar.new],by simp[new,Ar.new],by simp[new,Ar.new]⟩,rfl,Md.ok_new (by omega),rfl,fun i=>?_,by simp[new],by simp[new],by simp[new],fun id=>?_,by simp[new],by simp[new],hV,hE,hl⟩
 · simp[new,Ar.new,Ar.isUsed]
 · simp[new,Md.new,Md.find,bU]
theorem len_used(h:s.Ok):s.A.used=s.L.length:=by
 rw[<-rG h.ar];have:=((List.perm_ext_iff_of_nodup (lA s.A) h.one).2 fun i=>by rw[iG,h.used];simp).length_eq;rw[List.length_map]at this;exact this
theorem chk_ok(_h:s.Ok){u v:Nat}(hc:s.chk u v=0):u≠v/\s.A.used<s.E/\s.M.L.length+s.more u v<=s.V:=by
 unfold chk at hc;split at hc
 · cases hc
 {
 split at hc
 · cases hc
 {
 split at hc
 · cases hc
 · exact⟨by assumption,by omega,by omega⟩}}
theorem slot_next(h:s.Ok){u v:Nat}(hc:s.chk u v=0):s.A.next=some s.slot:=by
 obtain⟨i,hi⟩:=yQ (A:=s.A) (by rw[h.sl];exact(chk_ok h hc).2.1);unfold slot;rw[hi];rfl
theorem fits_uv(h:s.Ok){u v:Nat}(hu:u<18446744073709551616)(hc:s.chk u v=0):aEG s.M u/\aEG (s.M.put u).M v:=by
 obtain⟨hne,_,hle⟩:=chk_ok h hc;unfold more at hle;have hs:=h.ms;have h1:aEG s.M u:=by {
 unfold aEG;by_cases hf:(s.M.find u).isSome=true
 · exact .inl hf
 · rw[qC hf]at hle;exact .inr (by omega)};obtain⟨_,p2,p3,_⟩:=lC h.md hu h1;refine⟨h1,?_⟩;unfold aEG;rw[p2,p3,jX];by_cases hf:(s.M.find v).isSome=true
 · exact .inl (.inl hf)
 {
 rw[qC hf]at hle;refine .inr ?_;omega}
theorem ok_ins(h:s.Ok){u v:Nat}(hu:u<18446744073709551616)(hv:v<18446744073709551616)(hc:s.chk u v=0)(hl:s.last+1<18446744073709551616)(wt t x:Int):(s.ins u v wt t x).Ok:=by
 obtain⟨hne,hlt,_⟩:=chk_ok h hc;have hn:=slot_next h hc;obtain⟨f1,f2⟩:=fits_uv h hu hc;obtain⟨hnu,hiff⟩:=Md.isUsed_alloc' h.ar hn;have hnew:∀e∈s.L,e.slot≠s.slot:=fun e he ee=>hnu ((h.used _).2 ⟨e,he,ee⟩);obtain⟨_,p2,_,_⟩:=lC h.md hu f1;have hok1:=Md.ok_put h.md hu;obtain⟨_,q2,_,_⟩:=lC hok1 hv f2;refine⟨Md.alloc_ok h.ar hn,(tZ _).trans h.sl,Md.ok_put hok1 hv,(jX _ _).trans ((jX _ _).trans h.ms),fun i=>?_,?_,?_,?_,fun id=>?_,?_,?_,h.leV,h.leE,hl⟩
 {
 simp only[ins];rw[hiff,h.used];simp only[qE,qH];constructor
 {
 rintro(⟨e,he,rfl⟩|rfl)
 · exact⟨e,.inl he,rfl⟩
 · exact⟨_,.inr rfl,rfl⟩}
 {
 rintro⟨e,he|rfl,rfl⟩
 · exact .inl ⟨e,he,rfl⟩
 · exact .inr rfl}}
 {
 simp only[ins,List.map_append,List.map_cons,List.map_nil,qN];refine⟨h.one,by simp,fun a ha b hb e=>?_⟩;simp only[qH]at hb;obtain⟨x,hx,rfl⟩:=qW.1 ha;exact hnew x hx (e.trans hb)}
 {
 simp only[ins];rw[List.pairwise_append];refine⟨h.seq,by simp,fun a ha b hb=>?_⟩;obtain rfl:=qH.1 hb;exact Nat.lt_succ_of_le (h.last a ha)}
 {
 intro e he;simp only[ins,qE,qH]at he;rcases he with he|rfl
 · exact Nat.le_succ_of_le (h.last e he)
 · exact qK _}
 {
 simp only[ins];rw[q2,p2,h.vert,wZ];have hat:(s.edge u v wt t x).at id=true↔u=id∨v=id:=by simp[Lv.at,edge]
 by_cases h1:(s.edge u v wt t x).at id=true
 {
 rw[qD h1];refine⟨fun _=>by simp,fun _=>?_⟩;rcases hat.1 h1 with e|e
 · exact .inl (.inr e.symm)
 · exact .inr e.symm}
 {
 rw[qC h1,List.append_nil];refine⟨fun h2=>?_,fun h2=>.inl (.inl h2)⟩;rcases h2 with(h2|h2)|h2
 · exact h2
 · exact absurd (hat.2 (.inl h2.symm)) h1
 · exact absurd (hat.2 (.inr h2.symm)) h1}}
 {
 intro e he;simp only[ins,qE,qH]at he;rcases he with he|rfl
 · exact h.ne e he
 · exact hne}
 {
 intro e he;simp only[ins,qE,qH]at he;rcases he with he|rfl
 · exact h.u64 e he
 · exact⟨hu,hv⟩}
theorem live_used(h:s.Ok){i:Nat}(hu:s.A.isUsed i):aF s.L i∈s.L/\(aF s.L i).slot=i:=by
 obtain⟨e,he,rfl⟩:=(h.used i).1 hu;rw[gB h.one he];exact⟨he,rfl⟩
theorem delIf_ok{M:Md}(h:M.Ok)(L:List Lv)(id:Nat):(delIf M L id).Ok:=by
 unfold delIf;split
 · exact Md.ok_del h id
 · exact h
theorem delIf_slots(M:Md)(L:List Lv)(id:Nat):(delIf M L id).slots=M.slots:=by
 unfold delIf;split
 · exact yR M id
 · rfl
theorem delIf_find{M:Md}(h:M.Ok)(L:List Lv)(id x:Nat):((delIf M L id).find x).isSome=true↔((M.find x).isSome=true/\(x=id->bU L id≠[])):=by
 unfold delIf;split
 {
 rename_i hn;rw[aLD h];refine and_congr_right fun _=>⟨fun h1 h2=>absurd h2 h1,fun h1 h2=>h1 h2 hn⟩}
 {
 rename_i hn;exact⟨fun h1=>⟨h1,fun _=>hn⟩,fun h1=>h1.1⟩}
theorem ok_rem(h:s.Ok){i:Nat}(hu:s.A.isUsed i):(s.rem i).Ok:=by
 obtain⟨hm,hs⟩:=live_used h hu;have hiff:=Md.isUsed_put' hu;have ho1:=delIf_ok h.md (s.L.filter fun e=>e.slot != i) (aF s.L i).u;refine⟨aIP h.ar hu,h.sl,delIf_ok ho1 _ _,?_,fun j=>?_,(List.Sublist.map _ List.filter_sublist).nodup h.one,h.seq.sublist List.filter_sublist,fun e he=>h.last e (zA.1 he).1,fun id=>?_,fun e he=>h.ne e (zA.1 he).1,fun e he=>h.u64 e (zA.1 he).1,h.leV,h.leE,h.lt⟩
 · simp only[rem,delIf_slots];exact h.ms
 {
 simp only[rem];rw[hiff,h.used];simp only[zA,bne_iff_ne];constructor
 · rintro⟨⟨e,he,rfl⟩,hj⟩;exact⟨e,⟨he,hj⟩,rfl⟩
 · rintro⟨e,⟨he,hj⟩,rfl⟩;exact⟨⟨e,he,rfl⟩,hj⟩}
 {
 simp only[rem];rw[delIf_find ho1,delIf_find h.md,h.vert];constructor
 {
 rintro⟨⟨h1,h2⟩,h3⟩;by_cases e1:id=(aF s.L i).u
 · rw[e1];exact h2 e1
 {
 by_cases e2:id=(aF s.L i).v
 · rw[e2];exact h3 e2
 {
 intro e3;apply h1;refine List.eq_nil_iff_forall_not_mem.2 fun k hk=>?_;rw[iW]at e3;have hki:k=i:=by {
 apply qQ;intro hne;have:k∈(bU s.L id).filter (· != i):=zA.2 ⟨hk,by simpa using hne⟩;rw[e3]at this;cases this};subst hki;obtain⟨e,he,hat,hes⟩:=eY.1 hk;have:e=aF s.L k:=by rw[<-hes,gB h.one he]
 subst this;unfold Lv.at at hat;simp only[Bool.or_eq_true,beq_iff_eq]at hat;rcases hat with hat|hat
 · exact e1 hat.symm
 · exact e2 hat.symm}}}
 {
 intro h1;refine⟨⟨fun e=>h1 ?_,fun e=>e▸h1⟩,fun e=>e▸h1⟩;rw[iW,e];rfl}}
end
end Sm
end Go.Proofs.YtjdgpcjbgjnahaaGreatDoor
namespace Go.Proofs.YtjdgpcjbgjnahaaGreatDoor
open Go.RowKit Go.Maps
def sS(ok:Value->Bool)(v:Value):Option (DataW Value×List MemPlace):=if ok v then some (.held v,[]) else none
theorem yS{ok:Value->Bool}{v:Value}(h:ok v=true):sS ok v=some (.held v,[]):=by simp[sS,h]
theorem oS{ok:Value->Bool}{v u:Value}{ps:List MemPlace}(h:sS ok v=some (.held u,ps)):v=u:=by
 unfold sS at h;split at h
 · simp only[qI,zE,DataW.held.injEq]at h;exact h.1
 · cases h
theorem nP{H:Type}{w:World}{P:Program}{k:TypeId}{R:Value->Option (DataW H×List MemPlace)}{b n:Nat}{D:DataW H}(h:w.ownsMap P k R b n D):w.ownsMap P k R b (Maps.size D) D:=by
 obtain⟨es,clock,hb,F,_,rfl⟩:=h;exact⟨es,clock,hb,F,by simp[Maps.size,length_sorted],rfl⟩
theorem yT{H:Type}{w w' :World}{P:Program}{k:TypeId}{R:Value->Option (DataW H×List MemPlace)}{b n:Nat}{D:DataW H}(h:w.ownsMap P k R b n D)(e:w'.heap[b]? =w.heap[b]?):w'.ownsMap P k R b n D:=by
 obtain⟨es,clock,hb,r⟩:=h;exact⟨es,clock,e.trans hb,r⟩
def jY(m:Int->Option Value)(a:Int)(v:Option Value):Int->Option Value:=fun x=>if x=a then v else m x
theorem cO(m:Int->Option Value)(a:Int)(v:Option Value):jY m a v a=v:=by simp[jY]
theorem bK{m:Int->Option Value}{a x:Int}{v:Option Value}(h:x≠a):jY m a v x=m x:=by simp[jY,h]
def dA(P:Program)(k:TypeId)(q:IntKind)(ok:Value->Bool)(w:World)(b:Nat)(m:Int->Option Value)(n:Nat):Prop:=
  ∃D:DataW Value,w.ownsMap P k (sS ok) b n D/\Tidy D/\Maps.size D=n /\
    ∀a:Int,(Lit.int q a).wf=true->(Maps.has D (.int q a)=(m a).isSome/\∀v,m a=some v->ok v=true/\∀z,D.atKey (.int q a) z=.held v)
section
variable {P:Program} {k t e:TypeId} {q:IntKind} {ok:Value->Bool} {w w' :World} {b n:Nat} {m:Int->Option Value}
theorem dA.same(h:dA P k q ok w b m n)(he:w'.heap[b]? =w.heap[b]?):dA P k q ok w' b m n:=by
 obtain⟨D,h1,h2⟩:=h;exact⟨D,yT h1 he,h2⟩
theorem dA.lt(h:dA P k q ok w b m n):b<w.heap.size:=by obtain⟨D,h1,_⟩:=h;exact h1.lt
theorem dA.made(w:World)(P:Program)(k:TypeId)(q:IntKind)(ok:Value->Bool):dA P k q ok (w.alloc (.map #[] 0)) w.heap.size (fun _=>none) 0:=
  ⟨_,World.ownsMap_made w P k (sS ok),tidy_empty,rfl,fun _ _=>⟨rfl,fun _ h=>by cases h⟩⟩
theorem dA.run_get(h:dA P k q ok w b m n)(hk:P.underlying k=some (.int q))(ht:P.underlying t=some (.map k e)){z:Value}(hz:(zeroValue e).run P w=.ok z w)(hzo:ok z=true){a:Int}(ha:(Lit.int q a).wf=true):
    (Instr.lookup t (.map (some b)) (.int q a) false).run P w=.ok ((m a).getD z) w:=by
 obtain⟨D,h1,h2,_,h3⟩:=h;obtain⟨v,ps,hr,hv⟩:=h1.lookup (int_keyed hk) ht hz (yS hzo) (keyOf_int_mk hk ha);rw[hr];cases hm:m a with
 | some u=>{
 rw[((h3 a ha).2 u hm).2]at hv;rw[oS hv];rfl}
 | none=>{
 have hn:=(h3 a ha).1;rw[hm]at hn;rw[atKey_of_not_has hn]at hv;rw[oS hv];rfl}
theorem dA.run_ok(h:dA P k q ok w b m n)(hk:P.underlying k=some (.int q))(ht:P.underlying t=some (.map k e)){z:Value}(hz:(zeroValue e).run P w=.ok z w)(hzo:ok z=true){a:Int}(ha:(Lit.int q a).wf=true):
    (Instr.lookup t (.map (some b)) (.int q a) true).run P w=.ok (.tuple #[(m a).getD z,.bool (m a).isSome]) w:=by
 obtain⟨D,h1,h2,_,h3⟩:=h;obtain⟨v,ps,hr,hv⟩:=h1.look_ok (int_keyed hk) ht hz (yS hzo) (keyOf_int_mk hk ha);rw[hr,(h3 a ha).1];cases hm:m a with
 | some u=>{
 rw[((h3 a ha).2 u hm).2]at hv;rw[oS hv];rfl}
 | none=>{
 have hn:=(h3 a ha).1;rw[hm]at hn;rw[atKey_of_not_has hn]at hv;rw[oS hv];rfl}
theorem Fr.of_turned(h:w.mapTurned w' b):Fr [b] w w' :=(Fr.refl [b] w).grown h.grown (fun k e=>.inl (by simp at e;simp[e]))
theorem nY(q:IntKind)(a:Int):WideAt.IsKeyLit (.int q a):=trivial
theorem dA.put(h:dA P k q ok w b m n)(hk:P.underlying k=some (.int q))(ht:P.underlying t=some (.map k e))(hn:n<maxLen){a:Int}(ha:(Lit.int q a).wf=true){v:Value}(hv:ok v=true):
    ∃w', (Instr.mapUpdate t (.map (some b)) (.int q a) v).run P w=.ok () w' /\ dA P k q ok w' b (jY m a (some v)) (if (m a).isSome then n else n+1)/\Fr [b] w w' :=by
 obtain⟨D,h1,h2,hs,h3⟩:=h;obtain⟨w', hr,h1', hT⟩:=h1.store (int_keyed hk) ht hn (keyOf_int_mk hk ha) (yS hv);refine⟨w', hr,⟨D.put (.int q a) (.held v),?_,h2.put (nY q a) _,?_,fun x hx=>?_⟩,Fr.of_turned hT⟩
 {
 have:=nP h1';rw[size_put h2,(h3 a ha).1,hs]at this;exact this}
 · rw[size_put h2,(h3 a ha).1,hs]
 {
 by_cases e:x=a
 {
 subst e;rw[cO];refine⟨has_put_same h2.isMap (nY q x) _,fun u hu=>?_⟩;cases hu;exact⟨hv,fun z=>atKey_put_same h2.isMap (nY q x) _ z⟩}
 {
 have hne:(Lit.int q x)≠.int q a:=fun h=>e (by injection h);rw[bK e,has_put_other hne];exact⟨(h3 x hx).1,fun u hu=>⟨((h3 x hx).2 u hu).1,fun z=>by rw[atKey_put_other hne];exact((h3 x hx).2 u hu).2 z⟩⟩}}
theorem dA.del(h:dA P k q ok w b m n)(hk:P.underlying k=some (.int q))(ht:P.underlying t=some (.map k e)){a:Int}(ha:(Lit.int q a).wf=true)(ty:TypeId):
    ∃w', (Builtin.delete_ #[t,k] ty #[.map (some b),.int q a]).run P w=.ok (.tuple #[]) w' /\ dA P k q ok w' b (jY m a none) (if (m a).isSome then n-1 else n)/\Fr [b] w w' :=by
 obtain⟨D,h1,h2,hs,h3⟩:=h;obtain⟨w', hr,h1', hT⟩:=h1.drop (int_keyed hk) ht (keyOf_int_mk hk ha) ty;have hsz:Maps.size (D.del (.int q a))=if (m a).isSome then n-1 else n:=by {
 have:=size_del (k:=.int q a) h2;rw[(h3 a ha).1,hs]at this;cases hm:(m a).isSome<;>rw[hm]at this<;>simp at this ⊢ <;> omega};refine⟨w', hr,⟨D.del (.int q a),?_,h2.del _,hsz,fun x hx=>?_⟩,Fr.of_turned hT⟩
 {
 have:=nP h1';rw[hsz]at this;exact this}
 {
 by_cases e:x=a
 {
 subst e;rw[cO];exact⟨has_del_same,fun u hu=>by cases hu⟩}
 {
 have hne:(Lit.int q x)≠.int q a:=fun h=>e (by injection h);rw[bK e,has_del_other hne];exact⟨(h3 x hx).1,fun u hu=>⟨((h3 x hx).2 u hu).1,fun z=>by rw[atKey_del_other hne];exact((h3 x hx).2 u hu).2 z⟩⟩}}
end
theorem sT{P:Program}{w:World}{ops:Array Oper}{rest:List Oper}{o:Oper}{act:Act}{Q:Exit->Act->World->Prop}(hg:o.guard=none)(mo x v:Operand)(t:TypeId)(hop:o.op=Op.mapUpdate t mo x v)
    {k e:TypeId} {q:IntKind} {ok:Value->Bool} {b n:Nat} {m:Int->Option Value} (h:dA P k q ok w b m n) (hk:P.underlying k=some (.int q)) (ht:P.underlying t=some (.map k e)) (hn:n<maxLen)
    (hm:act.eval mo=.map (some b)) (a:Int) (hx:act.eval x=.int q a) (ha:(Lit.int q a).wf=true) (u:Value) (hv:act.eval v=u) (hu:ok u=true)
    (hK:∀w', dA P k q ok w' b (jY m a (some u)) (if (m a).isSome then n else n+1)->Fr [b] w w' -> wpList P ops Q rest (act.put o.dst undef) w'):wpList P ops Q (o::rest) act w:=by
 refine wpList_plain hg fun K' hK' =>?_;obtain⟨w', hrun,r1,r2⟩:=h.put hk ht hn ha hu;unfold Oper.wp;simp[execOp,hop,hm,hx,hv,hrun,Result.andThen];exact hK' _ _ (hK w' r1 r2)
end Go.Proofs.YtjdgpcjbgjnahaaGreatDoor
