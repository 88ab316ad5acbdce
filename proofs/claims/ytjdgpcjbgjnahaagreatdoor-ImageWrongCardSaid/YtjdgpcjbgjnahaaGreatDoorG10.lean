/- store: Remove, what it does to the lists and to the vertices. -/
import Derived.Test.YtjdgpcjbgjnahaaGreatDoorG9
import Derived.Maps.RangeWalk
import Derived.Test.YtjdgpcjbgjnahaaGreatDoorG3
import Derived.Shelf.Sort.Plain
import Derived.Shelf.Lay
import Derived.Shelf.Small.Bits
import Derived.Ground.NamesProg
import Derived.Sort.OwnSortedInts
import Derived.Test.YtjdgpcjbgjnahaaGreatDoorG1
import Derived.Test.YtjdgpcjbgjnahaaGreatDoorG7
import Derived.Test.YtjdgpcjbgjnahaaGreatDoorG4
set_option maxRecDepth 10000
set_option maxHeartbeats 1600000
set_option linter.unusedSimpArgs false
set_option linter.unusedVariables false
/- forest: Expire. -/
namespace Go.Proofs.YtjdgpcjbgjnahaaGreatDoor
open Go.RowKit Classical
section
variable {w w' :World} {pf pl g ph mb S V n:Nat} {G:cW} {T T' :Nat->Prop} {key:Nat->Int} {l L:List Nat}
theorem aGJ{m:Nat}(hT:∀t,t≠m->(T t↔T' t)):jR (fZ G T) m none=fZ (bT G m none) T' :=by
 funext k
 by_cases hk:k=(m:Int)
 · subst hk;rw[cG,cU,bE];rfl
 {
 rw[bM hk];unfold fZ;by_cases h0:0<=k
 {
 have:k.toNat≠m:=by omega
 rw[aK this];simp only[hT _ this]}
 · simp only[h0,if_false]}
theorem aJU{m:Nat}:mQ (qOf G) m none=qOf (bT G m none):=by
 funext k
 by_cases hk:k=m
 · subst hk;rw[jH];simp[qOf,bE]
 · rw[fT hk];simp[qOf,aK hk]
theorem FB.gone(h:FB w pf pl g ph mb S V G T key n){m:Nat}{e:Nat×Nat×Int}(hm:G m=some e)(ht:¬T m){X:List Nat}(hf:Fr X w w')(h1:pf∉X)(h2:pl∉X)(h3:g∉X)(hI:cV Tryz.prog 3 .i64 okA w' mb (fZ (bT G m none) T) (n-1)):
    FB w' pf pl g ph mb S V (bT G m none) T key (n-1):=by
 have hms:=h.gw.slot _ _ hm;have e' :TE S (bT G m none) T=TE S G T:=tP (fun _=>Iff.rfl) (fun t ht' =>by rw[aK];rintro rfl;exact ht ht');have hc:gP S (fun s=>(bT G m none s).isSome=true)+1=gP S (fun s=>(G s).isSome=true):=tQ hms (by simp[hm]) (by simp[bE]) (fun x hx=>by rw[aK hx]);refine⟨hf.blk h.hd h1,?_,hI,h.gw.del m,⟨fun t c d y h4 h5=>?_,h.keys.vert⟩,?_,h.leS,h.leV,h.ne1,h.ne2,h.ne3,h.ne4,h.ne5⟩
 · rw[e'];exact h.lct.fr hf h2 h3
 {
 rw[aK (by rintro rfl;exact ht h5)]at h4;exact h.keys.slot t c d y h4 h5}
 · rw[h.cn,<-hc,Nat.add_sub_cancel]
theorem aQM(h:FAt w pf S V G L):Calls Tryz.prog 108 #[eO pf] w fun e w' =>e=.returned (.tuple #[.int .i64 ((oM G).getD 0:Nat),.bool (oM G).isSome])/\∃L', FAt w' pf S V (uU G) L' /\ Fr L w w' /\ ∀q∈L', q∈L∨w.heap.size<=q:=by
  obtain⟨pl,g,ph,mb,l,key,n,h1,hH,hD,rfl⟩:=h;have hlt:=h1.lt;have hllt:=hH.lt;have hS:=h1.leS;have hV:=h1.leV;have c3:=h1.hd.cell 3;simp only[zI,zJ]at c3;have HV:=qA (lI h1);have HP:=qA (aPF hH);have H:=qA h1;have HH:=qA (zH hD (zH hllt (zH hlt hH)));clear h1 hH hD hllt;go_enter Tryz.func108,Tryz.ntmps108
  go_wp2_with fail
  refine HV.out.mono ?_;rintro _ w ⟨rfl,rfl⟩;go_wp2_with fail
  refine HP.out.mono ?_;rintro _ w2 (⟨hn,rfl,hF2⟩|⟨hn,i,k,hq,hmin,rfl,l', hH2,hF2,hN2⟩)
  · have hz:∀s,G s=none:=by
      intro s;cases hs:G s with
      | none=>rfl
      | some e=>
        have:=H.out.cn;exact absurd (show(G s).isSome=true by simp[hs]) (aJF (S:=S) (P:=fun s=>(G s).isSome=true) (by omega) s (H.out.gw.slot s e hs))
    have hfst:=aGG hz;have hpop:uU G=G:=by unfold uU;rw[hfst]
    have HE:=qA (zH hfst (zH hpop hF2));clear hz hfst hpop hF2;go_wp2
    go_ret2;refine⟨by rw[HE.out.1];rfl,_,⟨pl,g,ph,mb,l,key,n,?_,?_,HH.out.1,rfl⟩,(HE.out.2.2.mono (by simp)).alloc _,fun q hq=>.inl hq⟩
    · rw[HE.out.2.1];exact H.out.fr0 (HE.out.2.2.alloc _)
    · rw[HE.out.2.1];exact HH.out.2.2.2.fr (HE.out.2.2.alloc _) (by simp)
  · obtain⟨ma,mz,hg⟩:∃ma mz,G i=some (ma,mz,k):=by
      unfold qOf at hq;cases hs:G i with
      | none=>rw[hs]at hq;cases hq
      | some e=>rw[hs]at hq;simp at hq;subst hq;exact⟨e.1,e.2.1,rfl⟩
    have hall:∀t a b z,G t=some (a,b,z)->¬bef z t k i:=fun t a b z ht hb=>hmin t z (by simp[qOf,ht]) hb;have hfst:=aED (m:=i) ⟨ma,mz,k,hg,hall⟩;have hpop:uU G=bT G i none:=by unfold uU;rw[hfst]
    have hdel:=aGB hg hall;have his:=H.out.gw.slot _ _ hg;have hq4:=HH.out.1;have hx1:pf∉l:=fun hm=>(hq4 _ hm).1 rfl;have hx2:pl∉l:=fun hm=>(hq4 _ hm).2.1 rfl;have hx3:g∉l:=fun hm=>(hq4 _ hm).2.2.1 rfl;have hx4:mb∉l:=fun hm=>(hq4 _ hm).2.2.2 rfl;have hF3:Fr l w (w2.alloc (.cells #[.int .i64 i,.int .i64 k] 223)):=hF2.alloc _;have hB3:=H.out.fr hF3 hx1 hx2 hx3 hx4;have hH3:=hH2.fr ((Fr.refl [] w2).alloc (.cells #[.int .i64 i,.int .i64 k] 223)) (by simp);have hbx:=Blk.new w2 [.int .i64 i,.int .i64 k] 223;have hsz:=hF2.size;rw[aJU]at hH3;have c4:=hB3.hd.cell 4;have x0:=hbx.cell 0;simp only[zI,zJ]at c4 x0;have hl0:=hB3.edges.run_get (t:=150) (e:=184) (z:=edZ) Tryz.underlying3 Tryz.underlying150 (by kernel_rfl) rfl (gG (s:=i) (by omega));rw[cU,hg]at hl0
    have fin:Hid (∀(T:Nat->Prop) (w4 w5:World),(∀t,T t↔aP (bT G i none) t)->FB w4 pf pl g ph mb S V G T key n->Fr [pf,pl,g,mb] (w2.alloc (.cells #[.int .i64 i,.int .i64 k] 223)) w4->Fr [mb] w4 w5->cV Tryz.prog 3 .i64 okA w5 mb (fZ (bT G i none) T) (n-1) ->
        ∃L', FAt w5 pf S V (uU G) L' /\ Fr (pf::pl::g::mb::l) w w5/\∀q∈L', q∈pf::pl::g::mb::l∨w.heap.size<=q):=qA (fun T w4 w5 hT hB4 hF4 hF5 hI=>by
      have hn:¬T i:=fun h=>by obtain⟨_,_,_,e,_⟩:=(hT i).1 h;rw[bE]at e;cases e
      have hB5:=(hB4.gone hg hn hF5 (by simp;exact hB4.ne3) (by simp;exact hB4.ne4) (by simp;exact hB4.ne5) hI).congrT hT;have hF35:Fr [pf,pl,g,mb] (w2.alloc (.cells #[.int .i64 i,.int .i64 k] 223)) w5:=hF4.trans' (hF5.mono (fun q hq=>.inl (by simp at hq ⊢;exact .inr (.inr (.inr hq)))));have hd:∀q∈l', q≠pf/\q≠pl/\q≠g/\q≠mb:=by
        intro q hq;rcases hN2 _ hq with e|e
        · exact hq4 _ e
        · have:=HH.out.2.2.1;omega
      rw[hpop];refine⟨_,⟨pl,g,ph,mb,l', key,n-1,hB5,hH3.fr hF35 (fun q hq hm=>by have:=hd q hq;simp at hm;omega),hd,rfl⟩,(hF3.mono (fun q hq=>.inl (by simp[hq]))).trans' (hF35.mono (fun q hq=>.inl (by simp at hq ⊢;omega))),fun q hq=>?_⟩;simp only[qB]at hq ⊢;rcases hq with e|e|e|e|e
      · exact .inl (.inl e)
      · exact .inl (.inr (.inl e))
      · exact .inl (.inr (.inr (.inl e)))
      · exact .inl (.inr (.inr (.inr (.inl e))))
      · exact(hN2 _ e).imp (fun e=>.inr (.inr (.inr (.inr e)))) id)
    have del:Hid (∀(T:Nat->Prop) (w4:World),FB w4 pf pl g ph mb S V G T key n->∃w5,(Builtin.delete_ #[150,3] 0 #[.map (some mb),.int .i64 i]).run Tryz.prog w4=.ok (.tuple #[]) w5/\cV Tryz.prog 3 .i64 okA w5 mb (fZ (bT G i none) T) (n-1)/\Fr [mb] w4 w5):=qA (fun T w4 hB4=>by
      obtain⟨w5,hr,hI,hF⟩:=hB4.edges.del (t:=150) (e:=184) Tryz.underlying3 Tryz.underlying150 (gG (s:=i) (by omega)) 0;rw[cU,hg,aGJ (fun _ _=>Iff.rfl)]at hI;exact⟨w5,hr,hI,hF⟩)
    have HE:=qA (zH hfst (zH hdel (zH hB3 (zH hbx hsz))));have HF3:=qA hF3;have HH3:=qA hH3;have HG:=qA hg;have HLo:=qA (fun(w' :World) (h:FB w' pf pl g ph mb S V G (aP G) key n) (ht:aP G i)=>aAH h hg ht);clear hfst hpop hdel hB3 hbx hF3 hH3 hH2 hF2 hN2 hq hmin hall hx1 hx2 hx3 hx4 hq4 c3 hg;by_cases ht:aP G i
    · have HT := qA ht; clear ht
      have HL:=qA (fun(nq:Nat)=>(show(Instr.lookup 150 (.map (some mb)) (.int .i64 i) false).run Tryz.prog ((w2.alloc (.cells #[.int .i64 i,.int .i64 k] 223)).drewN nq)=.ok (.agg #[.int .i64 ma,.int .i64 mz,.int .i64 k,.bool true]) ((w2.alloc (.cells #[.int .i64 i,.int .i64 k] 223)).drewN nq) by
        have:=(HE.out.2.2.1.fr0 ((Fr.refl [] _).drewN nq)).edges.run_get (t:=150) (e:=184) (z:=edZ) Tryz.underlying3 Tryz.underlying150 (by kernel_rfl) rfl (gG (s:=i) (by omega));rw[cU,HG.out]at this;have ht:=HT.out;simpa only[Option.map_some,Option.getD_some,ht,decide_true,decide_false,edV] using this))
      clear hl0;go_wp2_with fail
      refine dU (fun w' =>∃nq,w' =(w2.alloc (.cells #[.int .i64 i,.int .i64 k] 223)).drewN nq) (by kernel_rfl) (by kernel_rfl) ⟨1,rfl⟩ ?_;iterate 3 (refine aN (by kernel_rfl) (fun KK hK=>?_);go_simp;refine hK.out _ ?_;clear hK KK)
      refine bV (by kernel_rfl) (.map (some mb)) (fun w' hw' =>?_) ?_
      · obtain ⟨nq, rfl⟩ := hw'
        go_simp
      iterate 1 (refine aN (by kernel_rfl) (fun KK hK=>?_);go_simp;refine hK.out _ ?_;clear hK KK)
      refine bV (by kernel_rfl) (.int .i64 i) (fun w' hw' =>?_) ?_
      · obtain ⟨nq, rfl⟩ := hw'
        go_simp
      refine bV (by kernel_rfl) (.agg #[.int .i64 ma,.int .i64 mz,.int .i64 k,.bool true]) (fun w' hw' =>?_) ?_
      · obtain ⟨nq, rfl⟩ := hw'
        have hl:=HL.out nq;go_simp
      iterate 1 (refine aN (by kernel_rfl) (fun KK hK=>?_);go_simp;refine hK.out _ ?_;clear hK KK)
      refine iN ?_;rintro w4 ⟨nq,rfl⟩;go_wp2_with fail
      refine(HLo.out _ (HE.out.2.2.1.fr0 ((Fr.refl [] _).drewN nq)) HT.out).mono ?_;rintro _ w4 ⟨rfl,hB4,hF4'⟩;have hF4:Fr [pf,pl,g,mb] (w2.alloc (.cells #[.int .i64 i,.int .i64 k] 223)) w4:=((Fr.refl _ _).drewN nq).trans' hF4';have hpf4:=hB4.hd;have hbx4:=hF4.blk HE.out.2.2.2.1 (by have N:=HH.out.2.2.1;have hsz:=HE.out.2.2.2.2;simp;omega);clear hF4' c4 x0;go_wp2_with fail
      have HX:=qA (zH hB4 (zH hF4 (zH hpf4 hbx4)));have x0:=hbx4.cell 0;have c4:=hpf4.cell 4;simp only[zI,zJ]at x0 c4;clear hB4 hF4 hpf4 hbx4;refine bF 6 (fun w' =>cV Tryz.prog 3 .i64 okA w' mb (fZ (bT G i none) (fun t=>aP G t/\t≠i)) (n-1)/\Fr [mb] w4 w') (by kernel_rfl) (by kernel_rfl) (by kernel_rfl) ?_;iterate 6 (refine bO (by decide) (fun K hK=>?_);go_simp;refine hK _ ?_;clear hK K)
      refine aW rfl (.tuple #[]) (fun w' hw' =>?_) ?_
      · obtain ⟨nq, rfl⟩ := hw'
        obtain⟨w6,hrun,hI6,hF6⟩:=del.out _ _ (HX.out.1.fr0 ((Fr.refl [] _).drewN nq));go_simp
        first
          | exact⟨hI6,(((Fr.refl [mb] w4).drewN nq)).trans' hF6⟩
          | exact(((Fr.refl [mb] w4).drewN nq)).trans' hF6
      refine bP ?_;rintro w6 ⟨hI6,hF6⟩;have N:=HH.out.2.2.1;have hsz:=HE.out.2.2.2.2;have hbx6:=hF6.blk HX.out.2.2.2 (by simp;omega);have x0:=hbx6.cell 0;simp only[zI]at x0;have HI6:=qA (zH hI6 hF6);clear hI6 hF6 hbx6 c4;go_wp2
      go_ret2;exact⟨by rw[HE.out.1];rfl,fin.out _ _ _ (fun t=>(HE.out.2.1 t).symm) HX.out.1 HX.out.2.1 HI6.out.2 HI6.out.1⟩
    · have HT := qA ht; clear ht
      have HL:=qA (fun(nq:Nat)=>(show(Instr.lookup 150 (.map (some mb)) (.int .i64 i) false).run Tryz.prog ((w2.alloc (.cells #[.int .i64 i,.int .i64 k] 223)).drewN nq)=.ok (.agg #[.int .i64 ma,.int .i64 mz,.int .i64 k,.bool false]) ((w2.alloc (.cells #[.int .i64 i,.int .i64 k] 223)).drewN nq) by
        have:=(HE.out.2.2.1.fr0 ((Fr.refl [] _).drewN nq)).edges.run_get (t:=150) (e:=184) (z:=edZ) Tryz.underlying3 Tryz.underlying150 (by kernel_rfl) rfl (gG (s:=i) (by omega));rw[cU,HG.out]at this;have ht:=HT.out;simpa only[Option.map_some,Option.getD_some,ht,decide_true,decide_false,edV] using this))
      clear hl0;go_wp2_with fail
      refine dU (fun w' =>∃nq,w' =(w2.alloc (.cells #[.int .i64 i,.int .i64 k] 223)).drewN nq) (by kernel_rfl) (by kernel_rfl) ⟨1,rfl⟩ ?_;iterate 3 (refine aN (by kernel_rfl) (fun KK hK=>?_);go_simp;refine hK.out _ ?_;clear hK KK)
      refine bV (by kernel_rfl) (.map (some mb)) (fun w' hw' =>?_) ?_
      · obtain ⟨nq, rfl⟩ := hw'
        go_simp
      iterate 1 (refine aN (by kernel_rfl) (fun KK hK=>?_);go_simp;refine hK.out _ ?_;clear hK KK)
      refine bV (by kernel_rfl) (.int .i64 i) (fun w' hw' =>?_) ?_
      · obtain ⟨nq, rfl⟩ := hw'
        go_simp
      refine bV (by kernel_rfl) (.agg #[.int .i64 ma,.int .i64 mz,.int .i64 k,.bool false]) (fun w' hw' =>?_) ?_
      · obtain ⟨nq, rfl⟩ := hw'
        have hl:=HL.out nq;go_simp
      iterate 1 (refine aN (by kernel_rfl) (fun KK hK=>?_);go_simp;refine hK.out _ ?_;clear hK KK)
      refine iN ?_;rintro w4 ⟨nq,rfl⟩;go_wp2_with fail
      have hF4:Fr [pf,pl,g,mb] (w2.alloc (.cells #[.int .i64 i,.int .i64 k] 223)) ((w2.alloc (.cells #[.int .i64 i,.int .i64 k] 223)).drewN nq):=(Fr.refl _ _).drewN nq;have hB4:=HE.out.2.2.1.fr0 ((Fr.refl [] _).drewN nq);have hbx4:=(Fr.refl [] _).drewN nq |>.blk HE.out.2.2.2.1 (by simp)
      generalize (w2.alloc (.cells #[.int .i64 i,.int .i64 k] 223)).drewN nq=w4 at *;have hpf4:=hB4.hd;clear c4 x0;have HX:=qA (zH hB4 (zH hF4 (zH hpf4 hbx4)));have x0:=hbx4.cell 0;have c4:=hpf4.cell 4;simp only[zI,zJ]at x0 c4;clear hB4 hF4 hpf4 hbx4;refine bF 6 (fun w' =>cV Tryz.prog 3 .i64 okA w' mb (fZ (bT G i none) (aP G)) (n-1)/\Fr [mb] w4 w') (by kernel_rfl) (by kernel_rfl) (by kernel_rfl) ?_;iterate 6 (refine bO (by decide) (fun K hK=>?_);go_simp;refine hK _ ?_;clear hK K)
      refine aW rfl (.tuple #[]) (fun w' hw' =>?_) ?_
      · obtain ⟨nq, rfl⟩ := hw'
        obtain⟨w6,hrun,hI6,hF6⟩:=del.out _ _ (HX.out.1.fr0 ((Fr.refl [] _).drewN nq));go_simp
        first
          | exact⟨hI6,(((Fr.refl [mb] w4).drewN nq)).trans' hF6⟩
          | exact(((Fr.refl [mb] w4).drewN nq)).trans' hF6
      refine bP ?_;rintro w6 ⟨hI6,hF6⟩;have N:=HH.out.2.2.1;have hsz:=HE.out.2.2.2.2;have hbx6:=hF6.blk HX.out.2.2.2 (by simp;omega);have x0:=hbx6.cell 0;simp only[zI]at x0;have HI6:=qA (zH hI6 hF6);clear hI6 hF6 hbx6 c4;go_wp2
      go_ret2;exact⟨by rw[HE.out.1];rfl,fin.out _ _ _ (fun t=>((HE.out.2.1 t).trans ⟨fun h=>h.1,fun h=>⟨h,by rintro rfl;exact HT.out h⟩⟩).symm) HX.out.1 HX.out.2.1 HI6.out.2 HI6.out.1⟩
end
end Go.Proofs.YtjdgpcjbgjnahaaGreatDoor
namespace Go.Proofs.YtjdgpcjbgjnahaaGreatDoor
open Go.RowKit Go.Maps
def kE(P:Program)(k:TypeId)(q:IntKind)(ok:Value->Bool)(w:World)(b r:Nat)(m:Int->Option Value)(n:Nat)(done:List Int)(cnt:Nat):Prop:=
  ∃(D:DataW Value) (left:Lit->Bool),w.ranges P k (sO ok) b r n D left cnt/\Tidy D/\Maps.size D=n /\
    (∀a:Int,(Lit.int q a).wf=true->(Maps.has D (.int q a)=(m a).isSome/\∀v,m a=some v->ok v=true/\∀z,D.atKey (.int q a) z=.held v)) /\
    done.Nodup/\(∀x∈done,(Lit.int q x).wf=true/\(m x).isSome=true)/\(∀x,(Lit.int q x).wf=true->(left (.int q x)=true↔(m x).isSome=true/\x∉done))
section
variable {P:Program} {k t e:TypeId} {q:IntKind} {ok:Value->Bool} {w w' :World} {b r n cnt:Nat} {m:Int->Option Value} {done:List Int}
theorem kE.fr{S:List Nat}(h:kE P k q ok w b r m n done cnt)(hf:Fr S w w')(hb:b∉S)(hr:r∉S):kE P k q ok w' b r m n done cnt:=by
 obtain⟨D,left,h1,h2⟩:=h;refine⟨D,left,?_,h2⟩;have l1:=h1.owns.lt;have l2:=h1.lt;obtain⟨es,clock,since,seen,c0,hb', F,hs,hD,hr', rest⟩:=h1;exact⟨es,clock,since,seen,c0,(hf.keep b l1 hb).trans hb', F,hs,hD,(hf.keep r l2 hr).trans hr', rest⟩
theorem kE.left_eq(h:kE P k q ok w b r m n done cnt):w.rangeLeft b r=cnt:=by
 obtain⟨D,left,h1,_⟩:=h;exact h1.left_eq
variable {ops:Array Oper} {rest:List Oper} {o:Oper} {a:Act} {Q:Exit->Act->World->Prop}
theorem uV(hg:o.guard=none)(mo:Operand)(hop:o.op=Op.range t mo)(h:cV P k q ok w b m n)(hk:P.underlying k=some (.int q))(ht:P.underlying t=some (.map k e))
    (hm:a.eval mo=.map (some b)) (hK:∀w' cnt,kE P k q ok w' b w.heap.size m n [] cnt->cnt<=n->Fr [] w w' -> w'.heap.size=w.heap.size+1->wpList P ops Q rest (a.put o.dst (.pointer (some ⟨w.heap.size,0,none⟩))) w'):
    wpList P ops Q (o::rest) a w:=by
 obtain⟨D,h1,h2,h3,h4⟩:=h;refine wpList_range_own w hg mo t hop k e (int_keyed hk) ht (sO ok) b n D hm h1 fun w' hr hgw hs=>?_;refine hK w' _ ⟨D,Maps.has D,hr,h2,h3,h4,.nil,(fun x hx=>by cases hx),fun x hx=>?_⟩ (by rw[h3];exact qJ _) ((Fr.refl _ _).grown hgw (fun k e=>by cases e)) hs;rw[(h4 x hx).1];simp
theorem xT(hg:o.guard=none)(it:Operand)(hop:o.op=Op.next it false)(hk:P.underlying k=some (.int q))(hit:a.eval it=.pointer (some ⟨r,0,none⟩))(h:kE P k q ok w b r m n done cnt)
    (hDone:(∀x,(Lit.int q x).wf=true->(m x).isSome=true->x∈done)->wpList P ops Q rest (a.put o.dst (.tuple #[.bool false])) w)
    (hMore:∀(x:Int) (c:Value) (w' :World) (cnt' :Nat),(Lit.int q x).wf=true->m x=some c->x∉done->kE P k q ok w' b r m n (done++[x]) cnt' -> cnt' < cnt->Fr [r] w w' -> w'.heap.size=w.heap.size ->
      (Instr.entry (.pointer (some ⟨r,0,none⟩))).run P w' =.ok (.tuple #[.int q x,c]) w' -> wpList P ops Q rest (a.put o.dst (.tuple #[.bool true,.int q x,c])) w'):
    wpList P ops Q (o::rest) a w:=by
 obtain⟨D,left,h1,h2,h3,h4,h5,h6,h7⟩:=h
 refine wpList_next_ranges w hg it hop k (int_keyed hk) (sO ok) (Value.int q) (fun (c : Value) => c) (fun key kl hkey => by obtain ⟨x, rfl, _⟩ := Maps.keyOf_int_inv hk hkey; exact ⟨x, rfl⟩) (fun v y _ => ⟨v, rfl⟩) b r n D left cnt hit h1
   (fun _ hl=>hDone fun x hx hs=>qP fun hn=>by have:=(h7 x hx).2 ⟨hs,hn⟩;rw[hl]at this;cases this) ?_
 intro x c kl y w' cnt' hkey hlk hv hat hrg hlt hgr hsz hen;obtain⟨x', ex,rfl,hw⟩:=Maps.keyOf_int_inv hk hkey;cases ex;obtain⟨hsome,hnd⟩:=(h7 x hw).1 hlk;obtain⟨u,hu⟩:=qU.1 hsome;have hcu:c=u:=by {
 have e1:=hat (.held undef);rw[((h4 x hw).2 u hu).2]at e1;unfold sO at hv;split at hv
 · cases hv;simpa using e1.symm
 · cases hv};subst hcu;refine hMore x c w' cnt' hw hu hnd ⟨D,_,hrg,h2,h3,h4,?_,fun z hz=>?_,fun z hz=>?_⟩ hlt ((Fr.refl _ _).grown hgr (fun k e=>.inl (by simp at e;simp[e]))) hsz hen
 · exact qM.2 ⟨h5,by simp,by rintro a ha b hb rfl;simp at hb;subst hb;exact hnd ha⟩
 {
 rcases qE.1 hz with hz|hz
 · exact h6 z hz
 · simp at hz;subst hz;exact⟨hw,hsome⟩}
 {
 have e:(Lit.int q z).sameKey (.int q x)=decide (z=x):=by simp[Lit.sameKey]
 show(left (.int q z)&&!(Lit.int q z).sameKey (.int q x))=true↔_
 rw[e,qW,h7 z hz];simp only[qE,qH,not_or,Bool.not_eq_true', decide_eq_false_iff_not,and_assoc]}
end
end Go.Proofs.YtjdgpcjbgjnahaaGreatDoor
namespace Go.Proofs.YtjdgpcjbgjnahaaGreatDoor
open Go.RowKit Go.Sort
end Go.Proofs.YtjdgpcjbgjnahaaGreatDoor
namespace Go.Proofs.YtjdgpcjbgjnahaaGreatDoor
open Go.RowKit Classical
section
variable {w w' :World} {pf pl g ph mb S V n:Nat} {G:cW} {key:Nat->Int}
end
def aAK(S v:Nat):Nat->Int:=fun u=>if S<=u/\u<S+v then 9223372036854775807 else 0
theorem aGK(S:Nat):aAK S 0=fun _=>0:=by funext u;unfold aAK;rw[qC (by omega)]
theorem aGL{S V v:Nat}(h:v<V):eK (S+V) (aAK S v) ((S:Int)+v) 9223372036854775807=aAK S (v+1):=by
 funext u
 unfold eK aAK;by_cases hu:u=((S:Int)+v).toNat
 · rw[qD ⟨by simp[inV];omega,hu⟩,qD (by omega)]
 {
 rw[qC (fun h=>hu h.2)];by_cases h2:S<=u/\u<S+v
 · rw[qD h2,qD (by omega)]
 · rw[qC h2,qC (by omega)]}
theorem aQN(V S:Nat)(w:World)(hV:V<=4096)(hS:S<=16384):
    Calls Tryz.prog 86 #[.int .i64 V,.int .i64 S] w fun r w' =>∃pf,r=.returned (.tuple #[eO pf,.int .i64 0])/\∃L,FAt w' pf S V (fun _=>none) L/\Fr [] w w' /\ ∀q∈L,w.heap.size<=q:=by
 have d1:decide ((V:Int)<0)=false:=qF (by omega);have d2:decide ((V:Int)>4096)=false:=qF (by omega);have d3:decide ((S:Int)<0)=false:=qF (by omega);have d4:decide ((S:Int)>16384)=false:=qF (by omega);have d2' :¬4096<V:=by omega
 have d4' :¬16384<S:=by omega
 have hw1:IntKind.i64.wrap ((S:Int)+V)=((S+V:Nat):Int):=by rw[show(S:Int)+V=((S+V:Nat):Int) by omega];exact zF _ (by omega)
 have hmk:∀W:World,(Instr.makeMap 150 none).run Tryz.prog W=.ok (.map (some W.heap.size)) (W.alloc (.map #[] 0)):=fun W=>by kernel_rfl
 have HL:=qA (aSV (S+V) w (by omega));have HHn:=qA (fun(w' :World)=>aJO S w' (by omega));go_enter Tryz.func86,Tryz.ntmps86
 go_wp2_with (go_at_call 130;refine HL.out.mono ?_;rintro _ w1 ⟨pl,g,rfl,hL1,hF1,hp1,hg1⟩)
 have H1:=qA (zH hL1 (zH hF1 (zH hp1 hg1)));clear hL1 hF1 hp1 hg1 HL;go_loopw [35] (fun x wr=>∃v:Nat,v<=V/\x=.int .i64 v/\Hid (LM wr pl g (S+V) (fun _ _=>False) (aAK S v)/\Fr [] w wr)) (fun x _=>V-(intOf x).toNat)
 case atStart=>exact⟨0,qR _,rfl,qA ⟨by rw[aGK];exact H1.out.1,H1.out.2.1⟩⟩
 case round=>
  obtain⟨v,hv,rfl,HR⟩:=hrel;by_cases hlt:v<V
  {
  have hlt' :(v:Int)<V:=by omega
  have SW:=aPG HR.out.1 ((S:Int)+v) 9223372036854775807;rw[aGL hlt]at SW;have HS:=qA SW;clear SW;have hw2:IntKind.i64.wrap ((S:Int)+v)=(S:Int)+v:=zF _ (by omega);have hw3:IntKind.i64.wrap ((v:Int)+1)=((v+1:Nat):Int):=by rw[show(v:Int)+1=((v+1:Nat):Int) by omega];exact zF _ (by omega)
  go_wp2_with (go_at_call 131;refine HS.out.mono ?_;rintro _ w2 ⟨rfl,hL2,hF2⟩)
  go_roundw
  case rel=>exact⟨v+1,by omega,rfl,qA ⟨hL2,HR.out.2.trans hF2 (fun q hq=>.inr (by simp at hq;subst hq;exact H1.out.2.2.2))⟩⟩
  case measure=>simp[intOf];omega}
  {
  obtain rfl:v=V:=by omega
  have HN:=qA (HHn.out wr);go_wp2_with (go_at_call 129;refine HN.out.mono ?_;rintro _ w3 ⟨ph,rfl,l,hH3,hF3,hN3⟩)
  go_ret2;have hn:∀t,¬aP (fun _=>none) t:=by rintro t ⟨_,_,_,e,_⟩;cases e
  have hc0:gP S (aP fun _=>none)=0:=by rw[nN (T' :=fun _=>False) (fun t=>⟨hn t,False.elim⟩),vR]
  have hb:=Blk.new (w3.alloc (.map #[] 0)) [.int .i64 v,.int .i64 S,eO pl,aS ph,.map (some w3.heap.size),.int .i64 0] 152;have hm:=cV.made w3 Tryz.prog 3 .i64 okA;have hf:Fr [] wr ((w3.alloc (.map #[] 0)).alloc (.cells [.int .i64 v,.int .i64 S,eO pl,aS ph,.map (some w3.heap.size),.int .i64 0].toArray 152)):=(hF3.alloc _).alloc _;have hl:=(LG.lts HR.out.1);have hsz:=hF3.size;have hsr:=HR.out.2.size;have hw1s:=H1.out.2.1.size;have hf2:Fr [] w3 ((w3.alloc (.map #[] 0)).alloc (.cells [.int .i64 v,.int .i64 S,eO pl,aS ph,.map (some w3.heap.size),.int .i64 0].toArray 152)):=((Fr.refl _ _).alloc _).alloc _;refine⟨w3.heap.size+1,rfl,_,⟨pl,g,ph,w3.heap.size,l,aAK S v,0,⟨?_,?_,?_,GW.no S v,⟨fun _ _ _ _ h=>(by cases h),fun u hu=>?_⟩,?_,hS,hV,?_,?_,?_,?_,?_⟩,?_,?_,rfl⟩,HR.out.2.trans hf (by simp),?_⟩
  · rw[hc0];simpa using hb
  · rw[aMY];exact LG.fr HR.out.1 hf (by simp) (by simp)
  {
  have e:fZ (fun _=>none) (aP fun _=>none)=fun _=>none:=by funext k;unfold fZ;split<;>rfl
  rw[e];exact(hm.same (Below.heap_alloc _ _ _ (by simp)))}
  · unfold aAK;rw[qD (by omega)]
  · rw[nN (T' :=fun _=>False) (fun t=>by simp),vR]
  · have:=hl.1;omega
  · have:=hl.2.1;omega
  · omega
  · have:=hl.1;omega
  · have:=hl.2.1;omega
  · exact hH3.fr hf2 (by simp)
  {
  intro b hb;have h1:=hN3 b hb;have h2:=hH3.lt b hb;have:=hl.1;have:=hl.2.1;omega}
  {
  intro q hq;simp only[qB]at hq;have h1:=H1.out.2.2;rcases hq with rfl|rfl|rfl|rfl|hq
  · omega
  · exact h1.1
  · exact h1.2
  · omega
  · have:=hN3 q hq;omega}}
structure FO (w wr:World) (pf S V:Nat) (G:cW) (L:List Nat):Prop where
  f:FAt wr pf S V G L
  fr:Fr [] w wr
  new:∀q∈L,w.heap.size<=q
def FM(w wr w' :World)(pf S V:Nat)(G:cW)(L:List Nat):Prop:=∃L', FO w w' pf S V G L' /\ Fr L wr w' /\ ∀q∈L', q∈L∨wr.heap.size<=q
section
variable {w wr w' :World} {pf S V:Nat} {G G' :cW} {L L' :List Nat}
theorem FO.next(h:FO w wr pf S V G L)(h1:FAt w' pf S V G' L')(h2:Fr L wr w')(h3:∀q∈L', q∈L∨wr.heap.size<=q):FM w wr w' pf S V G' L:=
  ⟨L', ⟨h1,h.fr.trans h2 (fun q hq=>.inr (h.new q hq)),fun q hq=>(h3 q hq).elim (h.new q) (fun e=>zG h.fr.size e)⟩,h2,h3⟩
theorem FO.keep(h:FO w wr pf S V G L){X:List Nat}(hf:Fr X wr w')(hx:∀b∈L,b∉X)(hw:∀b∈X,w.heap.size<=b):FO w w' pf S V G L:=
  ⟨h.f.fr hf hx,h.fr.trans hf (fun q hq=>.inr (hw q hq)),h.new⟩
theorem FO.keep0(h:FO w wr pf S V G L)(hf:Fr [] wr w'):FO w w' pf S V G L:=h.keep hf (by simp) (by simp)
theorem FO.self(h:FO w wr pf S V G L)(h2:Fr [] wr w'):FM w wr w' pf S V G L:=⟨L,h.keep0 h2,h2.mono (by simp),fun _ hq=>.inl hq⟩
theorem aQO(h:FO w wr pf S V G L)(s a b x:Int)(hx:-9223372036854775808<=x/\x<=9223372036854775807):
    Calls Tryz.prog 138 #[eO pf,.int .i64 s,.int .i64 a,.int .i64 b,.int .i64 x] wr fun e w' =>e=.returned (.int .i64 (eE S V G s a b))/\FM w wr w' pf S V (rQ S V G s a b x) L:=by
 by_cases h1:inV S s=true/\inV V a=true/\inV V b=true
 {
 obtain⟨s,rfl,hs⟩:=dX h1.1;obtain⟨a,rfl,ha⟩:=dX h1.2.1;obtain⟨b,rfl,hb⟩:=dX h1.2.2;by_cases hab:a=b
 {
 have e1:eE S V G s a b=9:=by unfold eE;rw[qD h1,qD (by omega)]
 have e2:rQ S V G s a b x=G:=by unfold rQ;rw[e1,qC (by omega)]
 rw[e1,e2];obtain⟨pl,g,ph,mb,l,key,n,hB,_⟩:=id h.f;refine(aEN hB hs ha hb x (.inl hab)).mono ?_;rintro e w' ⟨rfl,hf⟩;exact⟨by rw[qD hab],h.self hf⟩}
 {
 cases hg:G s with
 | some e=>{
 have e1:eE S V G s a b=6:=by unfold eE;rw[qD h1,qC (by omega),zC,hg];rfl
 have e2:rQ S V G s a b x=G:=by unfold rQ;rw[e1,qC (by omega)]
 rw[e1,e2];obtain⟨pl,g,ph,mb,l,key,n,hB,_⟩:=id h.f;refine(aEN hB hs ha hb x (.inr ⟨hab,by rw[hg];rfl⟩)).mono ?_;rintro e w' ⟨rfl,hf⟩;exact⟨by rw[qC hab],h.self hf⟩}
 | none=>{
 have e1:eE S V G s a b=0:=by unfold eE;rw[qD h1,qC (by omega),zC,hg];rfl
 have e2:rQ S V G s a b x=bT G s (some (a,b,x)):=by unfold rQ;rw[e1,qD rfl];simp
 rw[e1,e2];refine(aJT h.f hs ha hb hab hg x hx).mono ?_;rintro e w' ⟨rfl,L', h2,h3,h4⟩;exact⟨rfl,h.next h2 h3 h4⟩}}}
 {
 have e1:eE S V G s a b=3:=by unfold eE;rw[qC h1]
 have e2:rQ S V G s a b x=G:=by unfold rQ;rw[e1,qC (by omega)]
 rw[e1,e2];obtain⟨pl,g,ph,mb,l,key,n,hB,_⟩:=id h.f;refine(aJR hB s a b x h1).mono ?_;rintro e w' ⟨rfl,rfl⟩;exact⟨rfl,h.self (Fr.refl _ _)⟩}
theorem aQP(h:FO w wr pf S V G L):Calls Tryz.prog 108 #[eO pf] wr fun e w' =>e=.returned (.tuple #[.int .i64 ((oM G).getD 0:Nat),.bool (oM G).isSome])/\FM w wr w' pf S V (uU G) L:=by
 refine(aQM h.f).mono ?_;rintro e w' ⟨rfl,L', h2,h3,h4⟩;exact⟨rfl,h.next h2 h3 h4⟩
end
end Go.Proofs.YtjdgpcjbgjnahaaGreatDoor
namespace Go.Proofs.YtjdgpcjbgjnahaaGreatDoor
open Go.RowKit
theorem aEO{M:Md}(hok:M.Ok){id:Nat}(hid:id<18446744073709551616)(hf:aBX M id){iv:Int->Option Value}{f:List Nat}(h1:(iv id).isSome=true↔f≠[])(h2:(M.find id).isSome=true↔f≠[]):
    (if (iv id).isSome=true then M.L.length else M.L.length+1)=(M.put id).M.L.length:=by
 rw[(kR hok hid hf).2.2.1];by_cases e:f=[]
 · rw[qC (fun h=>h1.1 h e),qC (fun h=>h2.1 h e)]
 · rw[qD (h1.2 e),qD (h2.2 e)];rfl
theorem vW(p:List Nat)(i:Nat):fM (p++[i])=fM p++[.int .i64 i]:=by simp[fM]
theorem aJV{w w7 wo:World}{ps pa pt mb n n' sl q1 u v:Nat}{wt t x:Int}{vl vb:Value}{s:Sm}{la la' lT lb:List Nat}{c c7:Nat->Nat}(HB:StB w ps pa pt mb n vl s la lT lb c)(hck:s.chk u v=0)(hu:u<18446744073709551616)(hv:v<18446744073709551616)
    (hll:s.last+1<18446744073709551616) (hsl:sl=s.slot) (hq1:q1=s.last+1)
    (HS2:mN w7 ps pt mb vb la' lT lb (uO s.M u v 2) (mO (bU s.L) u v sl 2) (uO s.M u v 2).L.length wo)
    (HD7:Blk w7 ps 145 [.int .i64 s.V,.int .i64 s.E,.int .u64 q1,ptr pa,ptr pt,vb,.map (some mb)])
    (hA7:aU w7 pa s.A.alloc la') (hr7:dJ w7 vb ((List.range n').map (aG (s.L++[⟨sl,q1,u,v,wt,t,x⟩])))) (hF7:Fr (ps::(la++vl.ownBlock.toList)) w w7) (HCL:Cls c7 ps mb vb la' lT lb)
    (hA1:∀q∈la', q∈la∨w.heap.size+2<=q) (hV1:∀q,vb.ownBlock=some q->vl.ownBlock=some q∨w.heap.size+2<=q) (hs7:w.heap.size+2<=w7.heap.size) (hnn:n<=n') (hgt:sl<n') (hn' :n' <= s.E):
    ∃K', bH (Go.Proofs.YtjdgpcjbgjnahaaGreatDoor.put7 wo (w.heap.size+1) 0 ⟨sl,q1,u,v,wt,t,x⟩) ps (s.ins u v wt t x) K' /\ Fr (stK ps mb vl la lT lb) w (Go.Proofs.YtjdgpcjbgjnahaaGreatDoor.put7 wo (w.heap.size+1) 0 ⟨sl,q1,u,v,wt,t,x⟩)/\∀q∈K', q∈stK ps mb vl la lT lb∨w.heap.size<=q:=by
 subst hsl hq1;have HLT:=HB.lt;have hput:Fr [w.heap.size+1] wo (Go.Proofs.YtjdgpcjbgjnahaaGreatDoor.put7 wo (w.heap.size+1) 0 ⟨s.slot,s.last+1,u,v,wt,t,x⟩):=(Fr.refl _ _).put7 _ _ _ (.inl (by simp));have hE:(⟨s.slot,s.last+1,u,v,wt,t,x⟩:Lv)=s.edge u v wt t x:=rfl;have hUV:=(Sm.chk_ok HB.ok hck).1;have hFr:=HS2.fr;obtain⟨lT', lb', c', hc', hT', hI', hF', h5', h6'⟩:=HS2;have hs1:=hFr.size;have hpsw' :ps<w.heap.size:=HLT ps (by simp[stK]);have hmbw:mb<w.heap.size:=HLT mb (by simp[stK]);have hTw:∀q∈lT,q<w.heap.size:=fun q hq=>HLT q (by simp[stK,hq]);have hBw:∀q∈lb,q<w.heap.size:=fun q hq=>HLT q (by simp[stK,hq]);have hAn:∀q∈la', q∉mb::(lT++lb):=fun q hq hm=>by
   have a1:=HCL.a q hq;simp only[qB,qE]at hm;rcases hm with rfl|e|e
   · have:=HCL.m;omega
   · have:=HCL.t q e;omega
   · have:=HCL.b q e;omega
 have hVn:∀q,vb.ownBlock=some q->q∉mb::(lT++lb):=fun q hq hm=>by
   have a1:=HCL.l q hq;simp only[qB,qE]at hm;rcases hm with rfl|e|e
   · have:=HCL.m;omega
   · have:=HCL.t q e;omega
   · have:=HCL.b q e;omega
 have hnx:∀q:Nat,(q<w.heap.size∨w.heap.size+2<=q)->q∉[w.heap.size+1]:=fun q hq hm=>by
   rw[qH]at hm;omega
 have hLa:∀q∈la,q<w.heap.size:=fun q hq=>HLT q (by simp[stK,hq]);have hLv:∀q,vl.ownBlock=some q->q<w.heap.size:=fun q hq=>HLT q (by simp[stK,hq]);have hPN:ps∉mb::(lT++lb):=fun hm=>by
   have a1:=HCL.p;simp only[qB,qE]at hm;rcases hm with e|e|e
   · have:=HCL.m;rw[<-e]at this;omega
   · have:=HCL.t ps e;omega
   · have:=HCL.b ps e;omega
 have hok:=Sm.ok_ins HB.ok hu hv hck hll wt t x;have hins:mO (bU s.L) u v s.slot 2=bU (s.L++[s.edge u v wt t x]):=by exact aIB (e:=s.edge u v wt t x) hUV
 refine⟨_,⟨pa,pt,mb,n', _,la', lT', lb', c', ⟨?_,?_,?_,?_,?_,?_,hn', hok,hc'⟩,rfl⟩,?_,?_⟩
 · exact hput.blk (hFr.blk HD7 hPN) (hnx ps (.inl hpsw'))
 · exact(hA7.fr hFr hAn).fr hput (fun q hq=>hnx q ((hA1 q hq).imp (hLa q) (fun e=>e)))
 · exact hT'.fr hput (fun q hq=>hnx q ((h5' q hq).imp (hTw q) (fun e=>by omega)))
 {
 have:=(hr7.fr hFr hVn).fr hput (fun q hq=>hnx q ((hV1 q hq).imp (hLv q) (fun e=>e)));exact this}
 {
 rw[hins]at hI';exact hI'.fr hput (hnx mb (.inl hmbw)) (fun q hq=>hnx q ((h6' q hq).imp (hBw q) (fun e=>by omega)))}
 {
 intro e he;rcases qE.1 he with he|he
 · have:=HB.sn e he;omega
 {
 rw[qH]at he;rw[he,<-hE];exact hgt}}
 {
 refine((hF7.mono (S' :=stK ps mb vl la lT lb) (fun q hq=>.inl ?_)).trans hFr (fun q hq=>.inl ?_)).put7 _ _ _ (.inr (by omega))
 {
 simp only[qB,qE,Option.mem_toList]at hq;rcases hq with e|e|e<;>simp[stK,e]}
 {
 simp only[qB,qE]at hq;rcases hq with e|e|e<;>simp[stK,e]}}
 {
 intro q hq;simp only[stK,qB,qE,Option.mem_toList]at hq;rcases hq with e|e|((e|e)|e)|e
 · exact .inl (by simp[stK,e])
 · exact .inl (by simp[stK,e])
 · exact(hA1 q e).imp (fun e=>by simp[stK,e]) (fun e=>by omega)
 · exact(h5' q e).imp (fun e=>by simp[stK,e]) (fun e=>by omega)
 · exact(hV1 q e).imp (fun e=>by simp[stK,e]) (fun e=>by omega)
 · exact(h6' q e).imp (fun e=>by simp[stK,e]) (fun e=>by omega)}
section
variable {w w' :World} {ps:Nat} {s:Sm} {K:List Nat}
theorem aCP(h:bH w ps s K)(u v:Nat)(hu:u<18446744073709551616)(hv:v<18446744073709551616)(wt t x:Int)(hc:s.chk u v=0)(hl:s.last+1<18446744073709551616):
    Calls Tryz.prog 135 #[iO ps,pI u v wt t,.int .i64 x] w fun e w' =>e=.returned (.tuple #[lvA (s.edge u v wt t x),.int .i64 0])/\∃K', bH w' ps (s.ins u v wt t x) K' /\ Fr K w w' /\ ∀q∈K', q∈K∨w.heap.size<=q:=by
 obtain⟨pa,pt,mb,n,vl,la,lT,lb,c,hB,rfl⟩:=id h;have H:=qA h;have HCK:=qA hc;have HLL:=qA hl;have hn:=Sm.slot_next hB.ok hc;obtain⟨hnu,hiff⟩:=Md.isUsed_alloc' hB.ok.ar hn;obtain⟨sl,hsl⟩:∃sl,sl=s.slot:=⟨_,rfl⟩;rw[<-hsl]at hn hnu hiff;have hslE:sl<s.E:=by rw[<-hB.ok.sl];exact sL hB.ok.ar hn
 have hE:=hB.ok.leE;have hltw:=hB.lt;have hlast:IntKind.u64.wrap ((s.last:Int)+1)=((s.last+1:Nat):Int):=by simp[IntKind.wrap,IntKind.bits,IntKind.signed];omega
 have HB:=qA hB;have HSL:=qA hsl;have HLT:=qA hltw;have HNU:=qA (zH hn (zH hnu hiff));clear h hc hB hn hnu hiff hsl hltw hl;go_enter Tryz.func135,Tryz.ntmps135
 go_wp2_with fail
 have hf0:Fr [] w ((w.alloc (.cells #[.int .u64 u,.int .u64 v,.int .i64 wt,.int .i64 t] 72)).alloc (.cells #[.int .i64 0,.int .u64 0,.int .u64 0,.int .u64 0,.int .i64 0,.int .i64 0,.int .i64 0] 74)):=((Fr.refl [] w).alloc _).alloc _;have hbx:Blk ((w.alloc (.cells #[.int .u64 u,.int .u64 v,.int .i64 wt,.int .i64 t] 72)).alloc (.cells #[.int .i64 0,.int .u64 0,.int .u64 0,.int .u64 0,.int .i64 0,.int .i64 0,.int .i64 0] 74)) (w.heap.size+1) 74 [.int .i64 0,.int .u64 0,.int .u64 0,.int .u64 0,.int .i64 0,.int .i64 0,.int .i64 0]:=by {
 have:=Blk.new (w.alloc (.cells #[.int .u64 u,.int .u64 v,.int .i64 wt,.int .i64 t] 72)) [.int .i64 0,.int .u64 0,.int .u64 0,.int .u64 0,.int .i64 0,.int .i64 0,.int .i64 0] 74;simpa using this};have hbr:Blk ((w.alloc (.cells #[.int .u64 u,.int .u64 v,.int .i64 wt,.int .i64 t] 72)).alloc (.cells #[.int .i64 0,.int .u64 0,.int .u64 0,.int .u64 0,.int .i64 0,.int .i64 0,.int .i64 0] 74)) w.heap.size 72 [.int .u64 u,.int .u64 v,.int .i64 wt,.int .i64 t]:=(Blk.new w _ _).alloc _;have hs1:((w.alloc (.cells #[.int .u64 u,.int .u64 v,.int .i64 wt,.int .i64 t] 72)).alloc (.cells #[.int .i64 0,.int .u64 0,.int .u64 0,.int .u64 0,.int .i64 0,.int .i64 0,.int .i64 0] 74)).heap.size=w.heap.size+2:=by simp
 have HC:=oB (H.out.fr0 hf0) u v hu hv wt t;rw[HCK.out]at HC;have HC:=qA HC;generalize (w.alloc (.cells #[.int .u64 u,.int .u64 v,.int .i64 wt,.int .i64 t] 72)).alloc (.cells #[.int .i64 0,.int .u64 0,.int .u64 0,.int .u64 0,.int .i64 0,.int .i64 0,.int .i64 0] 74)=w1 at *;refine HC.out.mono ?_;rintro _ w2 ⟨rfl,h2⟩;have hF2:=hf0.trans' h2;have c3:=(hF2.blk HB.out.hd (by simp)).cell 3;simp only[zI,zJ]at c3;have HX:=qA (zH hF2 (zH (h2.blk hbx (by simp)) (zH (h2.blk hbr (by simp)) (show w.heap.size+2<=w2.heap.size by have:=h2.size;omega))));have HA:=qA (iV (HB.out.fr hF2 (by simp)).ar HNU.out.1);clear hf0 h2 hbx hbr hs1 HC hF2;go_wp2_with fail
 refine HA.out.mono ?_;rintro _ w3 ⟨rfl,la', hA3,hF3,hn3⟩;clear HA c3;have hla:∀b∈la,b<w.heap.size:=fun b hb=>HLT.out b (by simp[stK,hb]);have hpl:ps∉la:=fun hm=>by have e1:=HB.out.cls.a ps hm;have e2:=HB.out.cls.p;omega
 have hd3:=hF3.blk (HX.out.1.blk HB.out.hd (by simp)) hpl;have hx3:=hF3.blk HX.out.2.1 (fun hm=>by have:=hla _ hm;omega);have hr3:=hF3.blk HX.out.2.2.1 (fun hm=>by have:=hla _ hm;omega);have hs3:w.heap.size+2<=w3.heap.size:=by have h1:=HX.out.2.2.2;have h2:=hF3.size;omega
 have c2:=hd3.cell 2;have z2:=hd3.frozen 2;simp only[zI,zJ]at c2;have HX3:=qA (zH hd3 (zH hx3 (zH hr3 (zH hA3 (zH hF3 hn3)))));clear hd3 hx3 hr3 hA3 hF3 hn3 hla hpl;have hpsw:ps<w.heap.size:=HLT.out ps (by simp[stK]);have HR3:=qA HX3.out.2.2.1;have p0:=HR3.out.cell 0;have p1:=HR3.out.cell 1;have p2:=HR3.out.cell 2;have p3:=HR3.out.cell 3;simp only[zI,zJ]at p0 p1 p2 p3;have hne:ps≠w.heap.size:=by omega
 go_wp2_with fail
 obtain⟨q1,hq1⟩:∃q1:Nat,q1=s.last+1:=⟨_,rfl⟩;rw[show(s.last:Int)+1=(q1:Nat) by omega];have HQ1:=qA hq1;clear hq1 hlast;have hF4:Fr (ps::la) w2 (w3.setCell ⟨ps,2,none⟩ (.int .u64 q1)):=(HX3.out.2.2.2.2.1.mono (by simp +contextual)).setCell _ _ (.inl (by simp));have hd4:=HX3.out.1.set 2 (.int .u64 q1);have hx4:=HX3.out.2.1.other ⟨ps,2,none⟩ (.int .u64 q1) (by show w.heap.size+1≠ps;omega);have hr4:=HX3.out.2.2.1.other ⟨ps,2,none⟩ (.int .u64 q1) (by show w.heap.size≠ps;omega);have hA4:=aU.same HX3.out.2.2.2.1 (w' :=w3.setCell ⟨ps,2,none⟩ (.int .u64 q1)) (fun b hb=>Below.heap_setCell _ _ _ _ (fun e=>by
   rcases HX3.out.2.2.2.2.2 b hb with e1|e1
   · have e2:=HB.out.cls.a b e1;have e3:=HB.out.cls.p;rw[e]at e2;simp at e2;omega
   · have:=HX.out.2.2.2;simp at e;omega))
 have hs4:(w3.setCell ⟨ps,2,none⟩ (.int .u64 q1)).heap.size=w3.heap.size:=by simp
 simp only[qX,qT]at hd4;have hn4:=HX3.out.2.2.2.2.2;rw[<-hs4]at hs3;clear HX3 c2 z2 p0 p1 p2 p3 HR3 hs4;generalize w3.setCell ⟨ps,2,none⟩ (.int .u64 q1)=w4 at *;have c2:=hd4.cell 2;have p0:=hr4.cell 0;have p1:=hr4.cell 1;have p2:=hr4.cell 2;have p3:=hr4.cell 3;simp only[zI,zJ]at c2 p0 p1 p2 p3;have HC4:=qA (fun(w' :World) (hf:Fr [] w4 w')=>zH (hf.cell c2 (by simp)) (zH (hf.cell p0 (by simp)) (zH (hf.cell p1 (by simp)) (zH (hf.cell p2 (by simp)) (hf.cell p3 (by simp))))));have HX4:=qA (zH hd4 (zH hx4 (zH hr4 (zH hA4 (zH hF4 hn4)))));clear hd4 hx4 hr4 hA4 hF4 hn4
 go_region_held3 (fun w' => w'.cell? ⟨ps, 2, none⟩ = some (.int .u64 q1) /\ w'.cell? ⟨w.heap.size, 0, none⟩ = some (.int .u64 u) /\ w'.cell? ⟨w.heap.size, 1, none⟩ = some (.int .u64 v) /\ w'.cell? ⟨w.heap.size, 2, none⟩ = some (.int .i64 wt) /\ w'.cell? ⟨w.heap.size, 3, none⟩ = some (.int .i64 t))
   (first
     | go_keep
     | (exact HC4.out _ ((Fr.refl [] w4).alloc _))
     | (exact HC4.out _ (((Fr.refl [] w4).alloc _).drew)))
   (fail)
 have hg5:Fr [] w4 (w4.alloc (.cells #[.int .i64 sl,.int .u64 q1,.int .u64 u,.int .u64 v,.int .i64 wt,.int .i64 t,.int .i64 x] 74)).drew:=((Fr.refl [] w4).alloc _).drew;have he5:Blk (w4.alloc (.cells #[.int .i64 sl,.int .u64 q1,.int .u64 u,.int .u64 v,.int .i64 wt,.int .i64 t,.int .i64 x] 74)).drew w4.heap.size 74 (lvC ⟨sl,q1,u,v,wt,t,x⟩):=(Blk.new w4 _ _).drew;generalize (w4.alloc (.cells #[.int .i64 sl,.int .u64 q1,.int .u64 u,.int .u64 v,.int .i64 wt,.int .i64 t,.int .i64 x] 74)).drew=w5 at *;have hs5:=hg5.size;have hlv:=HB.out.lv.fr ((HX.out.1.mono (S' :=ps::la) (by simp)).trans' (HX4.out.2.2.2.2.1.trans' (hg5.mono (by simp)))) (fun q hq hm=>by
   have e1:=HB.out.cls.l q hq;rcases qB.1 hm with rfl|hm
   · have:=HB.out.cls.p;omega
   · have:=HB.out.cls.a q hm;omega)
 have hd5:=hg5.blk HX4.out.1 (by simp);have hL0:Fr (ps::vl.ownBlock.toList) w5 w5:=Fr.refl _ _;have HW5:=qA (zH (hg5.blk HX4.out.2.1 (by simp)) (zH (hg5.blk HX4.out.2.2.1 (by simp)) (zH (HX4.out.2.2.2.1.fr hg5 (by simp)) (zH (HX4.out.2.2.2.2.1.trans' (hg5.mono (by simp))) (zH he5 hs5)))));have hvl5:∀q,vl.ownBlock=some q->q<w5.heap.size:=fun q hq=>by have:=HLT.out q (by simp[stK,hq]);omega
 have HV5:=qA hvl5;have HS0:=qA (zH hd5 (zH hlv (zH hL0 (show ∀q,vl.ownBlock=some q->vl.ownBlock=some q∨w5.heap.size<=q from fun q hq=>.inl hq))));clear hg5 he5 hlv hd5 hL0 hvl5 c2 p0 p1 p2 p3 HC4;have hnE:=HB.out.nE;go_wp2_with fail
 go_loopw [] (fun wr=>∃(n' :Nat) (v' :Value),n' <= s.E/\Hid (Blk wr ps 145 [.int .i64 s.V,.int .i64 s.E,.int .u64 q1,ptr pa,ptr pt,v', .map (some mb)]/\dJ wr v' ((List.range n').map (aG s.L))/\Fr (ps::vl.ownBlock.toList) w5 wr/\∀q,v'.ownBlock=some q->vl.ownBlock=some q∨w5.heap.size<=q)/\n<=n') (fun wr=>sl+1-xA wr ps)
 case atStart=>exact⟨n,vl,hnE,HS0,qJ _⟩
 case round=>
  obtain⟨n', v', hn', HS,hnn⟩:=hrel;obtain⟨av,cv,rfl⟩:∃a cap,v' =.slice a n' cap:=by simpa using HS.out.2.1.slice
  have c5:=HS.out.1.cell 5;simp only[zI,zJ]at c5;have hmeas:=sW c5;have hpsv:∀q,(Value.slice av n' cv).ownBlock=some q->ps≠q:=fun q hq e=>by
    subst e;rcases HS.out.2.2.2 ps hq with h1|h1
    · have e1:=HB.out.cls.l ps h1;have e2:=HB.out.cls.p;omega
    · have:=HW5.out.2.2.2.2.2;omega
  have HPV:=qA hpsv;have HM:=qA hmeas;clear hpsv hmeas;by_cases hle:n' <= sl
  {
  have hle' :(n' :Int)<=sl:=by omega
  have hrow:(wr.alloc (.cells (lvC Lv.z).toArray 74)).ownsRow 0 74 7 (.slice av n' cv) n' (rowV ((List.range n').map (aG s.L))):=by {
  have:=HS.out.2.1.fr0 ((Fr.refl [] wr).alloc (.cells (lvC Lv.z).toArray 74));unfold dJ at this;simpa using this};have HRW:=qA hrow;have HZ:=qA (Blk.new wr (lvC Lv.z) 74);have HD:=qA (HS.out.1.alloc (.cells (lvC Lv.z).toArray 74));have H7:=qA (show ∀u∈lvC Lv.z,u.oneCell' =true by decide);have HRZ:=qA (aFV HB.out.sn hnn);have hs6:=HS.out.2.2.1.size;clear hrow;go_wp2_with (first|(at_builtin;refine kW rfl _ _ 59 rfl 74 wY 7 56 Tryz.underlying59 Tryz.info74 rfl (by decide) (.slice av n' cv) n' _ rfl HRW.out wr.heap.size 74 (lvC Lv.z) rfl HZ.out rfl H7.out (by omega) (by decide) ?_;intro g' cap' w6 hown6 hgrow6 hg6;have hF6:Fr (Value.slice av n' cv).ownBlock.toList (wr.alloc (.cells (lvC Lv.z).toArray 74)) w6:=(Fr.refl _ _).grown hgrow6 (fun q e=>.inl (by simp[e]));have hd6:=hF6.blk HD.out (fun hm=>HPV.out _ (by simpa using hm) rfl);have c56:=hd6.cell 5;have z56:=hd6.frozen 5;simp only[zI,zJ]at c56)|fail)
  go_roundw
  case rel=>
   have hgne:ps≠g' :=fun e=>by
     rcases hg6 with h6|h6
     · exact HPV.out _ h6 e
     · simp only [World.size_alloc] at h6
       have:=HW5.out.2.2.2.2.2;omega
   refine⟨n' + 1,.slice (some ⟨g', 0,none⟩) (n' + 1) cap', by omega,qA ⟨hd6.set 5 _,?_,?_,?_⟩,by omega⟩
   {
   rw[HRZ.out];unfold dJ;rw[vJ];have:=bN hown6 ⟨ps,5,none⟩ (.slice (some ⟨g', 0,none⟩) (n' + 1) cap') (fun e=>hgne (by simp[Value.ownBlock]at e;exact e.symm));simpa using this}
   {
   refine((HS.out.2.2.1.alloc _).trans hF6 (fun q hq=>?_)).setCell _ _ (.inl (by simp));have hq' :(Value.slice av n' cv).ownBlock=some q:=by simpa using hq
   rcases HS.out.2.2.2 q hq' with e|e
   · exact .inl (by simp[e])
   · exact .inr e}
   {
   intro q hq;simp only[Value.ownBlock,qI]at hq;subst hq;rcases hg6 with h6|h6
   · exact HS.out.2.2.2 _ h6
   · simp only[World.size_alloc]at h6;exact .inr (by omega)}
  case measure=>
   have c5n:=(hd6.set 5 (.slice (some ⟨g', 0,none⟩) (n' + 1) cap')).cell 5;simp only[qX,qT,zI,zJ]at c5n;rw[sW c5n,HM.out];omega}
  {
  have d1:decide ((n' :Int)<=sl)=false:=qF (by omega);have d2:decide (n' <= sl)=false:=qF (by omega);have hgt:sl<n' :=by omega
  clear hle;go_wp2_with fail
  obtain⟨b,cap,ev,_,hb,hz,hat⟩:=HS.out.2.1.at (i:=sl) (by simp;omega);simp only[List.length_map,List.length_range,qO,true_and]at ev;obtain⟨rfl,rfl⟩:=ev;have hlti:(sl:Int)<n' :=by omega
  have heb:=HW5.out.2.2.2.2.1;have heK:w4.heap.size∉ps::vl.ownBlock.toList:=fun hm=>by
    have h1:=HW5.out.2.2.2.2.2;rcases qB.1 hm with e|e
    · omega
    · have:=HLT.out w4.heap.size (by simp only[stK,qB,qE];exact .inr (.inr (.inl (.inr e))));omega
  have he6:=HS.out.2.2.1.blk heb heK;obtain⟨e0,e1,e2,e3,e4,e5,e6⟩:=he6.lvAt;obtain⟨t0,t1,t2,t3,t4,t5,t6⟩:=hat;have z0:=hz (sl*7);have z1:=hz (sl*7+1);have z2:=hz (sl*7+2);have z3:=hz (sl*7+3);have z4:=hz (sl*7+4);have z5:=hz (sl*7+5);have z6:=hz (sl*7+6);simp only[Nat.zero_add]at e0 e1 e2 e3 e4 e5 e6;clear hz heb he6;have HEK:=qA heK;clear heK;have hnb1:ps≠b:=HPV.out b rfl;have hnb2:w4.heap.size≠b:=fun e=>by
    rcases HS.out.2.2.2 b rfl with h1|h1
    · have:=HLT.out b (by simp[stK,h1]);omega
    · have:=HW5.out.2.2.2.2.1.lt;omega
  have HKP:=qA (fun(w' :World) (hf:Fr [b] wr w')=>zH (hf.cell c5 (by simpa using hnb1)) (zH (hf.cell e0 (by simpa using hnb2)) (zH (hf.cell e1 (by simpa using hnb2)) (zH (hf.cell e2 (by simpa using hnb2)) (zH (hf.cell e3 (by simpa using hnb2)) (zH (hf.cell e4 (by simpa using hnb2)) (zH (hf.cell e5 (by simpa using hnb2)) (hf.cell e6 (by simpa using hnb2)))))))));have HKF:=qA (show ∀(a0 a1 a2 a3 a4 a5 a6:Value) (o0 o1 o2 o3 o4 o5 o6:Nat),Fr [b] wr (((((((wr.setCell ⟨b,o0,none⟩ a0).setCell ⟨b,o1,none⟩ a1).setCell ⟨b,o2,none⟩ a2).setCell ⟨b,o3,none⟩ a3).setCell ⟨b,o4,none⟩ a4).setCell ⟨b,o5,none⟩ a5).setCell ⟨b,o6,none⟩ a6).drew from
    fun _ _ _ _ _ _ _ _ _ _ _ _ _ _=>((((((((Fr.refl [b] wr).setCell _ _ (.inl (by simp))).setCell _ _ (.inl (by simp))).setCell _ _ (.inl (by simp))).setCell _ _ (.inl (by simp))).setCell _ _ (.inl (by simp))).setCell _ _ (.inl (by simp))).setCell _ _ (.inl (by simp))).drew)
  go_region_held3 (fun w' => w'.cell? ⟨ps, 5, none⟩ = some (.slice (some ⟨b, 0, none⟩) n' cv) /\ w'.cell? ⟨w4.heap.size, 0, none⟩ = some (.int .i64 sl) /\ w'.cell? ⟨w4.heap.size, 1, none⟩ = some (.int .u64 q1) /\ w'.cell? ⟨w4.heap.size, 2, none⟩ = some (.int .u64 u) /\ w'.cell? ⟨w4.heap.size, 3, none⟩ = some (.int .u64 v) /\ w'.cell? ⟨w4.heap.size, 4, none⟩ = some (.int .i64 wt) /\ w'.cell? ⟨w4.heap.size, 5, none⟩ = some (.int .i64 t) /\ w'.cell? ⟨w4.heap.size, 6, none⟩ = some (.int .i64 x))
    (first
      | with_reducible exact HKP.out _ (HKF.out _ _ _ _ _ _ _ _ _ _ _ _ _ _)
      | go_keep)
    (fail)
  have hg7:=HKF.out (.int .i64 sl) (.int .u64 q1) (.int .u64 u) (.int .u64 v) (.int .i64 wt) (.int .i64 t) (.int .i64 x) (sl*7) (sl*7+1) (sl*7+2) (sl*7+3) (sl*7+4) (sl*7+5) (sl*7+6);have hrv:dJ wr (.slice (some ⟨b,0,none⟩) ((List.range n').map (aG s.L)).length cv) ((List.range n').map (aG s.L)):=by simpa using HS.out.2.1
  have hnew:∀y∈s.L,y.slot≠sl:=fun y hy e=>HNU.out.2.1 ((HB.out.ok.used _).2 ⟨y,hy,e⟩);have hr7:=(hrv.set (i:=sl) (by simp;omega) ⟨sl,q1,u,v,wt,t,x⟩).fr0 ((Fr.refl [] _).drew);rw[aIC (e:=⟨sl,q1,u,v,wt,t,x⟩) hnew hgt]at hr7;have hr7:dJ (((((((wr.setCell ⟨b,sl*7,none⟩ (.int .i64 sl)).setCell ⟨b,sl*7+1,none⟩ (.int .u64 q1)).setCell ⟨b,sl*7+2,none⟩ (.int .u64 u)).setCell ⟨b,sl*7+3,none⟩ (.int .u64 v)).setCell ⟨b,sl*7+4,none⟩ (.int .i64 wt)).setCell ⟨b,sl*7+5,none⟩ (.int .i64 t)).setCell ⟨b,sl*7+6,none⟩ (.int .i64 x)).drew (.slice (some ⟨b,0,none⟩) n' cv) ((List.range n').map (aG (s.L++[⟨sl,q1,u,v,wt,t,x⟩]))):=by {
  rw[List.length_map,List.length_range]at hr7;exact hr7};generalize (((((((wr.setCell ⟨b,sl*7,none⟩ (.int .i64 sl)).setCell ⟨b,sl*7+1,none⟩ (.int .u64 q1)).setCell ⟨b,sl*7+2,none⟩ (.int .u64 u)).setCell ⟨b,sl*7+3,none⟩ (.int .u64 v)).setCell ⟨b,sl*7+4,none⟩ (.int .i64 wt)).setCell ⟨b,sl*7+5,none⟩ (.int .i64 t)).setCell ⟨b,sl*7+6,none⟩ (.int .i64 x)).drew=w7 at *;clear hrv hnew c5 e0 e1 e2 e3 e4 e5 e6 t0 t1 t2 t3 t4 t5 t6 z0 z1 z2 z3 z4 z5 z6 HKP HKF d1 d2;have hF57:Fr (ps::vl.ownBlock.toList) w5 w7:=HS.out.2.2.1.trans hg7 (fun q hq=>by
    simp at hq;subst hq;rcases HS.out.2.2.2 q rfl with h1|h1
    · exact .inl (by simp[h1])
    · exact .inr h1)
  have hw45:=HW5.out.2.2.2.2.1.lt;have hdn:∀y,y<w.heap.size+2->w.heap.size<=y->y∉ps::vl.ownBlock.toList:=fun y h1 h2 hm=>by
    rcases qB.1 hm with e|e
    · omega
    · have:=HLT.out y (by simp only[stK,qB,qE];exact .inr (.inr (.inl (.inr e))));omega
  have hd7:=hg7.blk HS.out.1 (by simpa using hnb1);have hx7:=hF57.blk HW5.out.1 (hdn _ (by omega) (by omega));have hrc7:=hF57.blk HW5.out.2.1 (hdn _ (by omega) (by omega));have hed7:=hF57.blk HW5.out.2.2.2.2.1 HEK.out;have hla4:=HX4.out.2.2.2.1.lt;have hA7:=HW5.out.2.2.1.fr hF57 (fun q hq hm=>by
    rcases HX4.out.2.2.2.2.2 q hq with e|e
    · have e1 := HB.out.cls.a q e
      rcases qB.1 hm with e2|e2
      · have:=HB.out.cls.p;rw[<-e2]at this;omega
      · have:=HB.out.cls.l q (by simpa using e2);omega
    · have := HX.out.2.2.2
      rcases qB.1 hm with e2|e2
      · omega
      · have:=HLT.out q (by simp only[stK,qB,qE];exact .inr (.inr (.inl (.inr e2))));omega)
  have hF07:Fr (ps::(la++vl.ownBlock.toList)) w w7:=((HX.out.1.mono (S' :=ps::(la++vl.ownBlock.toList)) (by simp)).trans HW5.out.2.2.2.1 (fun q hq=>.inl (by simp at hq ⊢;rcases hq with e|e<;>simp[e]))).trans hF57 (fun q hq=>.inl (by simp at hq ⊢;rcases hq with e|e<;>simp[e]));have hs7:=hF07.size;have hs57:=hF57.size;have hpsm:∀q,q∈mb::(lT++lb)->q∉ps::(la++vl.ownBlock.toList):=fun q hq hm=>by
    have hp:=HB.out.cls.p;have hm1:=HB.out.cls.m;have e1:c q=1∨c q=3∨c q=5:=by
      simp only[qB,qE]at hq;rcases hq with rfl|e|e
      · exact .inl hm1
      · exact .inr (.inl (HB.out.cls.t q e))
      · exact .inr (.inr (HB.out.cls.b q e))
    simp only[qB,qE,Option.mem_toList]at hm;rcases hm with rfl|e|e
    · omega
    · have:=HB.out.cls.a q e;omega
    · have:=HB.out.cls.l q e;omega
  have hcls:Cls (fun y=>if y<w.heap.size then c y else if y<w4.heap.size then 2 else 4) ps mb (.slice (some ⟨b,0,none⟩) n' cv) la' lT lb:=by {
  refine⟨?_,?_,fun y hy=>?_,fun y hy=>?_,fun q hq=>?_,fun y hy=>?_⟩
  · rw[qD hpsw];exact HB.out.cls.p
  · rw[qD (HLT.out mb (by simp[stK]))];exact HB.out.cls.m
  {
  rcases HX4.out.2.2.2.2.2 y hy with e|e
  · rw[qD (HLT.out y (by simp[stK,e]))];exact HB.out.cls.a y e
  {
  have:=HX.out.2.2.2;rw[qC (by omega),qD (hla4 y hy)]}}
  · rw[qD (HLT.out y (by simp[stK,hy]))];exact HB.out.cls.t y hy
  {
  rcases HS.out.2.2.2 q hq with e|e
  · rw[qD (HLT.out q (by simp[stK,e]))];exact HB.out.cls.l q e
  · rw[qC (by omega),qC (by omega)]}
  · rw[qD (HLT.out y (by simp[stK,hy]))];exact HB.out.cls.b y hy};have hIns:mN w7 ps pt mb (.slice (some ⟨b,0,none⟩) n' cv) la' lT lb s.M (bU s.L) s.M.L.length w7:=
    ⟨lT,lb,_,hcls,HB.out.tb.fr hF07 (fun q hq=>hpsm q (by simp[hq])),HB.out.inc.fr hF07 (hpsm mb (by simp)) (fun q hq=>hpsm q (by simp[hq])),Fr.refl _ _,fun q hq=>.inl hq,fun q hq=>.inl hq⟩
  have hpn:ps∉mb::(lT++lb):=fun hm=>hpsm ps hm (by simp);have hbn:∀y,w.heap.size<=y->y∉mb::(lT++lb):=fun y h1 hm=>by
    have:y∈stK ps mb vl la lT lb:=by
      simp only[qB,qE]at hm;simp only[stK,qB,qE];rcases hm with e|e|e
      · simp[e]
      · simp[e]
      · simp[e]
    have:=HLT.out y this;omega
  have r0:=hrc7.cell 0;have r1:=hrc7.cell 1;simp only[zI,zJ]at r0 r1;have HD7:=qA (zH hd7 (zH (show ps<w7.heap.size by omega) (zH hA7.lt (show ∀q,(Value.slice (some ⟨b,0,none⟩) n' cv).ownBlock=some q->q<w7.heap.size from fun q hq=>hr7.lt hq))));have HPN:=qA hpn;have HEnd:=qA (zH hbn (zH hx7 (zH hed7 (zH hA7 (zH hr7 hF07)))));have HIns:=qA hIns;have HCL:=qA hcls;have Hu:=qA (show u<U64 from hu);have Hv:=qA (show v<U64 from hv);clear hg7 hr7 hF57 hdn hd7 hx7 hrc7 hed7 hla4 hA7 hF07 hpsm hcls hIns hpn hbn;have hcap:=HB.out.ok.leE;have hLlen:s.L.length<=16384:=by {
  have h1:=Sm.len_used HB.out.ok;have h2:=HB.out.ok.ar.hb;have h3:=HB.out.ok.sl;unfold Ar.used at h1;omega};have huv:=(Sm.chk_ok HB.out.ok HCK.out).1;have HUV:=qA huv;clear huv;have HFT:=qA (Sm.fits_uv HB.out.ok hu HCK.out);go_wp2_with fail
  clear r0 r1;go_loopw [77] (fun y wr=>∃k:Nat,k<=2/\y=.int .i64 k/\Hid (mN w7 ps pt mb (.slice (some ⟨b,0,none⟩) n' cv) la' lT lb (uO s.M u v k) (mO (bU s.L) u v sl k) (uO s.M u v k).L.length wr)) (fun y _=>2-(intOf y).toNat)
  case atStart=>exact⟨0,by omega,rfl,HIns⟩
  case round=>
   obtain⟨k,hk,rfl,HS2⟩:=hrel;by_cases hlt:k<2
   {
   have hk2:k=0∨k=1:=by omega
   clear hlt hk;rcases hk2 with rfl|rfl
   {
   have hFr:=HS2.out.fr;have hd:=hFr.blk HD7.out.1 HPN.out;have c4:=hd.cell 4;have c6:=hd.cell 6;simp only[zI,zJ]at c4 c6;have HP:=qA (aDU HD7.out.2.1 HD7.out.2.2.1 HD7.out.2.2.2 HS2.out Hu.out);have HMO:=qA HS2.out.mok;clear hFr hd;rename World=>wo
   go_wp2_with fail
   refine HP.out.mono ?_;rintro _ w8 ⟨r8,rfl,hS8,hF8⟩;clear HP c4 c6;obtain⟨lT', lb', c', hc', hT', ⟨iv,hI'⟩,hF', h5', h6'⟩:=hS8;have c6:=(hF8.blk HD7.out.1 HPN.out).cell 6;simp only[zI,zJ]at c6;obtain⟨av0,cv0,ev0⟩:=(hI'.row u Hu.out).2.1.slice;have hfl:(mO (bU s.L) u v sl 0 u).length<=16384:=zG (kQ s.L u) hLlen;have hml:(uO s.M u v 0).L.length<=65536:=by {
   have h1:=HMO.out.cnt;have h2:=HMO.out.ar.hb;have h3:=HMO.out.ar.hs;simp only[Md.ar]at h2 h3;omega};have hmx:(uO s.M u v 0).L.length<maxLen:=by unfold maxLen;omega
   have g1:=pY (w' :=w8.drew) hI' Hu.out ev0 rfl;have g2:=pY (w' :=(w8.alloc (.cells #[.int .i64 sl] 3)).drew) hI' Hu.out ev0 (Below.heap_alloc _ _ _ hI'.im.lt);have g3:=pY (w' :=w8.alloc (.cells #[.int .i64 sl] 3)) hI' Hu.out ev0 (Below.heap_alloc _ _ _ hI'.im.lt);have EV:=qA ev0;have hrow:=(hI'.row u Hu.out).2.1;rw[ev0]at hrow;have HRow:=qA hrow;clear hrow;have hvm:=(hI'.row u Hu.out).2.2;rw[ev0]at hvm;have HVM:=qA hvm;clear hvm;have HI:=qA hI';have HSet:=qA (fun(w8' w9' :World) (v1:Value) (l1:List Nat) (n2:Nat) a1 a2 a3 a4 a5 a6=>rU (M:=(uO s.M u v 1)) HD7.out.2.1 HD7.out.2.2.1 HD7.out.2.2.2 hc' hT' hI' hF' h5' h6' (id:=u) Hu.out (w8:=w8') (w9:=w9') (v1:=v1) (l1:=l1) (n2:=n2) a1 a2 a3 a4 a5 a6);have hmbn:mb∉lb' :=hI'.nm;have hmlt:=hI'.im.lt;have hHP:=qA hF8;have HPO:=qA (show ps∉(Value.slice av0 (mO (bU s.L) u v sl 0 u).length cv0).ownBlock.toList from fun hm=>by
     have e1:=hc'.b ps (HVM.out ps (by simpa using hm));have e2:=hc'.p;omega)
   have HMO2:=qA (show mb∉(Value.slice av0 (mO (bU s.L) u v sl 0 u).length cv0).ownBlock.toList from fun hm=>by
     have e1:=hc'.b mb (HVM.out mb (by simpa using hm));have e2:=hc'.m;omega)
   have hPM:=qA (show ps∉mb::(Value.slice av0 (mO (bU s.L) u v sl 0 u).length cv0).ownBlock.toList from fun hm=>by
     rcases qB.1 hm with e|e
     · have e1:=hc'.p;have e2:=hc'.m;rw[e]at e1;omega
     · exact HPO.out e)
   have HNN:=qA (aEO (f:=bU s.L u) HMO.out Hu.out HFT.out.1 (hI'.row u Hu.out).1 (HB.out.ok.vert u));clear hc' hT' hI' hF' h5' h6' hF8;generalize hfle:mO (bU s.L) u v sl 0 u=fl at *;have HFL:=qA hfle;clear hfle;have hFa:Fr [] w8 (w8.alloc (.cells #[.int .i64 sl] 3)).drew:=((Fr.refl [] w8).alloc _).drew;have HFa:=qA hFa;clear hFa;have HBa:=qA (show Blk (w8.alloc (.cells #[.int .i64 sl] 3)).drew w8.heap.size 3 [.int .i64 sl] from(Blk.new w8 _ _).drew);have HK8:=qA (fun(w' :World) (S:List Nat) (hf:Fr S w8 w') (hs:ps∉S)=>hf.cell c6 hs);go_wp2_with fail
   go_region_held3 (fun w' => w'.cell? ⟨ps, 6, none⟩ = some (.map (some mb)))
     (first
       | with_reducible exact HK8.out _ _ hF10 hPM.out
       | with_reducible exact HK8.out _ _ hF9 HPO.out
       | go_keep)
     (first
       | (refine vI (by rfl) _ _ _ (by rfl) 3 (.int .i64 0) 1 8 Tryz.underlying158 Tryz.info3 rfl (by decide) (.slice av0 fl.length cv0) fl.length (fM fl) (by rfl) (HRow.out.fr0 HFa.out) w8.heap.size 3 [.int .i64 sl] (by rfl) HBa.out rfl (by simp [Value.oneCell']) (by omega) (by decide) ?_; intro g9 cap9 w9 hown9 hgrow9 hg9
          have hF9:Fr (Value.slice av0 fl.length cv0).ownBlock.toList w8 w9:=(HFa.out.mono (by simp)).grown hgrow9 (fun q e=>.inl (by simp[e]));have hM9:=HI.out.im.same (hF9.keep mb hmlt HMO2.out);obtain⟨w10,hrun10,hM10,hG10⟩:=hM9.put Tryz.underlying36 Tryz.underlying143 hmx (jU Hu.out) (v:=.slice (some ⟨g9,0,none⟩) (fl.length+1) cap9) (by rfl);have hF10:Fr (mb::(Value.slice av0 fl.length cv0).ownBlock.toList) w8 w10:=(hF9.mono (fun b hb=>.inl (List.mem_cons_of_mem _ hb))).trans hG10 (fun b hb=>.inl (by simp at hb;simp[hb]))))
   all_goals
    go_wp2_with fail
    go_roundw
    case rel=>
     have hs9:=HFa.out.size;have h9:dK w9 (.slice (some ⟨g9,0,none⟩) (fl.length+1) cap9) (fl++[sl]):=by {
     unfold dK;rw[vW,zE];exact hown9};have:=HSet.out w9 w10 _ (fl++[sl]) _ h9 (by simp) (by rw[EV.out];exact hF9) (fun q hq=>by
       rw[EV.out];simp only[Value.ownBlock,qI]at hq;subst hq;exact hg9.imp (fun e=>e) (fun e=>by omega)) hM10 hG10
     rw[HNN.out]at this;refine⟨1,by omega,by go_num,qA ?_⟩;rw[<-HFL.out]at this;exact this
    case measure=>simp[intOf];try omega}
   {
   have hFr:=HS2.out.fr;have hd:=hFr.blk HD7.out.1 HPN.out;have c4:=hd.cell 4;have c6:=hd.cell 6;simp only[zI,zJ]at c4 c6;have HP:=qA (aDU HD7.out.2.1 HD7.out.2.2.1 HD7.out.2.2.2 HS2.out Hv.out);have HMO:=qA HS2.out.mok;clear hFr hd;rename World=>wo
   go_wp2_with fail
   refine HP.out.mono ?_;rintro _ w8 ⟨r8,rfl,hS8,hF8⟩;clear HP c4 c6;obtain⟨lT', lb', c', hc', hT', ⟨iv,hI'⟩,hF', h5', h6'⟩:=hS8;have c6:=(hF8.blk HD7.out.1 HPN.out).cell 6;simp only[zI,zJ]at c6;obtain⟨av0,cv0,ev0⟩:=(hI'.row v Hv.out).2.1.slice;have hfl:(mO (bU s.L) u v sl 1 v).length<=16384:=by {
   have e9:mO (bU s.L) u v sl 1 v=bU s.L v:=eB (fun e=>HUV.out e.symm);rw[e9];exact zG (kQ s.L v) hLlen};have hml:(uO s.M u v 1).L.length<=65536:=by {
   have h1:=HMO.out.cnt;have h2:=HMO.out.ar.hb;have h3:=HMO.out.ar.hs;simp only[Md.ar]at h2 h3;omega};have hmx:(uO s.M u v 1).L.length<maxLen:=by unfold maxLen;omega
   have g1:=pY (w' :=w8.drew) hI' Hv.out ev0 rfl;have g2:=pY (w' :=(w8.alloc (.cells #[.int .i64 sl] 3)).drew) hI' Hv.out ev0 (Below.heap_alloc _ _ _ hI'.im.lt);have g3:=pY (w' :=w8.alloc (.cells #[.int .i64 sl] 3)) hI' Hv.out ev0 (Below.heap_alloc _ _ _ hI'.im.lt);have EV:=qA ev0;have hrow:=(hI'.row v Hv.out).2.1;rw[ev0]at hrow;have HRow:=qA hrow;clear hrow;have hvm:=(hI'.row v Hv.out).2.2;rw[ev0]at hvm;have HVM:=qA hvm;clear hvm;have HI:=qA hI';have HSet:=qA (fun(w8' w9' :World) (v1:Value) (l1:List Nat) (n2:Nat) a1 a2 a3 a4 a5 a6=>rU (M:=(uO s.M u v 2)) HD7.out.2.1 HD7.out.2.2.1 HD7.out.2.2.2 hc' hT' hI' hF' h5' h6' (id:=v) Hv.out (w8:=w8') (w9:=w9') (v1:=v1) (l1:=l1) (n2:=n2) a1 a2 a3 a4 a5 a6);have hmbn:mb∉lb' :=hI'.nm;have hmlt:=hI'.im.lt;have hHP:=qA hF8;have HPO:=qA (show ps∉(Value.slice av0 (mO (bU s.L) u v sl 1 v).length cv0).ownBlock.toList from fun hm=>by
     have e1:=hc'.b ps (HVM.out ps (by simpa using hm));have e2:=hc'.p;omega)
   have HMO2:=qA (show mb∉(Value.slice av0 (mO (bU s.L) u v sl 1 v).length cv0).ownBlock.toList from fun hm=>by
     have e1:=hc'.b mb (HVM.out mb (by simpa using hm));have e2:=hc'.m;omega)
   have hPM:=qA (show ps∉mb::(Value.slice av0 (mO (bU s.L) u v sl 1 v).length cv0).ownBlock.toList from fun hm=>by
     rcases qB.1 hm with e|e
     · have e1:=hc'.p;have e2:=hc'.m;rw[e]at e1;omega
     · exact HPO.out e)
   have HNN:=qA (aEO (f:=bU s.L v) HMO.out Hv.out HFT.out.2 (by have:=(hI'.row v Hv.out).1;rwa[show mO (bU s.L) u v sl 1 v=bU s.L v from eB (fun e=>HUV.out e.symm)]at this) (((kR HB.out.ok.md Hu.out HFT.out.1).2.1 v).trans ⟨fun h=>(HB.out.ok.vert v).1 (h.resolve_right (fun e=>HUV.out e.symm)),fun h=>.inl ((HB.out.ok.vert v).2 h)⟩));clear hc' hT' hI' hF' h5' h6' hF8;generalize hfle:mO (bU s.L) u v sl 1 v=fl at *;have HFL:=qA hfle;clear hfle;have hFa:Fr [] w8 (w8.alloc (.cells #[.int .i64 sl] 3)).drew:=((Fr.refl [] w8).alloc _).drew;have HFa:=qA hFa;clear hFa;have HBa:=qA (show Blk (w8.alloc (.cells #[.int .i64 sl] 3)).drew w8.heap.size 3 [.int .i64 sl] from(Blk.new w8 _ _).drew);have HK8:=qA (fun(w' :World) (S:List Nat) (hf:Fr S w8 w') (hs:ps∉S)=>hf.cell c6 hs);go_wp2_with fail
   go_region_held3 (fun w' => w'.cell? ⟨ps, 6, none⟩ = some (.map (some mb)))
     (first
       | with_reducible exact HK8.out _ _ hF10 hPM.out
       | with_reducible exact HK8.out _ _ hF9 HPO.out
       | go_keep)
     (first
       | (refine vI (by rfl) _ _ _ (by rfl) 3 (.int .i64 0) 1 8 Tryz.underlying158 Tryz.info3 rfl (by decide) (.slice av0 fl.length cv0) fl.length (fM fl) (by rfl) (HRow.out.fr0 HFa.out) w8.heap.size 3 [.int .i64 sl] (by rfl) HBa.out rfl (by simp [Value.oneCell']) (by omega) (by decide) ?_; intro g9 cap9 w9 hown9 hgrow9 hg9
          have hF9:Fr (Value.slice av0 fl.length cv0).ownBlock.toList w8 w9:=(HFa.out.mono (by simp)).grown hgrow9 (fun q e=>.inl (by simp[e]));have hM9:=HI.out.im.same (hF9.keep mb hmlt HMO2.out);obtain⟨w10,hrun10,hM10,hG10⟩:=hM9.put Tryz.underlying36 Tryz.underlying143 hmx (jU Hv.out) (v:=.slice (some ⟨g9,0,none⟩) (fl.length+1) cap9) (by rfl);have hF10:Fr (mb::(Value.slice av0 fl.length cv0).ownBlock.toList) w8 w10:=(hF9.mono (fun b hb=>.inl (List.mem_cons_of_mem _ hb))).trans hG10 (fun b hb=>.inl (by simp at hb;simp[hb]))))
   all_goals
    go_wp2_with fail
    go_roundw
    case rel=>
     have hs9:=HFa.out.size;have h9:dK w9 (.slice (some ⟨g9,0,none⟩) (fl.length+1) cap9) (fl++[sl]):=by {
     unfold dK;rw[vW,zE];exact hown9};have:=HSet.out w9 w10 _ (fl++[sl]) _ h9 (by simp) (by rw[EV.out];exact hF9) (fun q hq=>by
       rw[EV.out];simp only[Value.ownBlock,qI]at hq;subst hq;exact hg9.imp (fun e=>e) (fun e=>by omega)) hM10 hG10
     rw[HNN.out]at this;refine⟨2,by omega,by go_num,qA ?_⟩;rw[<-HFL.out]at this;exact this
    case measure=>simp[intOf];try omega}}
   {
   obtain rfl:k=2:=by omega
   have hFr:=HS2.out.fr;have hxb:=hFr.blk HEnd.out.2.1 (HEnd.out.1 _ (by omega));have heb:=hFr.blk HEnd.out.2.2.1 (HEnd.out.1 _ (by omega));obtain⟨e0,e1,e2,e3,e4,e5,e6⟩:=heb.lvAt;simp only[Nat.zero_add]at e0 e1 e2 e3 e4 e5 e6;have z:=hxb.frozen;have t0:=hxb.cell 0;have t1:=hxb.cell 1;have t2:=hxb.cell 2;have t3:=hxb.cell 3;have t4:=hxb.cell 4;have t5:=hxb.cell 5;have t6:=hxb.cell 6;simp only[zI,zJ]at t0 t1 t2 t3 t4 t5 t6;have HXB:=qA (hxb.put7 ⟨sl,q1,u,v,wt,t,x⟩);clear hFr hxb heb hlt hk;rename World=>wo
   go_wp2_with fail
   have hrr:=HXB.out.lvAt;have hE:(⟨sl,q1,u,v,wt,t,x⟩:Lv)=s.edge u v wt t x:=by unfold Sm.edge;rw[HSL.out,HQ1.out]
   unfold aHX Go.Proofs.YtjdgpcjbgjnahaaGreatDoor.put7 at hrr;simp only[Nat.zero_add]at hrr;obtain⟨r0,r1,r2,r3,r4,r5,r6⟩:=hrr;refine bodyPost_ret (v:=.tuple #[lvA ⟨sl,q1,u,v,wt,t,x⟩,.int .i64 0]) (by simp[results,Tryz.results135,go_sem,r0,r1,r2,r3,r4,r5,r6]) rfl ⟨by rw[hE],?_⟩;have hx1:=HEnd.out.2.1.lt;have hsz2:=HX.out.2.2.2;have hw5:=HW5.out.2.2.2.2.2;have hw4:w2.heap.size<=w4.heap.size:=HX4.out.2.2.2.2.1.size;have hw45:=HW5.out.2.2.2.2.1.lt
   exact aJV HB.out HCK.out hu hv HLL.out HSL.out HQ1.out HS2.out HD7.out.1 HEnd.out.2.2.2.1 HEnd.out.2.2.2.2.1 HEnd.out.2.2.2.2.2 HCL.out
     (fun q hq=>(HX4.out.2.2.2.2.2 q hq).imp (fun e=>e) (fun e=>by omega)) (fun q hq=>(HS.out.2.2.2 q hq).imp (fun e=>e) (fun e=>by omega)) (by omega) hnn hgt hn'}}
end
def rR(f:Nat->List Nat)(id sl:Nat):Nat->List Nat:=mM f id ((f id).filter (· != sl))
theorem rB{p:List Nat}(h:p.Nodup)(x:Nat):p.eraseIdx (p.idxOf x)=p.filter (· != x):=by
 rw[<-h.erase_eq_filter,List.erase_eq_eraseIdx_of_idxOf rfl]
theorem vX(f:Nat->List Nat)(id sl:Nat):rR f id sl id=(f id).filter (· != sl):=iX _ _ _
theorem kF{f:Nat->List Nat}{id sl x:Nat}(h:x≠id):rR f id sl x=f x:=eB h
theorem aNQ{s:Sm}(h:s.Ok){k:Nat}(hu:s.A.isUsed k):rR (rR (bU s.L) (aG s.L k).u k) (aG s.L k).v k=bU (s.L.filter fun e=>e.slot != k):=by
 obtain⟨hm,hs⟩:=Sm.live_used h hu;have hne:=h.ne _ hm;have hone:∀x∈s.L,x.slot=k->x=aG s.L k:=fun x hx hxs=>by rw[<-hxs,fN h.one hx]
 generalize aG s.L k=e at *;funext id
 rw[iH];by_cases h1:id=e.v
 {
 subst h1;rw[vX,kF (fun e=>hne e.symm)]}
 {
 rw[kF h1];by_cases h2:id=e.u
 · subst h2;rw[vX]
 {
 rw[kF h2];refine(List.filter_eq_self.2 fun i hi=>?_).symm;obtain⟨x,hx,hat,hxs⟩:=eM.1 hi;simp only[bne_iff_ne];intro hik;have:=hone x hx (hxs.trans hik);subst this;simp[Lv.at]at hat;omega}}
theorem aNR{M:Md}(h:M.Ok){id:Nat}(hf:(M.find id).isSome=true):(M.del id).M.L.length+1=M.L.length:=by
 obtain⟨i,hi⟩:=qU.1 hf;unfold Md.del;rw[hi];exact Md.filter_ne h.ids (Md.find_mem hi)
theorem aAL{s:Sm}(h:s.Ok){k:Nat}(hu:s.A.isUsed k):k∈bU s.L (aG s.L k).u/\k∈bU s.L (aG s.L k).v:=by
 obtain⟨hm,hs⟩:=Sm.live_used h hu;exact⟨eM.2 ⟨_,hm,by simp[Lv.at],hs⟩,eM.2 ⟨_,hm,by simp[Lv.at],hs⟩⟩
section
variable {w7 wr:World} {ps pt mb n:Nat} {v7:Value} {la lT lb:List Nat} {M:Md} {f:Nat->List Nat}
theorem aAM(_hps:ps<w7.heap.size)(_hla:∀b∈la,b<w7.heap.size)(_hv7:∀q,v7.ownBlock=some q->q<w7.heap.size)(h:mN w7 ps pt mb v7 la lT lb M f n wr){id:Nat}(hid:id<U64):
    Calls Tryz.prog 155 #[ptr pt,.int .u64 id] wr fun e w' =>∃r,e=.returned r/\mN w7 ps pt mb v7 la lT lb (M.del id).M f n w' :=by
 obtain⟨lT', lb', c', hc,hT,hI,hF,h5,h6⟩:=h;refine(aMF id hid hT).mono ?_;rintro _ w' ⟨rfl,hT', hN1,hN2⟩;have hlt:=hT.lt;have hlb:=hI.ltb;have hml:=hI.ltm;have hsz:=hF.size;have hF' :Fr (mb::(lT++lb)) w7 w' :=hF.trans hN1 (fun q hq=>(h5 q hq).imp (fun e=>by simp[e]) (fun e=>e));refine⟨_,rfl,⟨lT', lb', c', hc,hT', ?_,hF', h5,h6⟩⟩;refine hI.fr hN1 (fun hm=>?_) (fun b hb hm=>?_)
 · have e1:=hc.t mb hm;have e2:=hc.m;omega
 · have e1:=hc.t b hm;have e2:=hc.b b hb;omega
theorem aEP{iv:Int->Option Value}{lT' lb' :List Nat}{c' :Nat->Nat}(hc:Cls c' ps mb v7 la lT' lb')(hT:gL wr pt M lT')(hI:nF wr mb iv f n lb')(hF:Fr (mb::(lT++lb)) w7 wr)
    (h5:∀q∈lT', q∈lT∨w7.heap.size<=q) (h6:∀q∈lb', q∈lb∨w7.heap.size<=q) {id:Nat} (hid:id<U64) {w8 w9:World} {n2:Nat}
    (hF1:Fr ((iv id).getD fP).ownBlock.toList wr w8) (hM:cV Tryz.prog 36 .u64 okS w9 mb (jR iv id none) n2) (hF2:Fr [mb] w8 w9):mN w7 ps pt mb v7 la lT lb M (mM f id []) n2 w9:=by
 have hI2:=hI.del hid hF1 hM hF2;have hin:=(hI.row id hid).2.2;have hG:Fr (mb::((iv id).getD fP).ownBlock.toList) wr w9:=(hF1.mono (S' :=mb::((iv id).getD fP).ownBlock.toList) (fun b hb=>.inl (List.mem_cons_of_mem _ hb))).trans hF2 (fun b hb=>.inl (by simp at hb;simp[hb]));refine⟨lT', lb', c', hc,hT.fr hG (fun b hb hm=>?_),⟨_,hI2⟩,hF.trans hG (fun b hb=>?_),h5,h6⟩
 {
 have e0:=hc.t b hb;rcases qB.1 hm with e|e
 · have:=hc.m;rw[<-e]at this;omega
 · have:=hc.b b (hin b (by simpa using e));omega}
 {
 rcases qB.1 hb with rfl|e
 · exact .inl (by simp)
 {
 rcases h6 b (hin b (by simpa using e)) with e2|e2
 · exact .inl (by simp[e2])
 · exact .inr e2}}
end
def gX(s:Sm)(k:Nat):Nat->Md
  | 0=>s.M
  | 1=>Sm.delIf s.M (s.L.filter fun e=>e.slot != k) (aG s.L k).u
  | _=>Sm.delIf (Sm.delIf s.M (s.L.filter fun e=>e.slot != k) (aG s.L k).u) (s.L.filter fun e=>e.slot != k) (aG s.L k).v
def vY(s:Sm)(k:Nat):Nat->Nat->List Nat
  | 0=>bU s.L
  | 1=>rR (bU s.L) (aG s.L k).u k
  | _=>rR (rR (bU s.L) (aG s.L k).u k) (aG s.L k).v k
def idK(e:Lv):Nat->Nat
  | 0=>e.u
  | _=>e.v
theorem aAN{s:Sm}(h:s.Ok){k:Nat}(hu:s.A.isUsed k){j:Nat}(hj:j<2):vY s k j (idK (aG s.L k) j)=bU s.L (idK (aG s.L k) j):=by
 have hne:=h.ne _ (Sm.live_used h hu).1;match j,hj with
 | 0,_=>rfl
 | 1,_=>exact kF (fun e=>hne e.symm)
theorem tS(s:Sm)(k:Nat){j:Nat}(hj:j<2):vY s k (j+1)=rR (vY s k j) (idK (aG s.L k) j) k:=by
 match j,hj with
 | 0,_=>rfl
 | 1,_=>rfl
theorem nQ{s:Sm}{k j:Nat}(hj:j<2):gX s k (j+1)=if (bU s.L (idK (aG s.L k) j)).filter (· != k)=[] then((gX s k j).del (idK (aG s.L k) j)).M else gX s k j:=by
 rw[<-iH];match j,hj with
 | 0,_=>rfl
 | 1,_=>rfl
theorem aJW{s:Sm}(h:s.Ok)(k j:Nat):(gX s k j).Ok:=by
 match j with
 | 0=>exact h.md
 | 1=>exact Sm.delIf_ok h.md _ _
 | j+2=>exact Sm.delIf_ok (Sm.delIf_ok h.md _ _) _ _
theorem aCQ{s:Sm}(h:s.Ok){k:Nat}(hu:s.A.isUsed k){j:Nat}(hj:j<2):((gX s k j).find (idK (aG s.L k) j)).isSome=true:=by
 have hne:=h.ne _ (Sm.live_used h hu).1;obtain⟨h1,h2⟩:=aAL h hu;match j,hj with
 | 0,_=>exact(h.vert _).2 (List.ne_nil_of_mem h1)
 | 1,_=>exact(Sm.delIf_find h.md _ _ _).2 ⟨(h.vert _).2 (List.ne_nil_of_mem h2),fun e=>absurd e.symm hne⟩
theorem aEQ{s:Sm}(h:s.Ok){k:Nat}(hu:s.A.isUsed k)(j:Nat):k∈bU s.L (idK (aG s.L k) j):=by
 obtain⟨h1,h2⟩:=aAL h hu;match j with
 | 0=>exact h1
 | j+1=>exact h2
theorem aER{s:Sm}(h:s.Ok){k:Nat}(hu:s.A.isUsed k)(j:Nat):idK (aG s.L k) j<U64:=by
 have:=h.u64 _ (Sm.live_used h hu).1;match j with
 | 0=>exact this.1
 | j+1=>exact this.2
theorem aGM{s:Sm}(h:s.Ok){k:Nat}(hu:s.A.isUsed k):vY s k 2=bU (s.L.filter fun e=>e.slot != k):=aNQ h hu
theorem aAO{s:Sm}(h:s.Ok){k:Nat}(hu:s.A.isUsed k){j:Nat}(hj:j<2)(he:(bU s.L (idK (aG s.L k) j)).filter (· != k)=[]):(gX s k (j+1)).L.length=(gX s k j).L.length-1:=by
 rw[nQ hj,qD he];have:=aNR (aJW h k j) (aCQ h hu hj);omega
theorem aCR(L:List Lv)(n k:Nat):((List.range n).map (aG L)).set k Lv.z=(List.range n).map (aG (L.filter fun e=>e.slot != k)):=by
 refine List.ext_getElem? fun i=>?_;rw[List.getElem?_set];by_cases hi:i<n
 {
 simp only[List.length_map,List.length_range,List.getElem?_map,List.getElem?_range hi,Option.map_some,uJ];by_cases he:k=i
 · rw[qD he,qD he.symm,qD (by omega)]
 · rw[qC he,qC (fun h=>he h.symm)]}
 {
 rw[zA (by simp;omega),zA (by simp;omega)];simp;omega}
end Go.Proofs.YtjdgpcjbgjnahaaGreatDoor
