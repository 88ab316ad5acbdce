/- The heap: above, below, settle. -/
import Derived.Test.YtjdgpcjbgjnahaaGreatDoorG7
import Derived.Test.YtjdgpcjbgjnahaaGreatDoorG4
import Derived.Test.YtjdgpcjbgjnahaaGreatDoorG1
import Derived.Deep.RegionHeld3
import Derived.StillTailTactics
import Derived.Deep.Upon
import Derived.Deep.RegionLaw
set_option maxRecDepth 10000
set_option maxHeartbeats 800000
set_option linter.unusedSimpArgs false
set_option linter.unusedVariables false
/- lct: Cut. -/
namespace Go.Proofs.YtjdgpcjbgjnahaaGreatDoor
open Go.RowKit Classical
noncomputable def fX(n:Nat)(E:Nat->Nat->Prop)(a b:Int):Int:=
  if inV n a=true/\inV n b=true then(if E a.toNat b.toNat then 0 else 5) else 3
noncomputable def xK(n:Nat)(E:Nat->Nat->Prop)(a b:Int):Nat->Nat->Prop:=if fX n E a b=0 then iP E a.toNat b.toNat else E
theorem aJD{n:Nat}{E:Nat->Nat->Prop}(h:Frs E){v u:Nat}(hv:v<n)(hu:u<n):tM n E v u=1↔E v u:=by
 constructor
 {
 intro e;by_cases hc:mZ n E v u
 {
 obtain⟨_,_,p,hp⟩:=hc;simp only[zC]at hp;rw[zY h hv hu hp]at e;obtain⟨l,rfl,hw,_,hl⟩:=hp;have hlen:l.length=1:=by simp at e;omega
 match l,hlen with
 | [x],_=>{
 simp at hl;subst hl;exact hw.1}}
 · unfold tM at e;rw[qC hc]at e;cases e}
 {
 intro e;rw[zY h hv hu (h.edge e)];rfl}
theorem aSW{w:World}{pf g n:Nat}{E:Nat->Nat->Prop}{key:Nat->Int}(h:LM w pf g n E key)(a b:Int):
    Calls Tryz.prog 198 #[.pointer (some ⟨pf,0,none⟩),.int .i64 a,.int .i64 b] w fun e w' =>e=.returned (.int .i64 (fX n E a b))/\LM w' pf g n (xK n E a b) key/\Fr [pf,g] w w' :=by
 have H:=qA h;have hfrs:=qA (LG.frs h);obtain⟨hp1,hg1,hn1⟩:=LG.lts h;obtain⟨cap,σ,F,par,d,rt,hL,hF,hE,hk⟩:=h;clear hF hE hk;have hLa:aF (w.alloc (.cells #[.int .i64 a,.int .i64 b] 3)) pf g (n+1) cap σ ((n:Int)-nc n E):=hL.below ((Below.refl _ w).alloc (qJ _) _) hp1 hg1;have hblk:=Blk.new w [.int .i64 a,.int .i64 b] 3;have hFa:Fr [] w (w.alloc (.cells #[.int .i64 a,.int .i64 b] 3)):=(Fr.refl _ _).alloc _;have HMa:=qA (LG.fr H.out hFa (by simp) (by simp));have hCk:=xI hLa w.heap.size 2 (fun k=>if k=0 then a else b) (by decide) (fun k hk=>by
   rw[hblk.cell];rcases(show k=0∨k=1 by omega) with rfl|rfl<;>rfl)
 have HCk:=qA hCk;clear hCk hblk;clear hLa hL;go_enter Tryz.func198,Tryz.ntmps198
 go_wp2_with fail
 refine HCk.out.mono ?_;rintro _ w1 ⟨hcode,rfl⟩;clear HCk;generalize w.alloc (.cells #[.int .i64 a,.int .i64 b] 3)=w1 at *;rcases hcode with⟨rfl,hall⟩|⟨rfl,k,hk,hbad⟩
 {
 have va:inV n a=true:=hall 0 (by decide);have vb:inV n b=true:=hall 1 (by decide);clear hall;obtain⟨v,rfl,hv⟩:=dX va;obtain⟨u,rfl,hu⟩:=dX vb;have hd1:=aJD (n:=n) hfrs.out hv hu;go_wp2_with fail
 refine(aQA HMa.out (v:Int) (u:Int)).mono ?_;rintro _ w2 ⟨rfl,hM2,hF2⟩;by_cases he:E v u
 {
 have hlc:fX n E v u=0:=by unfold fX;rw[qD ⟨va,vb⟩,zC,zC,qD he]
 have hle:xK n E v u=iP E v u:=by unfold xK;rw[hlc,qD rfl,zC,zC]
 have Hlc:=qA (zH hlc hle);clear hlc hle;have Hd:=qA (hd1.2 he);rw[Hd.out];have He:=qA he;clear va vb hd1;obtain⟨cap2,σ2,F2,par2,d2,rt2,hL2,hLF2,hE2,hk2⟩:=hM2;have hrt:rt2 (v+1)=rt2 (u+1):=(fW hLF2.rtd hE2).1 (dQ hfrs.out he);have HF2:=qA hLF2;clear hLF2;have HE2:=qA hE2;clear hE2;have HK2:=qA hk2;clear hk2;clear he;have hN:=hL2.le;go_wp2_with fail
 refine(aCI hL2 HF2.out v u hv hu).mono ?_;rintro _ w3 ⟨rfl,τ,l,R,par', d', rt', hL3,hP,hF3⟩;obtain⟨p,hp1', hp2', _⟩:=hP.at HE2.out hrt;have hpe:p=[v,u]:=hfrs.out.unique hp1' (hfrs.out.edge He.out);have hls:l.seq=[v+1]:=by {
 rw[hpe]at hp2';simp only[List.map_cons,List.map_nil]at hp2';have e:[v+1]++[u+1]=l.seq++[u+1]:=hp2';exact(List.append_cancel_right e).symm};have HCt:=qA (hP.lf.cut hls);have HPk:=qA (zH hP.key hP.adj);clear hP hp1' hp2' hpe hls hrt;have d3:=hL3.hd.cell 1;simp only[zI,zJ]at d3;have hfz3:=hL3.nodes.frozen;have a2:=hL3.nodes.c2 (v+1) (by omega);obtain⟨hL4,hF4⟩:aF (w3.setCell ⟨g,(v+1)*9+2,none⟩ (.int .i64 0)) pf g (n+1) cap2 (τ.upd (v+1) { τ (v+1) with up:=0 }) ((n:Int)-nc n E)/\Fr [g] w3 (w3.setCell ⟨g,(v+1)*9+2,none⟩ (.int .i64 0)):=hL3.st2 (Fr.refl [g] w3) (i:=v+1) (by omega) 0;have hv2:((v+1:Nat):Int)<((n+1:Nat):Int):=by omega
 have hu2:((u+1:Nat):Int)<((n+1:Nat):Int):=by omega
 have d4:=hL4.hd.cell 1;simp only[zI,zJ]at d4;have hfz4:=hL4.nodes.frozen;have b0:=hL4.nodes.c0 (u+1) (by omega);obtain⟨hL5,hF5⟩:=hL4.st0 hF4 (i:=u+1) (by omega) 0;have HL5:Hid (aF ((w3.setCell ⟨g,(v+1)*9+2,none⟩ (.int .i64 0)).setCell ⟨g,(u+1)*9,none⟩ (.int .i64 0)) pf g (n+1) cap2 (iC τ (v+1) (u+1)) ((n:Int)-nc n E)/\Fr [g] w3 ((w3.setCell ⟨g,(v+1)*9+2,none⟩ (.int .i64 0)).setCell ⟨g,(u+1)*9,none⟩ (.int .i64 0))):=qA (zH hL5 hF5);clear hL5 hF5 hL4 hF4;go_wp2_with fail
 refine(mC HL5.out.1 u hu HCt.out.2.2.2.2 HCt.out.2.2.1 HCt.out.2.2.2.1).mono ?_;rintro _ w6 ⟨rfl,hL6,hF6⟩;have hF36:Fr [g] w3 w6:=HL5.out.2.then hF6;clear HL5 d3 hfz3 a2 d4 hfz4 b0;have c6:=hL6.hd.cell 2;simp only[zI,zJ]at c6;have hfz6:=hL6.hd.frozen 2;obtain⟨par3,d3', rt3,F3,q1,q2⟩:=HCt.out.1;have hDE:∀x y,iP E v u x y↔Adj par3 (x+1) (y+1):=by {
 intro x y;rw[q2,HPk.out.2];unfold iP;rw[HE2.out x y];simp only[Nat.add_right_cancel_iff]};have hcnt:=aPU (n:=n) hfrs.out ⟨par3,d3', rt3,q1.rtd,hDE⟩ He.out hv hu;have hnc1:=aIT n (iP E v u);obtain⟨hL8,hF8⟩:=hL6.edges (hF2.then (hF3.then hF36)) ((n:Int)-nc n (iP E v u));have Hfin:=qA (show LM _ pf g n (iP E v u) key from⟨cap2,_,F3,par3,d3', rt3,hL8,q1,hDE,fun x hx=>by rw[HCt.out.2.1,HPk.out.1];exact HK2.out x hx⟩);have he2:(n:Int)-nc n E-1=(n:Int)-nc n (iP E v u):=by omega
 have He2:=qA he2;clear hL8 q1 q2 hDE hcnt he2 HCt;have hncE:=aIT n E;generalize nc n E=z1 at *;generalize nc n (iP E v u)=z2 at *;go_wp2
 go_ret;rw[Hlc.out.1,Hlc.out.2,He2.out];exact⟨rfl,Hfin.out,(hFa.mono (S' :=[pf,g]) (by simp)).trans hF8 (fun q hq=>.inl hq)⟩}
 {
 have hlc:fX n E v u=5:=by unfold fX;rw[qD ⟨va,vb⟩,zC,zC,qC he]
 have hle:xK n E v u=E:=by unfold xK;rw[hlc];simp
 have Hlc:=qA (zH hlc hle);clear hlc hle;have hne:(tM n E v u != 1)=true:=bne_iff_ne.2 (fun e=>he (hd1.1 e));have HM2:=qA hM2;clear va vb hd1 he hM2;go_wp2
 go_ret;rw[Hlc.out.1,Hlc.out.2];exact⟨rfl,HM2.out,(hFa.mono (S' :=[pf,g]) (by simp)).trans hF2 (fun q hq=>.inl (by simp at hq;simp[hq]))⟩}}
 {
 have hlc:fX n E a b=3:=by {
 unfold fX;rw[qC];rintro⟨h1,h2⟩;rcases(show k=0∨k=1 by omega) with rfl|rfl
 · have hbad:inV n a=false:=hbad;rw[h1]at hbad;cases hbad
 · have hbad:inV n b=false:=hbad;rw[h2]at hbad;cases hbad};have hle:xK n E a b=E:=by unfold xK;rw[hlc];simp
 have Hlc:=qA (zH hlc hle);clear hlc hle hbad;go_wp2
 go_ret;rw[Hlc.out.1,Hlc.out.2];exact⟨rfl,HMa.out,hFa.mono (by simp)⟩}
end Go.Proofs.YtjdgpcjbgjnahaaGreatDoor
namespace Go.Proofs.YtjdgpcjbgjnahaaGreatDoor
open Classical
def TE(S:Nat)(G:cW)(T:Nat->Prop)(v u:Nat):Prop:=
  ∃s a b x,G s=some (a,b,x)/\T s/\((v=s/\(u=S+a∨u=S+b))∨(u=s/\(v=S+a∨v=S+b)))
section
variable {S:Nat} {G:cW} {T W:Nat->Prop} {a b:Nat} {p:List Nat}
theorem aMX{v u:Nat}(h:TE S G T v u):TE S G T u v:=by
 obtain⟨s,a,b,x,h1,h2,h3⟩:=h;exact⟨s,a,b,x,h1,h2,h3.symm⟩
theorem xL{T' :Nat->Prop}(ht:∀s,T s->T' s){v u:Nat}(h:TE S G T v u):TE S G T' v u:=by
 obtain⟨s,a,b,x,h1,h2,h3⟩:=h;exact⟨s,a,b,x,h1,ht s h2,h3⟩
theorem zZ(hS:∀s e,G s=some e->s<S):∀{l:List Nat} {v:Nat},Wk (TE S G T) v l->(∀y∈v::l,y<S->W y) ->
    ((S<=v->Cx G (fun t=>T t/\W t) a (v-S))/\(v<S->∃c d x,G v=some (c,d,x)/\Cx G (fun t=>T t/\W t) a c/\Cx G (fun t=>T t/\W t) a d)) ->
    ∀y∈v::l,(S<=y->Cx G (fun t=>T t/\W t) a (y-S))/\(y<S->∃c d x,G y=some (c,d,x)/\Cx G (fun t=>T t/\W t) a c/\Cx G (fun t=>T t/\W t) a d)
  | [],v,_,_,hv,y,hy=>by simp at hy;subst hy;exact hv
  | z::l,v,⟨h1,h2⟩,hW,hv,y,hy=>by
    rcases qB.1 hy with rfl|hy
    · exact hv
    refine zZ hS h2 (fun y hy=>hW y (by simp at hy ⊢;exact .inr hy)) ?_ y hy;obtain⟨s,c,d,x,hg,ht,h3⟩:=h1;have hs:=hS s _ hg;rcases h3 with⟨rfl,h3⟩|⟨rfl,h3⟩
    · obtain ⟨c', d', x', hg', h4, h5⟩ := hv.2 hs
      rw[hg]at hg'; simp only[qI,zD]at hg';obtain⟨rfl,rfl,rfl⟩:=hg';rcases h3 with rfl|rfl
      · exact⟨fun _=>by rw[Nat.add_sub_cancel_left];exact h4,fun e=>by omega⟩
      · exact⟨fun _=>by rw[Nat.add_sub_cancel_left];exact h5,fun e=>by omega⟩
    · have hw := hW z (by simp) hs
      have ed:Cx G (fun t=>T t/\W t) c d:=Cx.edge (s:=z) ⟨ht,hw⟩ hg;refine⟨fun e=>by omega,fun _=>⟨c,d,x,hg,?_⟩⟩;rcases h3 with rfl|rfl
      · have h4 := hv.1 (by omega)
        rw[Nat.add_sub_cancel_left]at h4;exact⟨h4,h4.trans ed⟩
      · have h4 := hv.1 (by omega)
        rw[Nat.add_sub_cancel_left]at h4;exact⟨h4.trans ed.symm,h4⟩
theorem aEC(hS:∀s e,G s=some e->s<S)(hp:bR (TE S G T) (S+a) (S+b) p)(hW:∀y∈p,y<S->W y):Cx G (fun t=>T t/\W t) a b:=by
 obtain⟨l,rfl,h2,_,h4⟩:=hp;have hb:S+b∈(S+a)::l:=List.mem_of_getLast? h4;have:=(zZ hS h2 hW ⟨fun _=>by rw[Nat.add_sub_cancel_left];exact .refl a,fun e=>by omega⟩ _ hb).1 (by omega);rw[Nat.add_sub_cancel_left]at this;exact this
theorem tO(_hS:∀s e,G s=some e->s<S)(hp:bR (TE S G T) (S+a) (S+b) p){m:Nat}(hm:m∈p)(hms:m<S):∃c d x,G m=some (c,d,x)/\T m:=by
 obtain⟨l,rfl,h2,_,h4⟩:=hp;have key:∀{l:List Nat} {v:Nat},Wk (TE S G T) v l->m∈l->∃c d x,G m=some (c,d,x)/\T m:=by {
 intro l;induction l with
 | nil=>intro v _ h;simp at h
 | cons z l ih=>{
 intro v ⟨h1,h2⟩ hm;rcases qB.1 hm with rfl|hm
 {
 obtain⟨s,c,d,x,hg,ht,h3⟩:=h1;rcases h3 with⟨_,h3⟩|⟨rfl,_⟩
 · omega
 · exact⟨c,d,x,hg,ht⟩}
 · exact ih h2 hm}};rcases qB.1 hm with rfl|hm
 · omega
 · exact key h2 hm
theorem aQB(hp:bR (TE S G T) (S+a) (S+b) p)(hS:∀s e,G s=some e->s<S)(hab:a≠b):∃s,s∈p/\s<S:=by
 obtain⟨l,rfl,h2,_,h4⟩:=hp;cases l with
 | nil=>simp at h4;exact absurd h4 hab
 | cons z l=>{
 refine⟨z,by simp,?_⟩;obtain⟨s,c,d,x,hg,_,h3⟩:=h2.1;have:=hS s _ hg;rcases h3 with⟨h3,_⟩|⟨rfl,_⟩
 · omega
 · exact this}
theorem xM(hf:Frs (TE S G T))(h:Cx G T a b):bW (TE S G T) (S+a) (S+b):=by
 induction h with
 | refl=>exact bW.refl _ _
 | @step c d s x _ h1 h2 ih=>{
 refine hf.ctrans ih ?_;rcases h2 with h2|h2
 · exact hf.ctrans (dQ hf ⟨s,c,d,x,h2,h1,.inr ⟨rfl,.inl rfl⟩⟩) (dQ hf ⟨s,c,d,x,h2,h1,.inl ⟨rfl,.inr rfl⟩⟩)
 · exact hf.ctrans (dQ hf ⟨s,d,c,x,h2,h1,.inr ⟨rfl,.inr rfl⟩⟩) (dQ hf ⟨s,d,c,x,h2,h1,.inl ⟨rfl,.inl rfl⟩⟩)}
theorem aQC(hS:∀s e,G s=some e->s<S)(hf:Frs (TE S G T)):bW (TE S G T) (S+a) (S+b)↔Cx G T a b:=
  ⟨fun⟨_,hp⟩=>(aEC (W:=fun _=>True) hS hp (fun _ _ _=>trivial)).mono (fun _ _ h _=>h.1),xM hf⟩
theorem aQD(hf:Frs (TE S G T)){m:Nat}(hf' :Frs (TE S G (fun t=>T t/\t≠m)))(hp:bR (TE S G T) (S+a) (S+b) p)(hm:m∈p)(hms:m<S):¬Cx G (fun t=>T t/\t≠m) a b:=by
 intro h;obtain⟨q,hq⟩:=xM hf' h;have e:=hf.unique hp (hq.mono (fun x y=>xL (fun s h=>h.1)));rw[e]at hm;obtain⟨l,rfl,h2,_,_⟩:=hq;have key:∀{l:List Nat} {v:Nat},Wk (TE S G (fun t=>T t/\t≠m)) v l->m∈l->False:=by {
 intro l;induction l with
 | nil=>intro v _ h;simp at h
 | cons z l ih=>{
 intro v ⟨h1,h2⟩ hm;rcases qB.1 hm with rfl|hm
 {
 obtain⟨s,c,d,x,hg,ht,h3⟩:=h1;rcases h3 with⟨_,h3⟩|⟨rfl,_⟩
 · omega
 · exact ht.2 rfl}
 · exact ih h2 hm}};rcases qB.1 hm with rfl|hm
 · omega
 · exact key h2 hm
theorem aQE{s:Nat}{x:Int}(hg:G s=some (a,b,x)):dZ (dZ (TE S G T) s (S+a)) s (S+b)=TE S G (fun t=>T t∨t=s):=by
 refine vP fun v u=>?_;unfold dZ;constructor
 {
 rintro((h|⟨rfl,rfl⟩|⟨rfl,rfl⟩)|⟨rfl,rfl⟩|⟨rfl,rfl⟩)
 · exact xL (fun _=>.inl) h
 · exact⟨v,a,b,x,hg,.inr rfl,.inl ⟨rfl,.inl rfl⟩⟩
 · exact⟨u,a,b,x,hg,.inr rfl,.inr ⟨rfl,.inl rfl⟩⟩
 · exact⟨v,a,b,x,hg,.inr rfl,.inl ⟨rfl,.inr rfl⟩⟩
 · exact⟨u,a,b,x,hg,.inr rfl,.inr ⟨rfl,.inr rfl⟩⟩}
 {
 rintro⟨t,c,d,y,h1,h2|rfl,h3⟩
 · exact .inl (.inl ⟨t,c,d,y,h1,h2,h3⟩)
 {
 rw[hg]at h1;simp only[qI,zD]at h1;obtain⟨rfl,rfl,rfl⟩:=h1;rcases h3 with⟨rfl,rfl|rfl⟩|⟨rfl,rfl|rfl⟩<;>simp}}
theorem aQF(hS:∀s e,G s=some e->s<S){s:Nat}{x:Int}(hg:G s=some (a,b,x)):iP (iP (TE S G T) s (S+a)) s (S+b)=TE S G (fun t=>T t/\t≠s):=by
 have hs:=hS s _ hg;refine vP fun v u=>?_;unfold iP;constructor
 {
 rintro⟨⟨⟨t,c,d,y,h1,h2,h3⟩,n1,n2⟩,n3,n4⟩;refine⟨t,c,d,y,h1,⟨h2,?_⟩,h3⟩;rintro rfl;rw[hg]at h1;simp only[qI,zD]at h1;obtain⟨rfl,rfl,rfl⟩:=h1;rcases h3 with⟨rfl,rfl|rfl⟩|⟨rfl,rfl|rfl⟩
 · exact n1 ⟨rfl,rfl⟩
 · exact n3 ⟨rfl,rfl⟩
 · exact n2 ⟨rfl,rfl⟩
 · exact n4 ⟨rfl,rfl⟩}
 {
 rintro⟨t,c,d,y,h1,⟨h2,hne⟩,h3⟩;have ht:=hS t _ h1;exact⟨⟨⟨t,c,d,y,h1,h2,h3⟩,by omega,by omega⟩,by omega,by omega⟩}
theorem tP{G' :cW}{T' :Nat->Prop}(h1:∀s,T s↔T' s)(h2:∀s,T s->G s=G' s):TE S G T=TE S G' T' :=by
 refine vP fun v u=>?_;constructor
 {
 rintro⟨t,c,d,y,e1,e2,e3⟩;exact⟨t,c,d,y,by rw[<-h2 t e2];exact e1,(h1 t).1 e2,e3⟩}
 {
 rintro⟨t,c,d,y,e1,e2,e3⟩;have:=(h1 t).2 e2;exact⟨t,c,d,y,by rw[h2 t this];exact e1,this,e3⟩}
theorem aQG{s v:Nat}(hT:¬T s)(hs:s<S):¬TE S G T v s:=by
 rintro⟨t,c,d,y,h1,h2,⟨_,h3⟩|⟨rfl,_⟩⟩
 · omega
 · exact hT h2
theorem aAA{s v:Nat}(hT:¬T s)(hs:s<S)(hv:v≠s)(hf:Frs (TE S G T)):¬bW (TE S G T) s v:=by
 intro h;obtain⟨x,hx⟩:=aMV (hf.csymm h) (fun e=>hv e);exact aQG hT hs hx
theorem aMY:TE S (fun _=>none) T=fun _ _=>False:=by
 refine vP fun v u=>?_;simp[TE]
end
structure GW (S V:Nat) (G:cW):Prop where
  slot:∀s e,G s=some e->s<S
  ends : ∀ s a b x, G s = some (a, b, x) -> a < V /\ b < V /\ a ≠ b
  rng:∀s a b x,G s=some (a,b,x)-> -9223372036854775808<=x/\x<=9223372036854775807
structure aPE (S V:Nat) (G:cW) (T:Nat->Prop) (key:Nat->Int):Prop where
  slot:∀s a b x,G s=some (a,b,x)->T s->key s=x
  vert:∀v,v<V->key (S+v)=9223372036854775807
section
variable {S V:Nat} {G:cW} {a b m:Nat} {p:List Nat} {key:Nat->Int}
theorem GW.no(S V:Nat):GW S V (fun _=>none):=⟨fun _ _ h=>(by cases h),fun _ _ _ _ h=>(by cases h),fun _ _ _ _ h=>(by cases h)⟩
theorem GW.put(h:GW S V G){s:Nat}{x:Int}(hs:s<S)(ha:a<V)(hb:b<V)(hab:a≠b)(hx:-9223372036854775808<=x/\x<=9223372036854775807):GW S V (bT G s (some (a,b,x))):=by
 have key:∀t e,bT G s (some (a,b,x)) t=some e->(t=s/\e=(a,b,x))∨G t=some e:=by {
 intro t e ht;by_cases h1:t=s
 · subst h1;rw[bE]at ht;cases ht;exact .inl ⟨rfl,rfl⟩
 · rw[aK h1]at ht;exact .inr ht};refine⟨fun t e ht=>?_,fun t c d y ht=>?_,fun t c d y ht=>?_⟩
 {
 rcases key _ _ ht with⟨rfl,_⟩|h1
 · exact hs
 · exact h.slot _ _ h1}
 {
 rcases key _ _ ht with⟨rfl,e⟩|h1
 · cases e;exact⟨ha,hb,hab⟩
 · exact h.ends _ _ _ _ h1}
 {
 rcases key _ _ ht with⟨rfl,e⟩|h1
 · cases e;exact hx
 · exact h.rng _ _ _ _ h1}
theorem GW.del(h:GW S V G)(s:Nat):GW S V (bT G s none):=by
 have key:∀t e,bT G s none t=some e->G t=some e:=by {
 intro t e ht;by_cases h1:t=s
 · subst h1;rw[bE]at ht;cases ht
 · rw[aK h1]at ht;exact ht};exact⟨fun t e ht=>h.slot _ _ (key _ _ ht),fun t c d y ht=>h.ends _ _ _ _ (key _ _ ht),fun t c d y ht=>h.rng _ _ _ _ (key _ _ ht)⟩
theorem aCK(h:GW S V G)(hk:aPE S V G (aP G) key)(hp:bR (TE S G (aP G)) (S+a) (S+b) p)(hab:a≠b)(hf:rV key p m)(hn:∀x∈p,x<S+V):
    ∃ma mb y,m<S/\G m=some (ma,mb,y)/\aP G m/\Cx G (fun t=>aP G t/\(t=m∨Aft G m y t)) a b:=by
 have hms:m<S:=by {
 apply qP;intro hms;obtain⟨s,hs,hsS⟩:=aQB hp h.slot hab;obtain⟨c,d,x,hg,ht⟩:=tO h.slot hp hs hsS;have h1:=hk.slot s c d x hg ht;have h2:=hk.vert (m-S) (by have:=hn m hf.1;omega);rw[show S+(m-S)=m by omega]at h2;have h3:=h.rng s c d x hg;rcases hf.2 s hs (by omega) with e|⟨_,e⟩<;>omega};obtain⟨ma,mb,y,hg,ht⟩:=tO h.slot hp hf.1 hms;refine⟨ma,mb,y,hms,hg,ht,aEC h.slot hp fun t htp htS=>?_⟩;by_cases e:t=m
 · exact .inl e
 obtain⟨c,d,x,hg', ht'⟩:=tO h.slot hp htp htS;have h1:=hk.slot t c d x hg' ht';have h2:=hk.slot m ma mb y hg ht;refine .inr ⟨c,d,x,hg', ?_⟩;rw[<-h1,<-h2];rcases hf.2 t htp e with e1|⟨e1,e2⟩
 · exact .inl e1
 · exact .inr ⟨e1,e2⟩
end
noncomputable def gP(S:Nat)(T:Nat->Prop):Nat:=((List.range S).filter fun s=>decide (T s)).length
theorem oL(S:Nat)(T:Nat->Prop):gP S T<=S:=by
 unfold gP;have:=List.length_filter_le (fun s=>decide (T s)) (List.range S);simpa using this
theorem nN{S:Nat}{T T' :Nat->Prop}(h:∀s,T s↔T' s):gP S T=gP S T' :=by
 have:T=T' :=funext fun s=>propext (h s);rw[this]
theorem tQ{S:Nat}{T T' :Nat->Prop}{m:Nat}(hm:m<S)(ht:T m)(hn:¬T' m)(h:∀x,x≠m->(T' x↔T x)):gP S T' + 1=gP S T:=by
 unfold gP;exact gC (P:=fun s=>decide (T s)) (P' :=fun s=>decide (T' s)) (m:=m) List.nodup_range (List.mem_range.2 hm) (by simp[ht]) (by simp[hn]) (fun x _ hx=>by simp[h x hx])
theorem vQ{S:Nat}{T:Nat->Prop}{m:Nat}(hm:m<S)(ht:T m):gP S (fun t=>T t/\t≠m)+1=gP S T:=
  tQ hm ht (fun h=>h.2 rfl) (fun _ hx=>⟨fun h=>h.1,fun h=>⟨h,hx⟩⟩)
theorem aJE{S:Nat}{T:Nat->Prop}{m:Nat}(hm:m<S)(ht:¬T m):gP S (fun t=>T t∨t=m)=gP S T+1:=by
 have:=vQ (T:=fun t=>T t∨t=m) hm (.inr rfl);rw[<-this,nN (T:=fun t=>(T t∨t=m)/\t≠m) (T' :=T)];intro s;constructor
 {
 rintro⟨h|h,h2⟩
 · exact h
 · exact absurd h h2}
 {
 intro h;exact⟨.inl h,by rintro rfl;exact ht h⟩}
theorem vR(S:Nat):gP S (fun _=>False)=0:=by simp[gP]
section
variable {S V:Nat} {G:cW} {T T' U:Nat->Prop} {a b c d m:Nat} {x y:Int}
theorem aJF{P:Nat->Prop}{S:Nat}(h:gP S P=0):∀s,s<S->¬P s:=by
 intro s hs hp;unfold gP at h;have h1:s∈(List.range S).filter fun s=>decide (P s):=qZ.2 ⟨List.mem_range.2 hs,by simp[hp]⟩;rw[List.length_eq_zero_iff.1 h]at h1;simp at h1
theorem Frs.sub{E E' :Nat->Nat->Prop}(h:Frs E)(hs:∀v u,E' v u->E v u)(sy:∀v u,E' v u->E' u v):Frs E' :=by
 obtain⟨par,d,rt,hR,hE⟩:=h;have hp:∀x,(if x≠0/\par x≠0/\E' (x-1) (par x-1) then par x else 0)≠0->(if x≠0/\par x≠0/\E' (x-1) (par x-1) then par x else 0)=par x/\par x≠0/\E' (x-1) (par x-1):=by {
 intro x hx;by_cases h:x≠0/\par x≠0/\E' (x-1) (par x-1)
 · exact⟨qD h,h.2.1,h.2.2⟩
 · exact absurd (qC h) hx};obtain⟨rt', hR'⟩:=aOY (par:=fun x=>if x≠0/\par x≠0/\E' (x-1) (par x-1) then par x else 0) (d:=d) (fun x hx=>by
   have:=hp x hx;show d (if x≠0/\par x≠0/\E' (x-1) (par x-1) then par x else 0)<d x
   rw[this.1];exact hR.dep x this.2.1)
 refine⟨_,d,rt', hR', fun v u=>⟨fun e=>?_,fun e=>?_⟩⟩
 {
 obtain⟨h1,h2,h3⟩:=(hE v u).1 (hs v u e);refine⟨h1,h2,h3.imp (fun q=>?_) (fun q=>?_)⟩
 {
 show(if v+1≠0/\par (v+1)≠0/\E' (v+1-1) (par (v+1)-1) then par (v+1) else 0)=u+1
 rw[q,qD ⟨by omega,by omega,by simpa using e⟩]}
 {
 show(if u+1≠0/\par (u+1)≠0/\E' (u+1-1) (par (u+1)-1) then par (u+1) else 0)=v+1
 rw[q,qD ⟨by omega,by omega,by simpa using sy _ _ e⟩]}}
 {
 obtain⟨h1,h2,h3⟩:=e;rcases h3 with q|q
 {
 have:=hp (v+1) (by show(if v+1≠0/\par (v+1)≠0/\E' (v+1-1) (par (v+1)-1) then par (v+1) else 0)≠0;rw[show(if v+1≠0/\par (v+1)≠0/\E' (v+1-1) (par (v+1)-1) then par (v+1) else 0)=u+1 from q];omega);have e1:par (v+1)=u+1:=this.1.symm.trans q;have:=this.2.2;rw[e1]at this;simpa using this}
 {
 have:=hp (u+1) (by show(if u+1≠0/\par (u+1)≠0/\E' (u+1-1) (par (u+1)-1) then par (u+1) else 0)≠0;rw[show(if u+1≠0/\par (u+1)≠0/\E' (u+1-1) (par (u+1)-1) then par (u+1) else 0)=v+1 from q];omega);have e1:par (u+1)=v+1:=this.1.symm.trans q;have:=this.2.2;rw[e1]at this;exact sy _ _ (by simpa using this)}}
theorem aQH(h:Frs (TE S G T))(hs:∀t,T' t->T t):Frs (TE S G T'):=h.sub (fun _ _=>xL hs) (fun _ _=>aMX)
def vS(G:cW)(m:Nat):Prop:=∃a b x,G m=some (a,b,x)/\∀t c d z,G t=some (c,d,z)->¬bef z t x m
theorem aMZ{m' :Nat}(h:vS G m)(h' :vS G m'):m=m' :=by
 obtain⟨a,b,x,h1,h2⟩:=h;obtain⟨a', b', x', h1', h2'⟩:=h';have:=h2 m' a' b' x' h1';have:=h2' m a b x h1;unfold bef at *;omega
noncomputable def oM(G:cW):Option Nat:=if h:∃m,vS G m then some (Classical.choose h) else none
theorem aED(h:vS G m):oM G=some m:=by
 have hx:∃m,vS G m:=⟨m,h⟩;unfold oM;rw[dif_pos hx];exact congrArg some (aMZ (Classical.choose_spec hx) h)
theorem aGG(h:∀s,G s=none):oM G=none:=by
 unfold oM;rw[dif_neg];rintro⟨m,a,b,x,h1,_⟩;rw[h m]at h1;cases h1
noncomputable def uU(G:cW):cW:=match oM G with
  | none=>G
  | some m=>bT G m none
end
end Go.Proofs.YtjdgpcjbgjnahaaGreatDoor
namespace Go.Proofs.YtjdgpcjbgjnahaaGreatDoor
open Go.RowKit
section
variable {s:Sm} {Q:Nat->Option Int} {G:Nat->Option (Nat×Nat×Int)} {i:Nat} {x:Int}
theorem aNA(hl:Lk s Q G)(hok:s.Ok)(hq:Q i=some x)(hm:∀j y,Q j=some y->¬(y<x∨(y=x/\j<i))):vS G i:=by
 obtain⟨e,he,hs,hx⟩:=(hl.q i x).1 hq;obtain⟨a,ha⟩:=qU.1 (gV hok he (x:=e.u) (by simp[Lv.at]));obtain⟨b,hb⟩:=qU.1 (gV hok he (x:=e.v) (by simp[Lv.at]));refine⟨a,b,x,(hl.g i a b x).2 ⟨e,he,hs,ha,hb,hx⟩,fun t c d z ht hbef=>?_⟩;obtain⟨e', he', hs', _,_,hx'⟩:=(hl.g t c d z).1 ht;exact hm t z ((hl.q t z).2 ⟨e', he', hs', hx'⟩) hbef
theorem aNB(hl:Lk s Q G)(hok:s.Ok)(hq:Q i=some x)(hm:∀j y,Q j=some y->¬(y<x∨(y=x/\j<i))):oM G=some i/\uU G=fun j=>if j=i then none else G j:=by
 have h1:=aED (aNA hl hok hq hm);refine⟨h1,?_⟩;unfold uU;rw[h1];rfl
end
end Go.Proofs.YtjdgpcjbgjnahaaGreatDoor
namespace Go.Proofs.YtjdgpcjbgjnahaaGreatDoor
def elt(a b:Nat×Int):Prop:=a.2<b.2∨(a.2=b.2/\a.1<b.1)
instance (a b:Nat×Int):Decidable (elt a b):=by unfold elt;exact inferInstance
theorem kA(a:Nat×Int):¬elt a a:=by unfold elt;omega
theorem pO{a b c:Nat×Int}(h:elt a b)(k:elt b c):elt a c:=by unfold elt at *;omega
theorem nO{a b c:Nat×Int}(h:¬elt a b)(k:¬elt b c):¬elt a c:=by unfold elt at *;omega
theorem pP{a b:Nat×Int}(h:elt a b):¬elt b a:=by unfold elt at *;omega
def gD(e:Nat->Nat×Int)(p q:Nat):Nat->Nat×Int:=fun x=>if x=p then e q else if x=q then e p else e x
theorem eY(e:Nat->Nat×Int)(p q:Nat):gD e p q p=e q:=by simp[gD]
theorem kB(e:Nat->Nat×Int)(p q:Nat):gD e p q q=e p:=by
 unfold gD;split
 · rename_i h;rw[h]
 · simp
theorem eD{e:Nat->Nat×Int}{p q x:Nat}(h1:x≠p)(h2:x≠q):gD e p q x=e x:=by simp[gD,h1,h2]
theorem aJG{e:Nat->Nat×Int}{n p q:Nat}(hp:p<n)(hq:q<n)(y:Nat×Int):(∃x,x<n/\gD e p q x=y)↔∃x,x<n/\e x=y:=by
 constructor
 {
 rintro⟨x,hx,rfl⟩;by_cases h1:x=p
 · exact⟨q,hq,by rw[h1,eY]⟩
 {
 by_cases h2:x=q
 · exact⟨p,hp,by rw[h2,kB]⟩
 · exact⟨x,hx,by rw[eD h1 h2]⟩}}
 {
 rintro⟨x,hx,rfl⟩;by_cases h1:x=p
 · exact⟨q,hq,by rw[h1,kB]⟩
 {
 by_cases h2:x=q
 · exact⟨p,hp,by rw[h2,eY]⟩
 · exact⟨x,hx,eD h1 h2⟩}}
def lG(e:Nat->Nat×Int)(n:Nat)(x:Nat×Int):Nat->Nat×Int:=fun k=>if k=n then x else e k
theorem fA(e:Nat->Nat×Int)(n:Nat)(x:Nat×Int):lG e n x n=x:=by simp[lG]
theorem dG{e:Nat->Nat×Int}{n k:Nat}{x:Nat×Int}(h:k≠n):lG e n x k=e k:=by simp[lG,h]
section
variable {n p:Nat} {e:Nat->Nat×Int}
def Hp(n:Nat)(e:Nat->Nat×Int):Prop:=∀k,0<k->k<n->¬elt (e k) (e ((k-1)/2))
def UpI(n:Nat)(e:Nat->Nat×Int)(p:Nat):Prop:=
  (∀k,0<k->k<n->k≠p->¬elt (e k) (e ((k-1)/2)))/\(0<p->∀c,0<c->c<n->(c-1)/2=p->¬elt (e c) (e ((p-1)/2)))
def DnI(n:Nat)(e:Nat->Nat×Int)(p:Nat):Prop:=
  (∀k,0<k->k<n->(k-1)/2≠p->¬elt (e k) (e ((k-1)/2)))/\(0<p->∀c,0<c->c<n->(c-1)/2=p->¬elt (e c) (e ((p-1)/2)))
theorem aNC(h:UpI n e p)(hd:¬(0<p/\elt (e p) (e ((p-1)/2)))):Hp n e:=by
 intro k h0 hk;by_cases hkp:k=p
 · subst hkp;exact fun he=>hd ⟨h0,he⟩
 · exact h.1 k h0 hk hkp
theorem aND(h:UpI n e p)(h0:0<p)(hp:p<n)(he:elt (e p) (e ((p-1)/2))):UpI n (gD e p ((p-1)/2)) ((p-1)/2):=by
 obtain⟨q,hq⟩:∃q,q=(p-1)/2:=⟨_,rfl⟩;rw[<-hq]at he ⊢;have hqp:q<p:=by omega
 constructor
 {
 intro k hk0 hk hkq;by_cases hkp:k=p
 {
 subst hkp;rw[<-hq,eY,kB];exact pP he}
 {
 rw[eD hkp hkq];by_cases e1:(k-1)/2=p
 {
 rw[e1,eY];have:=h.2 h0 k hk0 hk e1;rw[<-hq]at this;exact this}
 {
 by_cases e2:(k-1)/2=q
 {
 rw[e2,kB];have h1:=h.1 k hk0 hk hkp;rw[e2]at h1;exact fun hl=>h1 (pO hl he)}
 · rw[eD e1 e2];exact h.1 k hk0 hk hkp}}}
 {
 intro hq0 c hc0 hc hcq;have hn:(q-1)/2≠p:=by omega
 have hn2:(q-1)/2≠q:=by omega
 rw[eD hn hn2];have hqq:=h.1 q hq0 (by omega) (by omega);by_cases hcp:c=p
 · subst hcp;rw[eY];exact hqq
 {
 rw[eD hcp (by omega)];have h1:=h.1 c hc0 hc hcp;rw[hcq]at h1;exact nO h1 hqq}}
theorem aNE(h:Hp n e)(x:Nat×Int):UpI (n+1) (lG e n x) n:=by
 constructor
 {
 intro k h0 hk hkn;rw[dG hkn,dG (by omega)];exact h k h0 (by omega)}
 {
 intro _ c hc0 hc hcn;omega}
def aAB(n:Nat)(e:Nat->Nat×Int)(p:Nat):Nat:=if 2*p+1<n/\elt (e (2*p+1)) (e p) then 2*p+1 else p
def blw(n:Nat)(e:Nat->Nat×Int)(p:Nat):Nat:=if 2*p+2<n/\elt (e (2*p+2)) (e (aAB n e p)) then 2*p+2 else aAB n e p
theorem vT(n:Nat)(e:Nat->Nat×Int)(p:Nat):blw n e p=p∨(blw n e p<n/\(blw n e p=2*p+1∨blw n e p=2*p+2)/\elt (e (blw n e p)) (e p)):=by
 unfold blw aAB;by_cases h1:2*p+1<n/\elt (e (2*p+1)) (e p)
 {
 rw[qD h1];by_cases h2:2*p+2<n/\elt (e (2*p+2)) (e (2*p+1))
 · rw[qD h2];exact .inr ⟨h2.1,.inr rfl,pO h2.2 h1.2⟩
 · rw[qC h2];exact .inr ⟨h1.1,.inl rfl,h1.2⟩}
 {
 rw[qC h1];by_cases h2:2*p+2<n/\elt (e (2*p+2)) (e p)
 · rw[qD h2];exact .inr ⟨h2.1,.inr rfl,h2.2⟩
 · rw[qC h2];exact .inl rfl}
theorem vU(n:Nat)(e:Nat->Nat×Int)(p:Nat){c:Nat}(hc:c<n)(h:c=2*p+1∨c=2*p+2):¬elt (e c) (e (blw n e p)):=by
 unfold blw aAB;by_cases h1:2*p+1<n/\elt (e (2*p+1)) (e p)
 {
 rw[qD h1];by_cases h2:2*p+2<n/\elt (e (2*p+2)) (e (2*p+1))
 {
 rw[qD h2];rcases h with rfl|rfl
 · exact pP h2.2
 · exact kA _}
 {
 rw[qC h2];rcases h with rfl|rfl
 · exact kA _
 · exact fun hl=>h2 ⟨hc,hl⟩}}
 {
 rw[qC h1];by_cases h2:2*p+2<n/\elt (e (2*p+2)) (e p)
 {
 rw[qD h2];rcases h with rfl|rfl
 · exact fun hl=>h1 ⟨hc,pO hl h2.2⟩
 · exact kA _}
 {
 rw[qC h2];rcases h with rfl|rfl
 · exact fun hl=>h1 ⟨hc,hl⟩
 · exact fun hl=>h2 ⟨hc,hl⟩}}
theorem aNF(h:DnI n e p)(hd:blw n e p=p):Hp n e:=by
 intro k h0 hk;by_cases hkp:(k-1)/2=p
 {
 have:=vU n e p hk (by omega);rw[hd]at this;rw[hkp];exact this}
 · exact h.1 k h0 hk hkp
theorem aNG(h:DnI n e p)(hd:blw n e p≠p):DnI n (gD e p (blw n e p)) (blw n e p)/\p<blw n e p/\blw n e p<n:=by
 obtain⟨hbn,hb2,hbe⟩:=(vT n e p).resolve_left hd;have hl:=fun {c:Nat} (hc:c<n) (hh:c=2*p+1∨c=2*p+2)=>vU n e p hc hh;generalize blw n e p=b at *;refine⟨⟨?_,?_⟩,by omega,hbn⟩
 {
 intro k hk0 hk hkb;by_cases hkp:k=p
 {
 subst hkp;rw[eY,eD (by omega) (by omega)];exact h.2 hk0 b (by omega) hbn (by omega)}
 {
 by_cases hkb2:k=b
 {
 subst hkb2;rw[kB,show(k-1)/2=p by omega,eY];exact pP hbe}
 {
 rw[eD hkp hkb2];by_cases e1:(k-1)/2=p
 · rw[e1,eY];exact hl hk (by omega)
 · rw[eD e1 hkb];exact h.1 k hk0 hk e1}}}
 {
 intro _ c hc0 hc hcb;rw[eD (by omega) (by omega),show(b-1)/2=p by omega,eY];have:=h.1 c hc0 hc (by omega);rw[hcb]at this;exact this}
theorem aQI(h:Hp (n+1) e):DnI n (gD e 0 n) 0:=by
 refine⟨fun k hk0 hk hkp=>?_,fun h0=>absurd h0 (Nat.lt_irrefl _)⟩;rw[eD (by omega) (by omega),eD hkp (by omega)];exact h k hk0 (by omega)
theorem aJH(h:Hp n e):∀k,k<n->¬elt (e k) (e 0):=by
 intro k;induction k using Nat.strongRecOn with
 | _ k ih=>{
 intro hk;by_cases h0:k=0
 · subst h0;exact kA _
 · exact nO (h k (by omega) hk) (ih ((k-1)/2) (by omega) (by omega))}
end
structure kC (slots n:Nat) (e:Nat->Nat×Int) (pl:Nat->Nat):Prop where
  lt:∀p,p<n->(e p).1<slots
  at_:∀p,p<n->pl (e p).1=p+1
  inv:∀i,pl i≠0->∃p,p<n/\(e p).1=i
section
variable {slots n p q:Nat} {e:Nat->Nat×Int} {pl:Nat->Nat}
def kD(pl:Nat->Nat)(i x:Nat):Nat->Nat:=fun k=>if k=i then x else pl k
theorem jF(pl:Nat->Nat)(i x:Nat):kD pl i x i=x:=by simp[kD]
theorem cN{pl:Nat->Nat}{i x k:Nat}(h:k≠i):kD pl i x k=pl k:=by simp[kD,h]
theorem kC.inj(h:kC slots n e pl)(hp:p<n)(hq:q<n)(he:(e p).1=(e q).1):p=q:=by
 have h1:=h.at_ p hp;have h2:=h.at_ q hq;rw[he,h2]at h1;omega
theorem kC.le(h:kC slots n e pl):n<=slots:=by
 have hnd:((List.range n).map fun p=>(e p).1).Nodup:=by {
 rw[List.nodup_iff_pairwise_ne,List.pairwise_map];refine(List.nodup_range (n:=n)).imp_of_mem (fun {a b} ha hb hne he=>hne ?_);exact h.inj (by simpa using ha) (by simpa using hb) he};have hp:((List.range slots).filter fun i=>decide (i∈(List.range n).map fun p=>(e p).1)).Perm ((List.range n).map fun p=>(e p).1):=by {
 rw[List.perm_ext_iff_of_nodup (List.filter_sublist.nodup List.nodup_range) hnd];intro i;simp only[qZ,List.mem_range,decide_eq_true_eq,and_iff_right_iff_imp,qV];rintro⟨p,hp,rfl⟩;exact h.lt p hp};have h1:=hp.length_eq;have h2:=List.length_filter_le (fun i=>decide (i∈(List.range n).map fun p=>(e p).1)) (List.range slots);simp at h1 h2;omega
theorem kC.swap(h:kC slots n e pl)(hp:p<n)(hq:q<n):kC slots n (gD e p q) (kD (kD pl (e q).1 (p+1)) (e p).1 (q+1)):=by
 refine⟨fun x hx=>?_,fun x hx=>?_,fun i hi=>?_⟩
 {
 by_cases h1:x=p
 · rw[h1,eY];exact h.lt q hq
 {
 by_cases h2:x=q
 · rw[h2,kB];exact h.lt p hp
 · rw[eD h1 h2];exact h.lt x hx}}
 {
 by_cases h2:x=q
 · rw[h2,kB,jF]
 {
 by_cases h1:x=p
 {
 subst h1;rw[eY,cN (fun e1=>h2 (h.inj hx hq e1.symm)),jF]}
 {
 rw[eD h1 h2,cN (fun e1=>h1 (h.inj hx hp e1)),cN (fun e1=>h2 (h.inj hx hq e1))];exact h.at_ x hx}}}
 {
 by_cases h1:i=(e p).1
 · exact⟨q,hq,by rw[kB,h1]⟩
 {
 rw[cN h1]at hi;by_cases h2:i=(e q).1
 · exact⟨p,hp,by rw[eY,h2]⟩
 {
 rw[cN h2]at hi;obtain⟨x,hx,rfl⟩:=h.inv i hi;refine⟨x,hx,?_⟩;rw[eD (fun e1=>h1 (by rw[e1])) (fun e1=>h2 (by rw[e1]))]}}}
theorem kC.push(h:kC slots n e pl){i:Nat}{k:Int}(hi:i<slots)(h0:pl i=0):kC slots (n+1) (lG e n (i,k)) (kD pl i (n+1)):=by
 refine⟨fun x hx=>?_,fun x hx=>?_,fun j hj=>?_⟩
 {
 by_cases h1:x=n
 · rw[h1,fA];exact hi
 · rw[dG h1];exact h.lt x (by omega)}
 {
 by_cases h1:x=n
 · rw[h1,fA,jF]
 {
 rw[dG h1];have hx' :=h.at_ x (by omega);rw[cN (fun e1=>by rw[e1,h0]at hx'; omega)];exact hx'}}
 {
 by_cases h1:j=i
 · exact⟨n,by omega,by rw[fA,h1]⟩
 {
 rw[cN h1]at hj;obtain⟨x,hx,rfl⟩:=h.inv j hj;exact⟨x,by omega,by rw[dG (by omega)]⟩}}
theorem kC.pop(h:kC slots (n+1) e pl):kC slots n e (kD pl (e n).1 0):=by
 refine⟨fun x hx=>h.lt x (by omega),fun x hx=>?_,fun j hj=>?_⟩
 {
 rw[cN (fun e1=>by have:=h.inj (by omega:x<n+1) (by omega:n<n+1) e1;omega)];exact h.at_ x (by omega)}
 {
 by_cases h1:j=(e n).1
 · rw[h1,jF]at hj;exact absurd rfl hj
 {
 rw[cN h1]at hj;obtain⟨x,hx,rfl⟩:=h.inv j hj;refine⟨x,?_,rfl⟩;by_cases e1:x=n
 · subst e1;exact absurd rfl h1
 · omega}}
end
end Go.Proofs.YtjdgpcjbgjnahaaGreatDoor
namespace Go.Proofs.YtjdgpcjbgjnahaaGreatDoor
open Go.RowKit
abbrev aS(b:Nat):Value:=.pointer (some ⟨b,0,none⟩)
def fI(o:Option Nat):Value:=.pointer (o.map fun b=>⟨b,0,none⟩)
def gW(n:Nat)(e:Nat->Nat×Int):List Value:=(List.range n).flatMap fun p=>[.int .i64 (e p).1,.int .i64 (e p).2]
theorem entC_succ' (n:Nat)(e:Nat->Nat×Int):gW (n+1) e=gW n e++[.int .i64 (e n).1,.int .i64 (e n).2]:=by simp[gW,List.range_succ]
theorem jG(n:Nat)(e:Nat->Nat×Int):(gW n e).length=n*2:=by
 induction n with
 | zero=>rfl
 | succ n ih=>rw[entC_succ', zE,ih];simp;omega
theorem rW(e:Nat->Nat×Int):∀{n p:Nat},p<n->(gW n e)[p*2]? =some (.int .i64 ((e p).1:Int))/\(gW n e)[p*2+1]? =some (.int .i64 (e p).2):=by
 intro n;induction n with
 | zero=>intro p h;omega
 | succ n ih=>{
 intro p hp;rw[entC_succ'];have hl:=jG n e;by_cases h:p<n
 · rw[List.getElem?_append_left (by omega),List.getElem?_append_left (by omega)];exact ih h
 {
 obtain rfl:p=n:=by omega
 rw[List.getElem?_append_right (by omega),List.getElem?_append_right (by omega),hl];simp}}
theorem aCL{n:Nat}{e e' :Nat->Nat×Int}(h:∀p,p<n->e p=e' p):gW n e=gW n e' :=by
 induction n with
 | zero=>rfl
 | succ n ih=>rw[entC_succ', entC_succ', ih (fun p hp=>h p (by omega)),h n (by omega)]
theorem aGH(n:Nat)(e:Nat->Nat×Int)(x:Nat×Int):gW n e++[.int .i64 x.1,.int .i64 x.2]=gW (n+1) (lG e n x):=by
 rw[entC_succ', fA,aCL (n:=n) (e:=lG e n x) (e' :=e) (fun p hp=>dG (by omega))]
theorem aJI{n p:Nat}(hp:p<n)(e:Nat->Nat×Int)(x:Nat×Int):((gW n e).set (p*2) (.int .i64 x.1)).set (p*2+1) (.int .i64 x.2)=gW n (lG e p x):=by
 apply List.ext_getElem?;intro j;have hl:=jG n e;have hl' :=jG n (lG e p x);by_cases hj:j<n*2
 {
 have hj2:j/2<n:=by omega
 have h0:=rW (lG e p x) hj2;have h1:=rW e hj2;rcases(show j=j/2*2∨j=j/2*2+1 by omega) with e1|e1
 {
 generalize j/2=k at *;subst e1;rw[h0.1,List.getElem?_set_ne (by omega)];by_cases hk:k=p
 · subst hk;rw[List.getElem?_set_self (by omega),fA]
 · rw[List.getElem?_set_ne (by omega),h1.1,dG hk]}
 {
 generalize j/2=k at *;subst e1;rw[h0.2];by_cases hk:k=p
 · subst hk;rw[List.getElem?_set_self (by simp;omega),fA]
 · rw[List.getElem?_set_ne (by omega),List.getElem?_set_ne (by omega),h1.2,dG hk]}}
 · rw[zA (by simp;omega),zA (by omega)]
theorem gF{w:World}{v:Value}{n:Nat}{e:Nat->Nat×Int}(h:w.ownsRow 0 223 2 v n (gW n e)){p:Nat}(hp:p<n):∃b cap,v=.slice (some ⟨b,0,none⟩) n cap/\n<=cap/\b<w.heap.size /\
    w.cell? ⟨b,p*2,none⟩=some (.int .i64 ((e p).1:Int))/\w.cell? ⟨b,p*2+1,none⟩=some (.int .i64 (e p).2)/\∀j,w.frozen? ⟨b,j,none⟩=false:=by
 obtain⟨h1,h2⟩:=h;rcases h2 with⟨rfl,h0⟩|⟨g,cap,cur,rfl,_,hh,hn,hm,hsz,hxs⟩
 · omega
 {
 refine⟨g,cap,rfl,hn,(qL.1 hh).1,?_,?_,fun j=>by simp[World.frozen?,hh]⟩
 all_goals
  have key:∀j,j<2->cur[p*2+j]? =(gW n e)[p*2+j]? :=by {
  intro j hj;rw[<-hxs,List.getElem?_take,qD (by omega)];simp};simp only[World.cell?,hh];simp
 · have:=key 0 (by omega);simp at this;rw[this];exact(rW e hp).1
 · rw[key 1 (by omega)];exact(rW e hp).2}
theorem oN{w:World}{e:TypeId}{size g n cap i:Nat}{xs:List Value}(h:w.ownsRow 0 e size (.slice (some ⟨g,0,none⟩) n cap) n xs)(u:Value):
    (w.setCell ⟨g,i,none⟩ u).ownsRow 0 e size (.slice (some ⟨g,0,none⟩) n cap) n (xs.set i u):=by
 obtain⟨h1,h2⟩:=h;refine⟨by simpa using h1,?_⟩;rcases h2 with⟨h2,_⟩|⟨g', cap', cur,e1,_,hh,hn,hm,hsz,hxs⟩
 · cases h2
 {
 simp only[qO,qI,Addr.mk.injEq,and_true,true_and]at e1;obtain⟨rfl,rfl⟩:=e1;refine .inr ⟨g,cap,cur.setIfInBounds i u,rfl,qR _,?_,hn,hm,by simpa using hsz,?_⟩
 {
 simp only[World.setCell,Array.getElem?_modify];simp[hh]}
 · rw[<-hxs,Array.toList_setIfInBounds,List.take_set]}
def iQ(pl:Nat->Nat)(k:Nat):List Value:=(List.range 64).map fun j=>.int .i64 ((pl (k*64+j):Nat):Int)
theorem mD(pl:Nat->Nat)(k:Nat){j:Nat}(hj:j<64):(iQ pl k)[j]? =some (.int .i64 ((pl (k*64+j):Nat):Int)):=by simp[iQ,hj]
theorem aCM{pl pl' :Nat->Nat}{k:Nat}(h:∀j,j<64->pl (k*64+j)=pl' (k*64+j)):iQ pl k=iQ pl' k:=by
 apply List.map_congr_left;intro j hj;rw[h j (by simpa using hj)]
theorem aJJ(pl:Nat->Nat)(k x:Nat){j:Nat}(hj:j<64):(iQ pl k).set j (.int .i64 (x:Int))=iQ (kD pl (k*64+j) x) k:=by
 apply List.ext_getElem?;intro i;by_cases hi:i<64
 {
 rw[mD _ k hi];by_cases e:i=j
 · subst e;rw[List.getElem?_set_self (by simp[iQ,hi]),jF]
 · rw[List.getElem?_set_ne (by omega),mD _ k hi,cN (by omega)]}
 · rw[zA (by simp[iQ];omega),zA (by simp[iQ];omega)]
structure HM (w:World) (ph slots n:Nat) (e:Nat->Nat×Int) (pl:Nat->Nat) (v:Value) (gp cp:Nat) (bs:Nat->Option Nat):Prop where
  hd:Blk w ph 242 [aS ph,.int .i64 slots,v,.slice (some ⟨gp,0,none⟩) ((slots+63)/64) cp]
  items:w.ownsRow 0 223 2 v n (gW n e)
  dir:Blk w gp 244 ((List.range ((slots+63)/64)).map fun k=>fI (bs k))
  some_:∀k b,k<(slots+63)/64->bs k=some b->Blk w b 246 (iQ pl k)
  none_:∀k,k<(slots+63)/64->bs k=none->∀j,j<64->pl (k*64+j)=0
  le:slots<=65536
  nb:n<=65536
  pb:∀i,pl i<=65536
  ap1:ph≠gp
  ap2:v.ownBlock≠some ph
  ap3:v.ownBlock≠some gp
  ap4:∀k b,k<(slots+63)/64->bs k=some b->b≠ph/\b≠gp/\v.ownBlock≠some b
  ap5:∀k k' b,k<(slots+63)/64->k' < (slots+63)/64->bs k=some b->bs k' =some b->k=k'
def hB(slots ph:Nat)(v:Value)(gp:Nat)(bs:Nat->Option Nat):List Nat:=ph::gp::(v.ownBlock.toList++(List.range ((slots+63)/64)).filterMap bs)
theorem dM{slots ph:Nat}{v:Value}{gp:Nat}{bs:Nat->Option Nat}{b:Nat}:b∈hB slots ph v gp bs↔b=ph∨b=gp∨v.ownBlock=some b∨∃k,k<(slots+63)/64/\bs k=some b:=by
 simp[hB]
section
variable {w w' :World} {ph slots n:Nat} {e:Nat->Nat×Int} {pl:Nat->Nat} {v:Value} {gp cp:Nat} {bs:Nat->Option Nat}
theorem HM.fr{S:List Nat}(h:HM w ph slots n e pl v gp cp bs)(hf:Fr S w w')(hs:∀b∈hB slots ph v gp bs,b∉S):HM w' ph slots n e pl v gp cp bs:=
  ⟨hf.blk h.hd (hs _ (by simp[hB])),aQ h.items (fun q hq=>hf.keep q (h.items.lt q hq).2 (hs q (dM.2 (.inr (.inr (.inl hq)))))),hf.blk h.dir (hs _ (by simp[hB])),
    fun k b hk hb=>hf.blk (h.some_ k b hk hb) (hs b (dM.2 (.inr (.inr (.inr ⟨k,hk,hb⟩))))),h.none_,h.le,h.nb,h.pb,h.ap1,h.ap2,h.ap3,h.ap4,h.ap5⟩
theorem HM.fr0(h:HM w ph slots n e pl v gp cp bs)(hf:Fr [] w w'):HM w' ph slots n e pl v gp cp bs:=h.fr hf (by simp)
theorem HM.lt(h:HM w ph slots n e pl v gp cp bs):∀b∈hB slots ph v gp bs,b<w.heap.size:=by
 intro b hb;rcases dM.1 hb with rfl|rfl|hb|⟨k,hk,hb⟩
 · exact h.hd.lt
 · exact h.dir.lt
 · exact(h.items.lt b hb).2
 · exact(h.some_ k b hk hb).lt
def fS(x y:Int):Int:=if x<y then -1 else if y<x then 1 else 0
def tR(a b:Nat×Int):Int:=if fS a.2 b.2=0 then fS a.1 b.1 else fS a.2 b.2
theorem aEE(a b:Nat×Int):tR a b<0↔elt a b:=by
 unfold tR fS elt;split<;>split<;>(try split)<;>(try split)<;>omega
theorem xN(x:Int)(w:World):Calls Tryz.prog 253 #[.int .i64 x] w fun e w' =>e=.returned (.bool false)/\w' =w:=by
 have hb:(x != x)=false:=by simp
 go_enter Tryz.func253,Tryz.ntmps253
 go_wp2
 go_ret;exact⟨rfl,rfl⟩
theorem aJK(x:Int)(w:World):Calls Tryz.prog 254 #[.int .i64 x] w fun e w' =>e=.returned (.bool false)/\w' =w:=by
 have hb:(x != x)=false:=by simp
 go_enter Tryz.func254,Tryz.ntmps254
 go_wp2
 go_ret;exact⟨rfl,rfl⟩
theorem aNH(x y:Int)(w:World):Calls Tryz.prog 250 #[.int .i64 x,.int .i64 y] w fun e w' =>e=.returned (.int .i64 (fS x y))/\w' =w:=by
 by_cases h1:x<y
 {
 have e1:fS x y=-1:=by unfold fS;rw[qD h1]
 rw[e1];clear e1;go_enter Tryz.func250,Tryz.ntmps250
 go_wp2_with (go_at_call 253;refine(xN _ _).mono ?_;rintro e w' ⟨rfl,rfl⟩)
 go_ret;exact⟨rfl,rfl⟩}
 {
 by_cases h2:y<x
 {
 have e1:fS x y=1:=by unfold fS;rw[qC h1,qD h2]
 rw[e1];clear e1;go_enter Tryz.func250,Tryz.ntmps250
 go_wp2_with (go_at_call 253;refine(xN _ _).mono ?_;rintro e w' ⟨rfl,rfl⟩)
 go_ret;exact⟨rfl,rfl⟩}
 {
 have e1:fS x y=0:=by unfold fS;rw[qC h1,qC h2]
 rw[e1];clear e1;go_enter Tryz.func250,Tryz.ntmps250
 go_wp2_with (go_at_call 253;refine(xN _ _).mono ?_;rintro e w' ⟨rfl,rfl⟩)
 go_ret;exact⟨rfl,rfl⟩}}
theorem aSX(x y:Nat)(w:World):Calls Tryz.prog 251 #[.int .i64 x,.int .i64 y] w fun e w' =>e=.returned (.int .i64 (fS x y))/\w' =w:=by
 by_cases h1:x<y
 {
 have e1:fS x y=-1:=by unfold fS;rw[qD (by omega)]
 rw[e1];clear e1;go_enter Tryz.func251,Tryz.ntmps251
 go_wp2_with (go_at_call 254;refine(aJK _ _).mono ?_;rintro e w' ⟨rfl,rfl⟩)
 go_ret;exact⟨rfl,rfl⟩}
 {
 by_cases h2:y<x
 {
 have e1:fS x y=1:=by unfold fS;rw[qC (by omega),qD (by omega)]
 rw[e1];clear e1;go_enter Tryz.func251,Tryz.ntmps251
 go_wp2_with (go_at_call 254;refine(aJK _ _).mono ?_;rintro e w' ⟨rfl,rfl⟩)
 go_ret;exact⟨rfl,rfl⟩}
 {
 have e1:fS x y=0:=by unfold fS;rw[qC (by omega),qC (by omega)]
 rw[e1];clear e1;go_enter Tryz.func251,Tryz.ntmps251
 go_wp2_with (go_at_call 254;refine(aJK _ _).mono ?_;rintro e w' ⟨rfl,rfl⟩)
 go_ret;exact⟨rfl,rfl⟩}}
theorem or_w(b:Nat)(x y:Int)(w:World)(h:Blk w b 3 [.int .i64 x,.int .i64 y]):Calls Tryz.prog 249 #[.slice (some ⟨b,0,none⟩) 2 2] w fun e w' =>e=.returned (.int .i64 (if x=0 then y else x))/\w' =w:=by
 have c0:=h.cell 0;have c1:=h.cell 1;simp only[zI,zJ]at c0 c1;generalize hr:(if x=0 then y else x)=r;have HR:=qA hr;clear hr;go_enter Tryz.func249,Tryz.ntmps249
 go_wp2
 go_loop [8] (fun s=>∃k:Nat,k<=2/\s=.int .i64 k/\Hid ((1<=k->x=0)/\(2<=k->y=0))) (fun s=>2-(intOf s).toNat)
 case atStart=>exact⟨0,by omega,rfl,qA ⟨by omega,by omega⟩⟩
 case round=>
  obtain⟨k,hk,rfl,HK⟩:=hrel;rcases(show k=0∨k=1∨k=2 by omega) with rfl|rfl|rfl
  {
  by_cases hx:x=0
  {
  subst hx;go_wp2
  go_round
  case rel=>exact⟨1,by omega,by go_num,qA ⟨by simp,by omega⟩⟩
  case measure=>simp[intOf]}
  {
  have hb:(x != 0)=true:=by simp[hx]
  have hR2:r=x:=by rw[<-HR.out,qC hx]
  have HR2:=qA hR2;clear hR2 hx;go_wp2
  go_ret;exact⟨by rw[HR2.out];rfl,rfl⟩}}
  {
  have hx:=HK.out.1 (by omega);by_cases hy:y=0
  {
  subst hy;have Hx:=qA hx;clear hx;go_wp2
  go_round
  case rel=>exact⟨2,by omega,by go_num,qA ⟨fun _=>Hx.out,by simp⟩⟩
  case measure=>simp[intOf]}
  {
  have hb:(y != 0)=true:=by simp[hy]
  have hR2:r=y:=by rw[<-HR.out,qD hx]
  have HR2:=qA hR2;clear hR2 hx hy;go_wp2
  go_ret;exact⟨by rw[HR2.out];rfl,rfl⟩}}
  {
  have hx:=HK.out.1 (by omega);have hy:=HK.out.2 (by omega);have hR2:r=0:=by rw[<-HR.out,qD hx,hy]
  have HR2:=qA hR2;clear hR2 hx hy;go_wp2
  go_ret;exact⟨by rw[HR2.out];rfl,rfl⟩}
theorem aEF(a b:Nat×Int)(w:World):Calls Tryz.prog 245 #[.agg #[.int .i64 a.1,.int .i64 a.2],.agg #[.int .i64 b.1,.int .i64 b.2]] w fun e w' =>e=.returned (.int .i64 (tR a b))/\Fr [] w w' :=by
 obtain⟨a1,a2⟩:=a;obtain⟨b1,b2⟩:=b;have hr:(if fS a2 b2=0 then fS a1 b1 else fS a2 b2)=tR (a1,a2) (b1,b2):=rfl;have HO:=qA (fun(W:World) (n:Nat) (h:Blk W n 3 [.int .i64 (fS a2 b2),.int .i64 (fS a1 b1)])=>or_w n (fS a2 b2) (fS a1 b1) W h);rw[hr]at HO;have HC1:=qA (fun w=>aNH a2 b2 w);have HC2:=qA (fun w=>aSX a1 b1 w);clear hr;generalize tR (a1,a2) (b1,b2)=r at *;generalize fS a2 b2=x at *;generalize fS a1 b1=y at *;have e1:=Blk.new w [.int .i64 a1,.int .i64 a2] 223;have e2:=Blk.new (w.alloc (.cells [.int .i64 a1,.int .i64 a2].toArray 223)) [.int .i64 b1,.int .i64 b2] 223;have e1' :=e1.alloc (.cells [.int .i64 b1,.int .i64 b2].toArray 223);simp only[World.size_alloc]at e2;have hF:Fr [] w ((w.alloc (.cells [.int .i64 a1,.int .i64 a2].toArray 223)).alloc (.cells [.int .i64 b1,.int .i64 b2].toArray 223)):=((Fr.refl _ _).alloc _).alloc _;have x0:=e1'.cell 0;have x1:=e1'.cell 1;have y0:=e2.cell 0;have y1:=e2.cell 1;simp only[zI,zJ]at x0 x1 y0 y1;clear e1 e2 e1';have HF:=qA hF;clear hF;go_enter Tryz.func245,Tryz.ntmps245
 go_wp2
 generalize hw0:((w.alloc (.cells #[.int .i64 a1,.int .i64 a2] 223)).alloc (.cells #[.int .i64 b1,.int .i64 b2] 223))=w0 at *;clear hw0
 go_region_held3 (fun w' => w'.cell? ⟨w.heap.size, 0, none⟩ = some (.int .i64 a1) /\ w'.cell? ⟨w.heap.size, 1, none⟩ = some (.int .i64 a2) /\ w'.cell? ⟨w.heap.size + 1, 0, none⟩ = some (.int .i64 b1) /\ w'.cell? ⟨w.heap.size + 1, 1, none⟩ = some (.int .i64 b2))
   (first|go_keep)
   (first
     | (go_at_call 250;refine(HC1.out _).mono ?_;rintro e w' ⟨rfl,rfl⟩)
     | (go_at_call 251;refine(HC2.out _).mono ?_;rintro e w' ⟨rfl,rfl⟩)
     | (go_at_call 249;refine(HO.out _ _ ((Blk.new w0 _ _).drew)).mono ?_;rintro e w' ⟨rfl,rfl⟩))
 go_wp2
 go_ret;exact⟨rfl,(HF.out.alloc _).drew⟩
@[go_sem] theorem aSY(w:World)(a:Addr):(binOp .eql 149 (.pointer (some a)) (.pointer (some a))).run Tryz.prog w=.ok (.bool true) w:=by
 obtain⟨j,hj⟩:=qU.1 (show(Tryz.prog.info? 242).isSome=true by kernel_rfl);exact run_eql_ptr_same w a Tryz.underlying149 hj
theorem lH(h:HM w ph slots n e pl v gp cp bs):Calls Tryz.prog 160 #[.pointer (some ⟨ph,0,none⟩)] w fun e' w' =>e' =.returned (.bool true)/\w' =w:=by
 have c0:w.cell? ⟨ph,0,none⟩=some (.pointer (some ⟨ph,0,none⟩)):=h.hd.cell 0;clear h;go_enter Tryz.func160,Tryz.ntmps160
 go_wp2
 go_ret;exact⟨rfl,rfl⟩
theorem aJL(h:HM w ph slots n e pl v gp cp bs){i:Nat}(hi:i<slots):Calls Tryz.prog 211 #[aS ph,.int .i64 i] w fun e' w' =>e' =.returned (.bool true)/\w' =w:=by
 have c1:=h.hd.cell 1;simp only[zI,zJ]at c1;have t1:decide (i<slots)=true:=qG hi;have hi' :(i:Int)<slots:=by omega
 have hi0:(0:Int)<=i:=by omega
 clear h;go_enter Tryz.func211,Tryz.ntmps211
 go_wp2
 go_ret;exact⟨rfl,rfl⟩
end
section
variable {w w' :World} {ph slots n:Nat} {e:Nat->Nat×Int} {pl:Nat->Nat} {v:Value} {gp cp:Nat} {bs:Nat->Option Nat}
theorem HM.dirAt(h:HM w ph slots n e pl v gp cp bs){k:Nat}(hk:k<(slots+63)/64):w.cell? ⟨gp,k,none⟩=some (fI (bs k)):=by
 rw[h.dir.cell];simp[hk]
theorem aEG(h:HM w ph slots n e pl v gp cp bs){i:Nat}(hi:i<slots):
    Calls Tryz.prog 212 #[aS ph,.int .i64 i] w fun e w' =>e=.returned (.int .i64 ((pl i:Int)-1))/\w' =w:=by
 have hle:=h.le;have hk:i/64<(slots+63)/64:=by omega
 have c3:=h.hd.cell 3;simp only[zI,zJ]at c3;have hd:=h.dirAt hk;have hm:i=i/64*64+i%64:=by omega
 have hi6:i<65536:=by omega
 cases hb:bs (i/64) with
 | none=>{
 rw[hb]at hd;have h0:=h.none_ _ hk hb (i%64) (by omega);rw[<-hm]at h0;rw[h0];simp only[fI,Option.map_none]at hd;clear hm h0 h hb hle;generalize (slots+63)/64=m at *;go_enter Tryz.func212,Tryz.ntmps212
 go_wp2
 go_ret;exact⟨rfl,rfl⟩}
 | some b=>{
 rw[hb]at hd;have h0:=(h.some_ _ _ hk hb).cell (i%64);rw[mD pl (i/64) (by omega),<-hm]at h0;simp only[fI,Option.map_some]at hd;have hpl:(0:Int)<=pl i:=by omega
 have hx:=h.pb i;clear hm h hb hle;generalize (slots+63)/64=m at *;generalize pl i=x at *;go_enter Tryz.func212,Tryz.ntmps212
 go_wp2
 go_ret;exact⟨rfl,rfl⟩}
theorem vV{pl:Nat->Nat}{k:Nat}(h:∀j,j<64->pl (k*64+j)=0):iQ pl k=List.replicate 64 (.int .i64 0):=by
 apply List.ext_getElem?;intro j;by_cases hj:j<64
 · rw[mD pl k hj,h j hj,List.getElem?_replicate,qD hj];rfl
 · rw[zA (by simp[iQ];omega),zA (by rw[List.length_replicate];omega)]
def xO(bs:Nat->Option Nat)(k b:Nat):Nat->Option Nat:=fun x=>if x=k then some b else bs x
theorem cA(bs:Nat->Option Nat)(k b:Nat):xO bs k b k=some b:=by simp[xO]
theorem bX{bs:Nat->Option Nat}{k b x:Nat}(h:x≠k):xO bs k b x=bs x:=by simp[xO,h]
theorem HM.note(h:HM w ph slots n e pl v gp cp bs){i x b:Nat}(hi:i<slots)(hb:bs (i/64)=some b)(hx:x<=65536):
    HM (w.setCell ⟨b,i%64,none⟩ (.int .i64 (x:Int))) ph slots n e (kD pl i x) v gp cp bs:=by
 have hk:i/64<(slots+63)/64:=by omega
 have hm:i=i/64*64+i%64:=by omega
 obtain⟨a1,a2,a3⟩:=h.ap4 _ _ hk hb;refine⟨h.hd.other _ _ (fun e=>a1 e.symm),bN h.items _ _ a3,h.dir.other _ _ (fun e=>a2 e.symm),fun k b' hk' hb' =>?_,fun k hk' hb' j hj=>?_,h.le,h.nb,fun j=>?_,h.ap1,h.ap2,h.ap3,h.ap4,h.ap5⟩
 {
 by_cases e1:k=i/64
 {
 subst e1;rw[hb]at hb'; cases hb';have:=(h.some_ _ _ hk hb).set (i%64) (.int .i64 (x:Int));rw[aJJ pl (i/64) x (by omega),<-hm]at this;exact this}
 {
 have:=(h.some_ _ _ hk' hb').other ⟨b,i%64,none⟩ (.int .i64 (x:Int)) (fun e=>e1 (h.ap5 _ _ _ hk' hk hb' (by rw[hb];exact congrArg some e.symm)));rw[aCM (pl:=pl) (pl' :=kD pl i x) (k:=k) (fun j hj=>(cN (by omega)).symm)]at this;exact this}}
 {
 have e1:k≠i/64:=by rintro rfl;rw[hb]at hb'; cases hb'
 rw[cN (by omega)];exact h.none_ k hk' hb' j hj}
 {
 unfold kD;split
 · exact hx
 · exact h.pb j}
theorem HM.more(h:HM w ph slots n e pl v gp cp bs){k b:Nat}(hk:k<(slots+63)/64)(hb:bs k=none)(hw:w.heap.size=b):
    HM ((w.alloc (.cells #[.int .i64 0,.int .i64 0,.int .i64 0,.int .i64 0,.int .i64 0,.int .i64 0,.int .i64 0,.int .i64 0,.int .i64 0,.int .i64 0,.int .i64 0,.int .i64 0,.int .i64 0,.int .i64 0,.int .i64 0,.int .i64 0,.int .i64 0,.int .i64 0,.int .i64 0,.int .i64 0,.int .i64 0,.int .i64 0,.int .i64 0,.int .i64 0,.int .i64 0,.int .i64 0,.int .i64 0,.int .i64 0,.int .i64 0,.int .i64 0,.int .i64 0,.int .i64 0,.int .i64 0,.int .i64 0,.int .i64 0,.int .i64 0,.int .i64 0,.int .i64 0,.int .i64 0,.int .i64 0,.int .i64 0,.int .i64 0,.int .i64 0,.int .i64 0,.int .i64 0,.int .i64 0,.int .i64 0,.int .i64 0,.int .i64 0,.int .i64 0,.int .i64 0,.int .i64 0,.int .i64 0,.int .i64 0,.int .i64 0,.int .i64 0,.int .i64 0,.int .i64 0,.int .i64 0,.int .i64 0,.int .i64 0,.int .i64 0,.int .i64 0,.int .i64 0] 246)).setCell ⟨gp,k,none⟩ (aS b)) ph slots n e pl v gp cp (xO bs k b):=by
 subst hw;have h1:=h.fr0 ((Fr.refl [] w).alloc (.cells #[.int .i64 0,.int .i64 0,.int .i64 0,.int .i64 0,.int .i64 0,.int .i64 0,.int .i64 0,.int .i64 0,.int .i64 0,.int .i64 0,.int .i64 0,.int .i64 0,.int .i64 0,.int .i64 0,.int .i64 0,.int .i64 0,.int .i64 0,.int .i64 0,.int .i64 0,.int .i64 0,.int .i64 0,.int .i64 0,.int .i64 0,.int .i64 0,.int .i64 0,.int .i64 0,.int .i64 0,.int .i64 0,.int .i64 0,.int .i64 0,.int .i64 0,.int .i64 0,.int .i64 0,.int .i64 0,.int .i64 0,.int .i64 0,.int .i64 0,.int .i64 0,.int .i64 0,.int .i64 0,.int .i64 0,.int .i64 0,.int .i64 0,.int .i64 0,.int .i64 0,.int .i64 0,.int .i64 0,.int .i64 0,.int .i64 0,.int .i64 0,.int .i64 0,.int .i64 0,.int .i64 0,.int .i64 0,.int .i64 0,.int .i64 0,.int .i64 0,.int .i64 0,.int .i64 0,.int .i64 0,.int .i64 0,.int .i64 0,.int .i64 0,.int .i64 0] 246));have hlt:=h.lt;have hnew:=Blk.new w (iQ pl k) 246;rw[vV (h.none_ k hk hb)]at hnew;have e0:(List.replicate 64 (Value.int .i64 0)).toArray=(#[.int .i64 0,.int .i64 0,.int .i64 0,.int .i64 0,.int .i64 0,.int .i64 0,.int .i64 0,.int .i64 0,.int .i64 0,.int .i64 0,.int .i64 0,.int .i64 0,.int .i64 0,.int .i64 0,.int .i64 0,.int .i64 0,.int .i64 0,.int .i64 0,.int .i64 0,.int .i64 0,.int .i64 0,.int .i64 0,.int .i64 0,.int .i64 0,.int .i64 0,.int .i64 0,.int .i64 0,.int .i64 0,.int .i64 0,.int .i64 0,.int .i64 0,.int .i64 0,.int .i64 0,.int .i64 0,.int .i64 0,.int .i64 0,.int .i64 0,.int .i64 0,.int .i64 0,.int .i64 0,.int .i64 0,.int .i64 0,.int .i64 0,.int .i64 0,.int .i64 0,.int .i64 0,.int .i64 0,.int .i64 0,.int .i64 0,.int .i64 0,.int .i64 0,.int .i64 0,.int .i64 0,.int .i64 0,.int .i64 0,.int .i64 0,.int .i64 0,.int .i64 0,.int .i64 0,.int .i64 0,.int .i64 0,.int .i64 0,.int .i64 0,.int .i64 0]:Array Value):=rfl;rw[e0]at hnew;have hgl:=h.dir.lt;have hpl:=h.hd.lt;refine⟨h1.hd.other _ _ h.ap1,bN h1.items _ _ h.ap3,?_,fun j b' hj hb' =>?_,fun j hj hb' =>?_,h.le,h.nb,h.pb,h.ap1,h.ap2,h.ap3,fun j b' hj hb' =>?_,fun j j' b' hj hj' hb' hb2=>?_⟩
 {
 have:=h1.dir.set k (aS w.heap.size);have e1:((List.range ((slots+63)/64)).map fun x=>fI (bs x)).set k (aS w.heap.size)=(List.range ((slots+63)/64)).map fun x=>fI (xO bs k w.heap.size x):=by {
 apply List.ext_getElem?;intro j;by_cases hj:j<(slots+63)/64
 {
 by_cases e2:j=k
 · subst e2;rw[List.getElem?_set_self (by simpa using hj)];simp[hj,cA,fI]
 · rw[List.getElem?_set_ne (by omega)];simp[hj,bX e2]}
 · rw[zA (by simp;omega),zA (by simp;omega)]};rw[e1]at this;exact this}
 {
 by_cases e2:j=k
 {
 subst e2;rw[cA]at hb'; cases hb';rw[vV (h.none_ j hk hb)];exact hnew.other _ _ (by simp;omega)}
 {
 rw[bX e2]at hb';exact(h1.some_ j b' hj hb').other _ _ (h.ap4 j b' hj hb').2.1}}
 {
 have e2:j≠k:=by rintro rfl;rw[cA]at hb'; cases hb'
 rw[bX e2]at hb';exact h.none_ j hj hb'}
 {
 by_cases e2:j=k
 {
 subst e2;rw[cA]at hb'; cases hb';refine⟨by omega,by omega,fun e3=>?_⟩;have:=(h.items.lt _ e3).2;omega}
 · rw[bX e2]at hb'; exact h.ap4 j b' hj hb'}
 {
 by_cases e2:j=k
 {
 by_cases e3:j' =k
 · omega
 {
 rw[bX e3]at hb2;subst e2;rw[cA]at hb'; cases hb';have:=(h.some_ j' _ hj' hb2).lt;omega}}
 {
 rw[bX e2]at hb';by_cases e3:j' =k
 {
 subst e3;rw[cA]at hb2;cases hb2;have:=(h.some_ j _ hj hb').lt;omega}
 {
 rw[bX e3]at hb2;exact h.ap5 j j' b' hj hj' hb' hb2}}}
theorem aNI{k b:Nat}:∀q∈hB slots ph v gp (xO bs k b),q∈hB slots ph v gp bs∨q=b:=by
 intro q hq;rcases dM.1 hq with h|h|h|⟨j,hj,h⟩
 · exact .inl (dM.2 (.inl h))
 · exact .inl (dM.2 (.inr (.inl h)))
 · exact .inl (dM.2 (.inr (.inr (.inl h))))
 {
 by_cases e:j=k
 · subst e;rw[cA]at h;cases h;exact .inr rfl
 · rw[bX e]at h;exact .inl (dM.2 (.inr (.inr (.inr ⟨j,hj,h⟩))))}
theorem aEH(h:HM w ph slots n e pl v gp cp bs){i x:Nat}(hi:i<slots)(hx:x<=65536)(p:Int)(hp:p+1=x):
    Calls Tryz.prog 213 #[aS ph,.int .i64 i,.int .i64 p] w fun e' w' =>e' =.returned (.tuple #[])/\∃bs', HM w' ph slots n e (kD pl i x) v gp cp bs' /\ Fr (hB slots ph v gp bs) w w' /\ ∀q∈hB slots ph v gp bs', q∈hB slots ph v gp bs∨w.heap.size<=q:=by
 have hle:=h.le;have hk:i/64<(slots+63)/64:=by omega
 have c3:=h.hd.cell 3;simp only[zI,zJ]at c3;have hd:=h.dirAt hk;have hi6:i<65536:=by omega
 have hgz:=h.dir.frozen (i/64);have HX:Hid (.int .i64 (p+1)=(.int .i64 (x:Int):Value)):=qA (by rw[hp]);have hp2:p<9223372036854775807:=by omega
 have hp1:-9223372036854775808<=p:=by omega
 clear hp;cases hb:bs (i/64) with
 | some b=>{
 rw[hb]at hd;simp only[fI,Option.map_some]at hd;have h0:=(h.some_ _ _ hk hb).cell (i%64);have hz:=(h.some_ _ _ hk hb).frozen (i%64);rw[mD pl (i/64) (by omega)]at h0;have HN:=qA (h.note hi hb hx);have HF:Hid (Fr (hB slots ph v gp bs) w (w.setCell ⟨b,i%64,none⟩ (.int .i64 (x:Int)))):=qA ((Fr.refl _ w).setCell _ _ (.inl (dM.2 (.inr (.inr (.inr ⟨_,hk,hb⟩))))));clear h hb hle;rw[<-HX.out]at HN HF;generalize (slots+63)/64=m at *;go_enter Tryz.func213,Tryz.ntmps213
 go_wp2
 go_end0
 exact⟨rfl,bs,HN.out,HF.out,fun q hq=>.inl hq⟩}
 | none=>{
 rw[hb]at hd;simp only[fI,Option.map_none]at hd;have hM:=h.more hk hb rfl;have c3' :=hM.hd.cell 3;simp only[zI,zJ]at c3';have hd' :=hM.dirAt hk;rw[cA]at hd';simp only[fI,Option.map_some]at hd';have h0:=(hM.some_ _ _ hk (cA _ _ _)).cell (i%64);have hz:=(hM.some_ _ _ hk (cA _ _ _)).frozen (i%64);rw[mD pl (i/64) (by omega)]at h0;have HN:=qA (hM.note hi (cA _ _ _) hx);have hF1:Fr (hB slots ph v gp bs) w ((w.alloc (.cells #[.int .i64 0,.int .i64 0,.int .i64 0,.int .i64 0,.int .i64 0,.int .i64 0,.int .i64 0,.int .i64 0,.int .i64 0,.int .i64 0,.int .i64 0,.int .i64 0,.int .i64 0,.int .i64 0,.int .i64 0,.int .i64 0,.int .i64 0,.int .i64 0,.int .i64 0,.int .i64 0,.int .i64 0,.int .i64 0,.int .i64 0,.int .i64 0,.int .i64 0,.int .i64 0,.int .i64 0,.int .i64 0,.int .i64 0,.int .i64 0,.int .i64 0,.int .i64 0,.int .i64 0,.int .i64 0,.int .i64 0,.int .i64 0,.int .i64 0,.int .i64 0,.int .i64 0,.int .i64 0,.int .i64 0,.int .i64 0,.int .i64 0,.int .i64 0,.int .i64 0,.int .i64 0,.int .i64 0,.int .i64 0,.int .i64 0,.int .i64 0,.int .i64 0,.int .i64 0,.int .i64 0,.int .i64 0,.int .i64 0,.int .i64 0,.int .i64 0,.int .i64 0,.int .i64 0,.int .i64 0,.int .i64 0,.int .i64 0,.int .i64 0,.int .i64 0] 246)).setCell ⟨gp,i/64,none⟩ (aS w.heap.size)):=((Fr.refl _ w).alloc _).setCell _ _ (.inl (by simp[hB]));have HF:Hid (Fr (hB slots ph v gp bs) w (((w.alloc (.cells #[.int .i64 0,.int .i64 0,.int .i64 0,.int .i64 0,.int .i64 0,.int .i64 0,.int .i64 0,.int .i64 0,.int .i64 0,.int .i64 0,.int .i64 0,.int .i64 0,.int .i64 0,.int .i64 0,.int .i64 0,.int .i64 0,.int .i64 0,.int .i64 0,.int .i64 0,.int .i64 0,.int .i64 0,.int .i64 0,.int .i64 0,.int .i64 0,.int .i64 0,.int .i64 0,.int .i64 0,.int .i64 0,.int .i64 0,.int .i64 0,.int .i64 0,.int .i64 0,.int .i64 0,.int .i64 0,.int .i64 0,.int .i64 0,.int .i64 0,.int .i64 0,.int .i64 0,.int .i64 0,.int .i64 0,.int .i64 0,.int .i64 0,.int .i64 0,.int .i64 0,.int .i64 0,.int .i64 0,.int .i64 0,.int .i64 0,.int .i64 0,.int .i64 0,.int .i64 0,.int .i64 0,.int .i64 0,.int .i64 0,.int .i64 0,.int .i64 0,.int .i64 0,.int .i64 0,.int .i64 0,.int .i64 0,.int .i64 0,.int .i64 0,.int .i64 0] 246)).setCell ⟨gp,i/64,none⟩ (aS w.heap.size)).setCell ⟨w.heap.size,i%64,none⟩ (.int .i64 (x:Int)))):=qA (hF1.setCell _ _ (.inr (qJ _)));have c3a:(w.alloc (.cells #[.int .i64 0,.int .i64 0,.int .i64 0,.int .i64 0,.int .i64 0,.int .i64 0,.int .i64 0,.int .i64 0,.int .i64 0,.int .i64 0,.int .i64 0,.int .i64 0,.int .i64 0,.int .i64 0,.int .i64 0,.int .i64 0,.int .i64 0,.int .i64 0,.int .i64 0,.int .i64 0,.int .i64 0,.int .i64 0,.int .i64 0,.int .i64 0,.int .i64 0,.int .i64 0,.int .i64 0,.int .i64 0,.int .i64 0,.int .i64 0,.int .i64 0,.int .i64 0,.int .i64 0,.int .i64 0,.int .i64 0,.int .i64 0,.int .i64 0,.int .i64 0,.int .i64 0,.int .i64 0,.int .i64 0,.int .i64 0,.int .i64 0,.int .i64 0,.int .i64 0,.int .i64 0,.int .i64 0,.int .i64 0,.int .i64 0,.int .i64 0,.int .i64 0,.int .i64 0,.int .i64 0,.int .i64 0,.int .i64 0,.int .i64 0,.int .i64 0,.int .i64 0,.int .i64 0,.int .i64 0,.int .i64 0,.int .i64 0,.int .i64 0,.int .i64 0] 246)).cell? ⟨ph,3,none⟩=some (.slice (some ⟨gp,0,none⟩) ((slots+63)/64) cp):=((Fr.refl [] w).alloc _).cell c3 (by simp);have hda:(w.alloc (.cells #[.int .i64 0,.int .i64 0,.int .i64 0,.int .i64 0,.int .i64 0,.int .i64 0,.int .i64 0,.int .i64 0,.int .i64 0,.int .i64 0,.int .i64 0,.int .i64 0,.int .i64 0,.int .i64 0,.int .i64 0,.int .i64 0,.int .i64 0,.int .i64 0,.int .i64 0,.int .i64 0,.int .i64 0,.int .i64 0,.int .i64 0,.int .i64 0,.int .i64 0,.int .i64 0,.int .i64 0,.int .i64 0,.int .i64 0,.int .i64 0,.int .i64 0,.int .i64 0,.int .i64 0,.int .i64 0,.int .i64 0,.int .i64 0,.int .i64 0,.int .i64 0,.int .i64 0,.int .i64 0,.int .i64 0,.int .i64 0,.int .i64 0,.int .i64 0,.int .i64 0,.int .i64 0,.int .i64 0,.int .i64 0,.int .i64 0,.int .i64 0,.int .i64 0,.int .i64 0,.int .i64 0,.int .i64 0,.int .i64 0,.int .i64 0,.int .i64 0,.int .i64 0,.int .i64 0,.int .i64 0,.int .i64 0,.int .i64 0,.int .i64 0,.int .i64 0] 246)).cell? ⟨gp,i/64,none⟩=some (.pointer none):=((Fr.refl [] w).alloc _).cell hd (by simp);have hza:(w.alloc (.cells #[.int .i64 0,.int .i64 0,.int .i64 0,.int .i64 0,.int .i64 0,.int .i64 0,.int .i64 0,.int .i64 0,.int .i64 0,.int .i64 0,.int .i64 0,.int .i64 0,.int .i64 0,.int .i64 0,.int .i64 0,.int .i64 0,.int .i64 0,.int .i64 0,.int .i64 0,.int .i64 0,.int .i64 0,.int .i64 0,.int .i64 0,.int .i64 0,.int .i64 0,.int .i64 0,.int .i64 0,.int .i64 0,.int .i64 0,.int .i64 0,.int .i64 0,.int .i64 0,.int .i64 0,.int .i64 0,.int .i64 0,.int .i64 0,.int .i64 0,.int .i64 0,.int .i64 0,.int .i64 0,.int .i64 0,.int .i64 0,.int .i64 0,.int .i64 0,.int .i64 0,.int .i64 0,.int .i64 0,.int .i64 0,.int .i64 0,.int .i64 0,.int .i64 0,.int .i64 0,.int .i64 0,.int .i64 0,.int .i64 0,.int .i64 0,.int .i64 0,.int .i64 0,.int .i64 0,.int .i64 0,.int .i64 0,.int .i64 0,.int .i64 0,.int .i64 0] 246)).frozen? ⟨gp,i/64,none⟩=false:=(h.dir.alloc _).frozen (i/64);clear h hb hle hM hF1;rw[<-HX.out]at HN HF;generalize (slots+63)/64=m at *;go_enter Tryz.func213,Tryz.ntmps213
 go_wp2
 go_end0
 exact⟨rfl,_,HN.out,HF.out,fun q hq=>(aNI q hq).imp (fun h=>h) (fun h=>by omega)⟩}
end
theorem aNJ(e:Nat->Nat×Int)(p q:Nat):lG (lG e p (e q)) q (e p)=gD e p q:=by
 funext x
 unfold lG gD;by_cases h1:x=p
 {
 by_cases h2:x=q
 · rw[qD h2,qD h1];rw[<-h1,<-h2]
 · rw[qC h2,qD h1,qD h1]}
 {
 by_cases h2:x=q
 · rw[qD h2,qC h1,qD h2]
 · rw[qC h2,qC h1,qC h1,qC h2]}
section
variable {w w' :World} {ph slots n:Nat} {e:Nat->Nat×Int} {pl:Nat->Nat} {v:Value} {gp cp:Nat} {bs:Nat->Option Nat}
theorem HM.st{g cap:Nat}(h:HM w ph slots n e pl (.slice (some ⟨g,0,none⟩) n cap) gp cp bs){p:Nat}(hp:p<n)(x:Nat×Int):
    HM ((w.setCell ⟨g,p*2,none⟩ (.int .i64 (x.1:Int))).setCell ⟨g,p*2+1,none⟩ (.int .i64 x.2)) ph slots n (lG e p x) pl (.slice (some ⟨g,0,none⟩) n cap) gp cp bs:=by
 have a2:=h.ap2;have a3:=h.ap3;simp only[Value.ownBlock,ne_eq,qI]at a2 a3;refine⟨(h.hd.other _ _ (fun e=>a2 e.symm)).other _ _ (fun e=>a2 e.symm),?_,(h.dir.other _ _ (fun e=>a3 e.symm)).other _ _ (fun e=>a3 e.symm),fun k b hk hb=>?_,h.none_,h.le,h.nb,h.pb,h.ap1,h.ap2,h.ap3,h.ap4,h.ap5⟩
 {
 have:=oN (i:=p*2+1) (oN (i:=p*2) h.items (.int .i64 (x.1:Int))) (.int .i64 x.2);rw[aJI hp]at this;exact this}
 {
 have a4:=(h.ap4 k b hk hb).2.2;simp only[Value.ownBlock,ne_eq,qI]at a4;exact((h.some_ k b hk hb).other _ _ (fun e=>a4 e.symm)).other _ _ (fun e=>a4 e.symm)}
theorem aCN(h:HM w ph slots n e pl v gp cp bs){p q:Nat}(hp:p<n)(hq:q<n)(hlt:∀x,x<n->(e x).1<slots):
    Calls Tryz.prog 220 #[aS ph,.int .i64 p,.int .i64 q] w fun e' w' =>e' =.returned (.tuple #[])/\∃bs', HM w' ph slots n (gD e p q) (kD (kD pl (e q).1 (p+1)) (e p).1 (q+1)) v gp cp bs' /\
      Fr (hB slots ph v gp bs) w w' /\ ∀b∈hB slots ph v gp bs', b∈hB slots ph v gp bs∨w.heap.size<=b:=by
 have hnb:=h.nb;have c2:=h.hd.cell 2;simp only[zI,zJ]at c2;obtain⟨g,cap,rfl,_,hgl,p0,p1,fz⟩:=gF h.items hp;obtain⟨g', cap', e1,_,_,q0,q1,_⟩:=gF h.items hq;simp only[qO,qI,Addr.mk.injEq,and_true,true_and]at e1;obtain⟨rfl,rfl⟩:=e1;have fzp0:=fz (p*2);have fzp1:=fz (p*2+1);have hp1:(p:Int)<n:=by omega
 have hq1:(q:Int)<n:=by omega
 have hp0:(0:Int)<=p:=by omega
 have hq0:(0:Int)<=q:=by omega
 have hmem:g∈hB slots ph (.slice (some ⟨g,0,none⟩) n cap) gp bs:=by simp[hB,Value.ownBlock]
 have Hlt:=qA (zH (hlt p hp) (hlt q hq));clear hlt;have HH:=qA h;clear h fz;go_enter Tryz.func220,Tryz.ntmps220
 go_wp2
 refine pX [25,27] [9] (fun k w' =>match k with
   | 0=>∃m,w' =w.drewN m
   | 1=>HM w' ph slots n (lG e p (e q)) pl (.slice (some ⟨g,0,none⟩) n cap) gp cp bs/\Fr (hB slots ph (.slice (some ⟨g,0,none⟩) n cap) gp bs) w w'
   | _=>HM w' ph slots n (gD e p q) pl (.slice (some ⟨g,0,none⟩) n cap) gp cp bs/\Fr (hB slots ph (.slice (some ⟨g,0,none⟩) n cap) gp bs) w w') (fun w' =>Iff.rfl) (by kernel_rfl) (by kernel_rfl) (by kernel_rfl) ?_
 iterate 9 (refine lY (by decide) (fun K hK=>?_);go_simp;refine hK _ ?_;clear hK K)
 refine jT (by decide) (fun K hK=>?_);go_simp;refine hK _ ?_;clear hK K;iterate 15 (refine lY (by decide) (fun K hK=>?_);go_simp;refine hK _ ?_;clear hK K)
 refine iI (q:=0) (by decide) rfl undef (fun w' hw' =>?_) ?_
 {
 obtain⟨nq,rfl⟩:=hw';go_simp;exact⟨(HH.out.fr0 ((Fr.refl _ _).drewN nq)).st hp (e q),(((Fr.refl _ w).drewN nq).setCell _ _ (.inl hmem)).setCell _ _ (.inl hmem)⟩};iterate 1 (refine jT (by decide) (fun K hK=>?_);go_simp;refine hK _ ?_;clear hK K)
 refine iI (q:=1) (by decide) rfl undef (fun w' hw' =>?_) ?_
 {
 obtain⟨hA,hB'⟩:=hw';obtain⟨g', cap', e1,_,_,b0,b1,fz'⟩:=gF hA.items hq;simp only[qO,qI,Addr.mk.injEq,and_true,true_and]at e1;obtain⟨rfl,rfl⟩:=e1;have fzq0:=fz' (q*2);have fzq1:=fz' (q*2+1);clear fz';go_simp;have h2:=hA.st hq (e p);rw[aNJ]at h2;exact⟨h2,(hB'.setCell _ _ (.inl hmem)).setCell _ _ (.inl hmem)⟩};refine vH ?_;rintro w2 ⟨h2,f2⟩;clear p0 p1 q0 q1 c2 fzp0 fzp1 HH;have c2:=h2.hd.cell 2;simp only[zI,zJ]at c2;obtain⟨g', cap', e1,_,_,p0,_,_⟩:=gF h2.items hp;simp only[qO,qI,Addr.mk.injEq,and_true,true_and]at e1;obtain⟨rfl,rfl⟩:=e1;rw[eY]at p0;have HP:=qA (aEH h2 Hlt.out.2 (x:=p+1) (by omega) (p:Int) (by omega));have HF2:=qA f2;clear f2 h2;go_wp2_with fail
 refine HP.out.mono ?_;rintro _ w3 ⟨rfl,bs3,h3,f3,s3⟩;have hs2:=HF2.out.size;have HF3:=qA (HF2.out.trans' f3);have HS3:Hid (∀b∈hB slots ph (.slice (some ⟨g,0,none⟩) n cap) gp bs3,b∈hB slots ph (.slice (some ⟨g,0,none⟩) n cap) gp bs∨w.heap.size<=b):=qA (fun b hb=>(s3 b hb).imp (fun h=>h) (fun h=>by omega));clear c2 p0 HP f3 s3;have c2:=h3.hd.cell 2;simp only[zI,zJ]at c2;obtain⟨g', cap', e1,_,_,q0,_,_⟩:=gF h3.items hq;simp only[qO,qI,Addr.mk.injEq,and_true,true_and]at e1;obtain⟨rfl,rfl⟩:=e1;rw[kB]at q0;have HP:=qA (aEH h3 Hlt.out.1 (x:=q+1) (by omega) (q:Int) (by omega));clear h3;go_wp2_with fail
 refine HP.out.mono ?_;rintro _ w4 ⟨rfl,bs4,h4,f4,s4⟩;have hs3:=HF3.out.size;have H4:=qA (zH h4 (zH (HF3.out.trans f4 (fun b hb=>HS3.out b hb)) (show ∀b∈hB slots ph (.slice (some ⟨g,0,none⟩) n cap) gp bs4,b∈hB slots ph (.slice (some ⟨g,0,none⟩) n cap) gp bs∨w.heap.size<=b from fun b hb=>(s4 b hb).elim (HS3.out b) (fun h=>.inr (by omega)))));clear h4 f4 s4;go_wp2
 go_end0
 exact⟨rfl,bs4,H4.out⟩
end
def oO(e:Nat->Nat×Int)(p:Nat):Int:=if 0<p/\elt (e p) (e ((p-1)/2)) then((p-1)/2:Nat) else -1
def pQ(n:Nat)(e:Nat->Nat×Int)(p:Nat):Int:=if blw n e p=p then -1 else(blw n e p:Nat)
def kM(n:Nat)(e:Nat->Nat×Int)(p k:Nat):Nat:=if k=0 then p else if k=1 then aAB n e p else blw n e p
theorem xP(n:Nat)(e:Nat->Nat×Int)(p:Nat):kM n e p 0=p:=by simp[kM]
theorem xQ(n:Nat)(e:Nat->Nat×Int)(p:Nat):kM n e p 1=aAB n e p:=by simp[kM]
theorem aCO(n:Nat)(e:Nat->Nat×Int)(p:Nat):kM n e p 2=blw n e p:=by simp[kM]
theorem aAC{n:Nat}{e:Nat->Nat×Int}{p k q:Nat}(hk:k<2)(hq:q=2*p+1+k)(h:q<n/\elt (e q) (e (kM n e p k))):kM n e p (k+1)=q:=by
 subst hq;rcases(show k=0∨k=1 by omega) with rfl|rfl
 · rw[xP]at h;rw[xQ];unfold aAB;rw[qD h]
 · rw[xQ]at h;rw[aCO];unfold blw;rw[qD h]
theorem aEI{n:Nat}{e:Nat->Nat×Int}{p k q:Nat}(hk:k<2)(hq:q=2*p+1+k)(h:¬(q<n/\elt (e q) (e (kM n e p k)))):kM n e p (k+1)=kM n e p k:=by
 subst hq;rcases(show k=0∨k=1 by omega) with rfl|rfl
 · rw[xP]at h ⊢;rw[xQ];unfold aAB;rw[qC h]
 · rw[xQ]at h ⊢;rw[aCO];unfold blw;rw[qC h]
theorem aNK{n:Nat}{e:Nat->Nat×Int}{p k:Nat}(hp:p<n)(hk:k<=2):kM n e p k<n:=by
 induction k with
 | zero=>rw[xP];exact hp
 | succ k ih=>{
 by_cases h:2*p+1+k<n/\elt (e (2*p+1+k)) (e (kM n e p k))
 · rw[aAC (by omega) rfl h];exact h.1
 · rw[aEI (by omega) rfl h];exact ih (by omega)}
section
variable {w w' :World} {ph slots n:Nat} {e:Nat->Nat×Int} {pl:Nat->Nat} {v:Value} {gp cp:Nat} {bs:Nat->Option Nat}
theorem xR(h:HM w ph slots n e pl v gp cp bs){p:Nat}(hp:p<n):
    Calls Tryz.prog 231 #[aS ph,.int .i64 p] w fun e' w' =>e' =.returned (.int .i64 (oO e p))/\Fr [] w w' :=by
 have hnb:=h.nb;have c2:=h.hd.cell 2;simp only[zI,zJ]at c2;by_cases h0:p=0
 {
 subst h0;have e1:oO e 0=-1:=by unfold oO;rw[qC (by omega)]
 rw[e1];clear e1 h;have t1:decide (((0:Nat):Int)>0)=false:=by decide
 have t1' :decide ((0:Int)>0)=false:=by decide
 go_enter Tryz.func231,Tryz.ntmps231
 go_wp2
 go_quiet (fail)
 go_wp2
 go_ret;exact⟨rfl,(Fr.refl _ _).drewN _⟩}
 {
 obtain⟨q,hq⟩:∃q,q=(p-1)/2:=⟨_,rfl⟩;have hqi:((p:Int)-1)/2=(q:Int):=by omega
 have hqn:q<n:=by omega
 obtain⟨g,cap,rfl,_,hgl,p0,p1,_⟩:=gF h.items hp;obtain⟨g', cap', e1,_,_,q0,q1,_⟩:=gF h.items hqn;simp only[qO,qI,Addr.mk.injEq,and_true,true_and]at e1;obtain⟨rfl,rfl⟩:=e1;have HO:=qA (fun W=>aEF (e p) (e q) W);have hp1:(p:Int)<n:=by omega
 have hq1:(q:Int)<n:=by omega
 have hp0:(0:Int)<=p:=by omega
 have hq0:(0:Int)<=q:=by omega
 have t1:decide (0<p)=true:=qG (by omega);have hcase:(tR (e p) (e q)<0/\oO e p=q)∨(¬tR (e p) (e q)<0/\oO e p=-1):=by {
 rw[aEE];unfold oO;rw[<-hq];by_cases hl:elt (e p) (e q)
 · exact .inl ⟨hl,by rw[qD ⟨by omega,hl⟩]⟩
 · exact .inr ⟨hl,by rw[qC (fun h=>hl h.2)]⟩};have HQ:=qA hq;clear hq h;generalize tR (e p) (e q)=r at *;generalize e p=x at *;generalize e q=y at *;obtain⟨x1,x2⟩:=x;obtain⟨y1,y2⟩:=y;rcases hcase with⟨hr,ha⟩|⟨hr,ha⟩
 {
 have t2:decide (r<0)=true:=qG hr;have HA:=qA ha;clear ha hr;go_enter Tryz.func231,Tryz.ntmps231
 go_wp2
 go_region_held3 (fun w' => w'.cell? ⟨ph, 2, none⟩ = some (.slice (some ⟨g, 0, none⟩) n cap) /\ w'.cell? ⟨g, p * 2, none⟩ = some (.int .i64 x1) /\ w'.cell? ⟨g, p * 2 + 1, none⟩ = some (.int .i64 x2) /\ w'.cell? ⟨g, q * 2, none⟩ = some (.int .i64 y1) /\ w'.cell? ⟨g, q * 2 + 1, none⟩ = some (.int .i64 y2))
   (first
     | go_keep
     | (exact⟨hF3.cell (by assumption) (by simp),hF3.cell (by assumption) (by simp),hF3.cell (by assumption) (by simp),hF3.cell (by assumption) (by simp),hF3.cell (by assumption) (by simp)⟩))
   (first
     | (go_at_call 245;refine(HO.out _).mono ?_;rintro e w3 ⟨rfl,hF3⟩))
 go_wp2
 go_ret;exact⟨by rw[HA.out];rfl,((Fr.refl [] w).drew).trans' hF3⟩}
 {
 have t2:decide (r<0)=false:=qF hr;have HA:=qA ha;clear ha hr;go_enter Tryz.func231,Tryz.ntmps231
 go_wp2
 go_region_held3 (fun w' => w'.cell? ⟨ph, 2, none⟩ = some (.slice (some ⟨g, 0, none⟩) n cap) /\ w'.cell? ⟨g, p * 2, none⟩ = some (.int .i64 x1) /\ w'.cell? ⟨g, p * 2 + 1, none⟩ = some (.int .i64 x2) /\ w'.cell? ⟨g, q * 2, none⟩ = some (.int .i64 y1) /\ w'.cell? ⟨g, q * 2 + 1, none⟩ = some (.int .i64 y2))
   (first
     | go_keep
     | (exact⟨hF3.cell (by assumption) (by simp),hF3.cell (by assumption) (by simp),hF3.cell (by assumption) (by simp),hF3.cell (by assumption) (by simp),hF3.cell (by assumption) (by simp)⟩))
   (first
     | (go_at_call 245;refine(HO.out _).mono ?_;rintro e w3 ⟨rfl,hF3⟩))
 go_wp2
 go_ret;exact⟨by rw[HA.out];rfl,((Fr.refl [] w).drew).trans' hF3⟩}}
theorem aEJ(h:HM w ph slots n e pl v gp cp bs){p:Nat}(hp:p<n):
    Calls Tryz.prog 232 #[aS ph,.int .i64 p] w fun e' w' =>e' =.returned (.int .i64 (pQ n e p))/\Fr [] w w' :=by
 have hnb:=h.nb;have c2:=h.hd.cell 2;simp only[zI,zJ]at c2;obtain⟨g,cap,rfl,_,hgl,_,_,_⟩:=gF h.items hp;have HE:Hid (∀(W:World) (x:Nat),Fr [] w W->x<n->W.cell? ⟨g,x*2,none⟩=some (.int .i64 ((e x).1:Int))/\W.cell? ⟨g,x*2+1,none⟩=some (.int .i64 (e x).2)):=qA (fun W x hf hx=>by
   obtain⟨g', cap', e1,_,_,q0,q1,_⟩:=gF (h.fr0 hf).items hx;simp only[qO,qI,Addr.mk.injEq,and_true,true_and]at e1;obtain⟨rfl,rfl⟩:=e1;exact⟨q0,q1⟩)
 have HC:Hid (∀(W:World),Fr [] w W->W.cell? ⟨ph,2,none⟩=some (.slice (some ⟨g,0,none⟩) n cap)):=qA (fun W hf=>hf.cell c2 (by simp));have HO:=qA (fun(a b:Nat×Int) (W:World)=>aEF a b W);clear h c2;go_enter Tryz.func232,Tryz.ntmps232
 go_wp2
 go_loopw [5,9] (fun sf sk wr=>∃k:Nat,k<=2/\sk=.int .i64 k/\sf=.int .i64 (kM n e p k:Nat)/\Hid (Fr [] w wr)) (fun _ sk _=>2-(intOf sk).toNat)
 case atStart=>exact⟨0,by omega,rfl,by rw[xP],qA (Fr.refl _ _)⟩
 case round=>
  obtain⟨k,hk,rfl,rfl,HF⟩:=hrel;have hfl:=aNK (e:=e) hp hk;by_cases hk2:k<2
  {
  obtain⟨q,hq⟩:∃q,q=2*p+1+k:=⟨_,rfl⟩;have hqi:2*(p:Int)+1+(k:Int)=(q:Int):=by omega
  have hki:(k:Int)<2:=by omega
  have Hy:=qA (fun(h:q<n/\elt (e q) (e (kM n e p k)))=>aAC hk2 hq h);have Hn:=qA (fun(h:¬(q<n/\elt (e q) (e (kM n e p k))))=>aEI hk2 hq h);have HQ:=qA hq;clear hq;have c2:=HC.out _ HF.out;have hq0:(0:Int)<=q:=by omega
  generalize hF1:kM n e p (k+1)=f1 at *;have HF1:=qA hF1;clear hF1;generalize kM n e p k=f0 at *;have hf0:(0:Int)<=f0:=by omega
  have hf1:(f0:Int)<n:=by omega
  by_cases hqn:q<n
  {
  have hqn1:(q:Int)<n:=by omega
  have t1:decide (q<n)=true:=qG hqn;obtain⟨q0,q1⟩:=HE.out _ q HF.out hqn;obtain⟨p0,p1⟩:=HE.out _ f0 HF.out hfl;have HO2:=qA (fun W=>HO.out (e q) (e f0) W);have hcase:(tR (e q) (e f0)<0/\f1=q)∨(¬tR (e q) (e f0)<0/\f1=f0):=by {
  rw[aEE];by_cases hl:elt (e q) (e f0)
  · exact .inl ⟨hl,Hy.out ⟨hqn,hl⟩⟩
  · exact .inr ⟨hl,Hn.out (fun h=>hl h.2)⟩};clear Hy Hn;generalize tR (e q) (e f0)=r at *;generalize e q=x at *;generalize e f0=y at *;obtain⟨x1,x2⟩:=x;obtain⟨y1,y2⟩:=y;rcases hcase with⟨hr,ha⟩|⟨hr,ha⟩
  {
  have t2:decide (r<0)=true:=qG hr;have HA:=qA ha;clear ha hr;go_wp2
  go_region_held3 (fun w' => w'.cell? ⟨ph, 2, none⟩ = some (.slice (some ⟨g, 0, none⟩) n cap) /\ w'.cell? ⟨g, q * 2, none⟩ = some (.int .i64 x1) /\ w'.cell? ⟨g, q * 2 + 1, none⟩ = some (.int .i64 x2) /\ w'.cell? ⟨g, f0 * 2, none⟩ = some (.int .i64 y1) /\ w'.cell? ⟨g, f0 * 2 + 1, none⟩ = some (.int .i64 y2))
    (first
      | go_keep
      | (exact⟨hF3.cell (by assumption) (by simp),hF3.cell (by assumption) (by simp),hF3.cell (by assumption) (by simp),hF3.cell (by assumption) (by simp),hF3.cell (by assumption) (by simp)⟩))
    (first
      | (go_at_call 245;refine(HO2.out _).mono ?_;rintro e w3 ⟨rfl,hF3⟩))
  have HF3:=qA ((HF.out.drew).trans' hF3);clear hF3;go_wp2
  go_roundw
  case rel=>exact⟨k+1,by omega,by go_num,by rw[HF1.out,HA.out],HF3⟩
  case measure=>simp[intOf];omega}
  {
  have t2:decide (r<0)=false:=qF hr;have HA:=qA ha;clear ha hr;go_wp2
  go_region_held3 (fun w' => w'.cell? ⟨ph, 2, none⟩ = some (.slice (some ⟨g, 0, none⟩) n cap) /\ w'.cell? ⟨g, q * 2, none⟩ = some (.int .i64 x1) /\ w'.cell? ⟨g, q * 2 + 1, none⟩ = some (.int .i64 x2) /\ w'.cell? ⟨g, f0 * 2, none⟩ = some (.int .i64 y1) /\ w'.cell? ⟨g, f0 * 2 + 1, none⟩ = some (.int .i64 y2))
    (first
      | go_keep
      | (exact⟨hF3.cell (by assumption) (by simp),hF3.cell (by assumption) (by simp),hF3.cell (by assumption) (by simp),hF3.cell (by assumption) (by simp),hF3.cell (by assumption) (by simp)⟩))
    (first
      | (go_at_call 245;refine(HO2.out _).mono ?_;rintro e w3 ⟨rfl,hF3⟩))
  have HF3:=qA ((HF.out.drew).trans' hF3);clear hF3;go_wp2
  go_roundw
  case rel=>exact⟨k+1,by omega,by go_num,by rw[HF1.out,HA.out],HF3⟩
  case measure=>simp[intOf];omega}}
  {
  have t1:decide (q<n)=false:=qF hqn;have HA:=qA (Hn.out (fun h=>hqn h.1));clear Hy Hn hqn;go_wp2
  go_quiet (fail)
  go_wp2
  go_roundw
  case rel=>exact⟨k+1,by omega,by go_num,by rw[HF1.out,HA.out],qA (HF.out.drewN _)⟩
  case measure=>simp[intOf];omega}}
  {
  obtain rfl:k=2:=by omega
  rw[aCO]at *;have hres:(blw n e p=p/\pQ n e p=-1)∨(blw n e p≠p/\pQ n e p=(blw n e p:Nat)):=by {
  unfold pQ;by_cases hb:blw n e p=p
  · exact .inl ⟨hb,by rw[qD hb]⟩
  · exact .inr ⟨hb,by rw[qC hb]⟩};generalize blw n e p=b at *;rcases hres with⟨hb,hr⟩|⟨hb,hr⟩
  {
  have t1:((b:Int) == (p:Int))=true:=by simp;omega
  have HR:=qA hr;clear hr hb;go_wp2
  go_ret;exact⟨by rw[HR.out];rfl,HF.out⟩}
  {
  have t1:((b:Int) == (p:Int))=false:=by simp;omega
  have HR:=qA hr;clear hr hb;go_wp2
  go_ret;exact⟨by rw[HR.out];rfl,HF.out⟩}}
end
end Go.Proofs.YtjdgpcjbgjnahaaGreatDoor
