/- The heap: above, below, settle. -/
import Derived.Test.YtjdgpcjbgjnahaaGreatDoorH6
import Derived.Test.YtjdgpcjbgjnahaaGreatDoorH3
import Derived.Test.YtjdgpcjbgjnahaaGreatDoorH1
import Derived.Deep.RegionHeld3
import Derived.StillTailTactics
import Derived.Deep.Upon
import Derived.Deep.RegionLaw
set_option maxRecDepth 10000
set_option maxHeartbeats 800000
set_option linter.unusedSimpArgs false
set_option linter.unusedVariables false
/- lct: Cut. -/
namespace Go.Proofs.YtjdgpcjbgjnahaaGreatDoor
open Go.RowKit Classical
noncomputable def gE(n:Nat)(E:Nat->Nat->Prop)(a b:Int):Int:=
  if inV n a=true/\inV n b=true then(if E a.toNat b.toNat then 0 else 5) else 3
noncomputable def xL(n:Nat)(E:Nat->Nat->Prop)(a b:Int):Nat->Nat->Prop:=if gE n E a b=0 then iN E a.toNat b.toNat else E
theorem aIZ{n:Nat}{E:Nat->Nat->Prop}(h:Frs E){v u:Nat}(hv:v<n)(hu:u<n):tA n E v u=1↔E v u:=by
 constructor
 {
 intro e;by_cases hc:mP n E v u
 {
 obtain⟨_,_,p,hp⟩:=hc;simp only[zD]at hp;rw[zS h hv hu hp]at e;obtain⟨l,rfl,hw,_,hl⟩:=hp;have hlen:l.length=1:=by simp at e;omega
 match l,hlen with
 | [x],_=>{
 simp at hl;subst hl;exact hw.1}}
 · unfold tA at e;rw[qC hc]at e;cases e}
 {
 intro e;rw[zS h hv hu (h.edge e)];rfl}
theorem aTG{w:World}{pf g n:Nat}{E:Nat->Nat->Prop}{key:Nat->Int}(h:LM w pf g n E key)(a b:Int):
    Calls Tryz.prog 198 #[.pointer (some ⟨pf,0,none⟩),.int .i64 a,.int .i64 b] w fun e w' =>e=.returned (.int .i64 (gE n E a b))/\LM w' pf g n (xL n E a b) key/\Fr [pf,g] w w' :=by
 have H:=qA h;have hfrs:=qA (LG.frs h);obtain⟨hp1,hg1,hn1⟩:=LG.lts h;obtain⟨cap,σ,F,par,d,rt,hL,hF,hE,hk⟩:=h;clear hF hE hk;have hLa:aE (w.alloc (.cells #[.int .i64 a,.int .i64 b] 3)) pf g (n+1) cap σ ((n:Int)-nc n E):=hL.below ((Below.refl _ w).alloc (qK _) _) hp1 hg1;have hblk:=Blk.new w [.int .i64 a,.int .i64 b] 3;have hFa:Fr [] w (w.alloc (.cells #[.int .i64 a,.int .i64 b] 3)):=(Fr.refl _ _).alloc _;have HMa:=qA (LG.fr H.out hFa (by simp) (by simp));have hCk:=xJ hLa w.heap.size 2 (fun k=>if k=0 then a else b) (by decide) (fun k hk=>by
   rw[hblk.cell];rcases(show k=0∨k=1 by omega) with rfl|rfl<;>rfl)
 have HCk:=qA hCk;clear hCk hblk;clear hLa hL;go_enter Tryz.func198,Tryz.ntmps198
 go_wp2_with fail
 refine HCk.out.mono ?_;rintro _ w1 ⟨hcode,rfl⟩;clear HCk;generalize w.alloc (.cells #[.int .i64 a,.int .i64 b] 3)=w1 at *;rcases hcode with⟨rfl,hall⟩|⟨rfl,k,hk,hbad⟩
 {
 have va:inV n a=true:=hall 0 (by decide);have vb:inV n b=true:=hall 1 (by decide);clear hall;obtain⟨v,rfl,hv⟩:=dW va;obtain⟨u,rfl,hu⟩:=dW vb;have hd1:=aIZ (n:=n) hfrs.out hv hu;go_wp2_with fail
 refine(aQQ HMa.out (v:Int) (u:Int)).mono ?_;rintro _ w2 ⟨rfl,hM2,hF2⟩;by_cases he:E v u
 {
 have hlc:gE n E v u=0:=by unfold gE;rw[qD ⟨va,vb⟩,zD,zD,qD he]
 have hle:xL n E v u=iN E v u:=by unfold xL;rw[hlc,qD rfl,zD,zD]
 have Hlc:=qA (zI hlc hle);clear hlc hle;have Hd:=qA (hd1.2 he);rw[Hd.out];have He:=qA he;clear va vb hd1;obtain⟨cap2,σ2,F2,par2,d2,rt2,hL2,hLF2,hE2,hk2⟩:=hM2;have hrt:rt2 (v+1)=rt2 (u+1):=(gD hLF2.rtd hE2).1 (dL hfrs.out he);have HF2:=qA hLF2;clear hLF2;have HE2:=qA hE2;clear hE2;have HK2:=qA hk2;clear hk2;clear he;have hN:=hL2.le;go_wp2_with fail
 refine(aCF hL2 HF2.out v u hv hu).mono ?_;rintro _ w3 ⟨rfl,τ,l,R,par', d', rt', hL3,hP,hF3⟩;obtain⟨p,hp1', hp2', _⟩:=hP.at HE2.out hrt;have hpe:p=[v,u]:=hfrs.out.unique hp1' (hfrs.out.edge He.out);have hls:l.seq=[v+1]:=by {
 rw[hpe]at hp2';simp only[List.map_cons,List.map_nil]at hp2';have e:[v+1]++[u+1]=l.seq++[u+1]:=hp2';exact(List.append_cancel_right e).symm};have HCt:=qA (hP.lf.cut hls);have HPk:=qA (zI hP.key hP.adj);clear hP hp1' hp2' hpe hls hrt;have d3:=hL3.hd.cell 1;simp only[zJ,zK]at d3;have hfz3:=hL3.nodes.frozen;have a2:=hL3.nodes.c2 (v+1) (by omega);obtain⟨hL4,hF4⟩:aE (w3.setCell ⟨g,(v+1)*9+2,none⟩ (.int .i64 0)) pf g (n+1) cap2 (τ.upd (v+1) { τ (v+1) with up:=0 }) ((n:Int)-nc n E)/\Fr [g] w3 (w3.setCell ⟨g,(v+1)*9+2,none⟩ (.int .i64 0)):=hL3.st2 (Fr.refl [g] w3) (i:=v+1) (by omega) 0;have hv2:((v+1:Nat):Int)<((n+1:Nat):Int):=by omega
 have hu2:((u+1:Nat):Int)<((n+1:Nat):Int):=by omega
 have d4:=hL4.hd.cell 1;simp only[zJ,zK]at d4;have hfz4:=hL4.nodes.frozen;have b0:=hL4.nodes.c0 (u+1) (by omega);obtain⟨hL5,hF5⟩:=hL4.st0 hF4 (i:=u+1) (by omega) 0;have HL5:Hid (aE ((w3.setCell ⟨g,(v+1)*9+2,none⟩ (.int .i64 0)).setCell ⟨g,(u+1)*9,none⟩ (.int .i64 0)) pf g (n+1) cap2 (iF τ (v+1) (u+1)) ((n:Int)-nc n E)/\Fr [g] w3 ((w3.setCell ⟨g,(v+1)*9+2,none⟩ (.int .i64 0)).setCell ⟨g,(u+1)*9,none⟩ (.int .i64 0))):=qA (zI hL5 hF5);clear hL5 hF5 hL4 hF4;go_wp2_with fail
 refine(lU HL5.out.1 u hu HCt.out.2.2.2.2 HCt.out.2.2.1 HCt.out.2.2.2.1).mono ?_;rintro _ w6 ⟨rfl,hL6,hF6⟩;have hF36:Fr [g] w3 w6:=HL5.out.2.then hF6;clear HL5 d3 hfz3 a2 d4 hfz4 b0;have c6:=hL6.hd.cell 2;simp only[zJ,zK]at c6;have hfz6:=hL6.hd.frozen 2;obtain⟨par3,d3', rt3,F3,q1,q2⟩:=HCt.out.1;have hDE:∀x y,iN E v u x y↔Adj par3 (x+1) (y+1):=by {
 intro x y;rw[q2,HPk.out.2];unfold iN;rw[HE2.out x y];simp only[Nat.add_right_cancel_iff]};have hcnt:=aQK (n:=n) hfrs.out ⟨par3,d3', rt3,q1.rtd,hDE⟩ He.out hv hu;have hnc1:=aIP n (iN E v u);obtain⟨hL8,hF8⟩:=hL6.edges (hF2.then (hF3.then hF36)) ((n:Int)-nc n (iN E v u));have Hfin:=qA (show LM _ pf g n (iN E v u) key from⟨cap2,_,F3,par3,d3', rt3,hL8,q1,hDE,fun x hx=>by rw[HCt.out.2.1,HPk.out.1];exact HK2.out x hx⟩);have he2:(n:Int)-nc n E-1=(n:Int)-nc n (iN E v u):=by omega
 have He2:=qA he2;clear hL8 q1 q2 hDE hcnt he2 HCt;have hncE:=aIP n E;generalize nc n E=z1 at *;generalize nc n (iN E v u)=z2 at *;go_wp2
 go_ret;rw[Hlc.out.1,Hlc.out.2,He2.out];exact⟨rfl,Hfin.out,(hFa.mono (S' :=[pf,g]) (by simp)).trans hF8 (fun q hq=>.inl hq)⟩}
 {
 have hlc:gE n E v u=5:=by unfold gE;rw[qD ⟨va,vb⟩,zD,zD,qC he]
 have hle:xL n E v u=E:=by unfold xL;rw[hlc];simp
 have Hlc:=qA (zI hlc hle);clear hlc hle;have hne:(tA n E v u != 1)=true:=bne_iff_ne.2 (fun e=>he (hd1.1 e));have HM2:=qA hM2;clear va vb hd1 he hM2;go_wp2
 go_ret;rw[Hlc.out.1,Hlc.out.2];exact⟨rfl,HM2.out,(hFa.mono (S' :=[pf,g]) (by simp)).trans hF2 (fun q hq=>.inl (by simp at hq;simp[hq]))⟩}}
 {
 have hlc:gE n E a b=3:=by {
 unfold gE;rw[qC];rintro⟨h1,h2⟩;rcases(show k=0∨k=1 by omega) with rfl|rfl
 · have hbad:inV n a=false:=hbad;rw[h1]at hbad;cases hbad
 · have hbad:inV n b=false:=hbad;rw[h2]at hbad;cases hbad};have hle:xL n E a b=E:=by unfold xL;rw[hlc];simp
 have Hlc:=qA (zI hlc hle);clear hlc hle hbad;go_wp2
 go_ret;rw[Hlc.out.1,Hlc.out.2];exact⟨rfl,HMa.out,hFa.mono (by simp)⟩}
end Go.Proofs.YtjdgpcjbgjnahaaGreatDoor
namespace Go.Proofs.YtjdgpcjbgjnahaaGreatDoor
open Classical
def TE(S:Nat)(G:cF)(T:Nat->Prop)(v u:Nat):Prop:=
  ∃s a b x,G s=some (a,b,x)/\T s/\((v=s/\(u=S+a∨u=S+b))∨(u=s/\(v=S+a∨v=S+b)))
section
variable {S:Nat} {G:cF} {T W:Nat->Prop} {a b:Nat} {p:List Nat}
theorem aNK{v u:Nat}(h:TE S G T v u):TE S G T u v:=by
 obtain⟨s,a,b,x,h1,h2,h3⟩:=h;exact⟨s,a,b,x,h1,h2,h3.symm⟩
theorem xM{T' :Nat->Prop}(ht:∀s,T s->T' s){v u:Nat}(h:TE S G T v u):TE S G T' v u:=by
 obtain⟨s,a,b,x,h1,h2,h3⟩:=h;exact⟨s,a,b,x,h1,ht s h2,h3⟩
theorem zT(hS:∀s e,G s=some e->s<S):∀{l:List Nat} {v:Nat},Wk (TE S G T) v l->(∀y∈v::l,y<S->W y) ->
    ((S<=v->Cx G (fun t=>T t/\W t) a (v-S))/\(v<S->∃c d x,G v=some (c,d,x)/\Cx G (fun t=>T t/\W t) a c/\Cx G (fun t=>T t/\W t) a d)) ->
    ∀y∈v::l,(S<=y->Cx G (fun t=>T t/\W t) a (y-S))/\(y<S->∃c d x,G y=some (c,d,x)/\Cx G (fun t=>T t/\W t) a c/\Cx G (fun t=>T t/\W t) a d)
  | [],v,_,_,hv,y,hy=>by simp at hy;subst hy;exact hv
  | z::l,v,⟨h1,h2⟩,hW,hv,y,hy=>by
    rcases qB.1 hy with rfl|hy
    · exact hv
    refine zT hS h2 (fun y hy=>hW y (by simp at hy ⊢;exact .inr hy)) ?_ y hy;obtain⟨s,c,d,x,hg,ht,h3⟩:=h1;have hs:=hS s _ hg;rcases h3 with⟨rfl,h3⟩|⟨rfl,h3⟩
    · obtain ⟨c', d', x', hg', h4, h5⟩ := hv.2 hs
      rw[hg]at hg'; simp only[qI,zE]at hg';obtain⟨rfl,rfl,rfl⟩:=hg';rcases h3 with rfl|rfl
      · exact⟨fun _=>by rw[Nat.add_sub_cancel_left];exact h4,fun e=>by omega⟩
      · exact⟨fun _=>by rw[Nat.add_sub_cancel_left];exact h5,fun e=>by omega⟩
    · have hw := hW z (by simp) hs
      have ed:Cx G (fun t=>T t/\W t) c d:=Cx.edge (s:=z) ⟨ht,hw⟩ hg;refine⟨fun e=>by omega,fun _=>⟨c,d,x,hg,?_⟩⟩;rcases h3 with rfl|rfl
      · have h4 := hv.1 (by omega)
        rw[Nat.add_sub_cancel_left]at h4;exact⟨h4,h4.trans ed⟩
      · have h4 := hv.1 (by omega)
        rw[Nat.add_sub_cancel_left]at h4;exact⟨h4.trans ed.symm,h4⟩
theorem aEE(hS:∀s e,G s=some e->s<S)(hp:bD (TE S G T) (S+a) (S+b) p)(hW:∀y∈p,y<S->W y):Cx G (fun t=>T t/\W t) a b:=by
 obtain⟨l,rfl,h2,_,h4⟩:=hp;have hb:S+b∈(S+a)::l:=List.mem_of_getLast? h4;have:=(zT hS h2 hW ⟨fun _=>by rw[Nat.add_sub_cancel_left];exact .refl a,fun e=>by omega⟩ _ hb).1 (by omega);rw[Nat.add_sub_cancel_left]at this;exact this
theorem tC(_hS:∀s e,G s=some e->s<S)(hp:bD (TE S G T) (S+a) (S+b) p){m:Nat}(hm:m∈p)(hms:m<S):∃c d x,G m=some (c,d,x)/\T m:=by
 obtain⟨l,rfl,h2,_,h4⟩:=hp;have key:∀{l:List Nat} {v:Nat},Wk (TE S G T) v l->m∈l->∃c d x,G m=some (c,d,x)/\T m:=by {
 intro l;induction l with
 | nil=>intro v _ h;simp at h
 | cons z l ih=>{
 intro v ⟨h1,h2⟩ hm;rcases qB.1 hm with rfl|hm
 {
 obtain⟨s,c,d,x,hg,ht,h3⟩:=h1;rcases h3 with⟨_,h3⟩|⟨rfl,_⟩
 · omega
 · exact⟨c,d,x,hg,ht⟩}
 · exact ih h2 hm}};rcases qB.1 hm with rfl|hm
 · omega
 · exact key h2 hm
theorem aQR(hp:bD (TE S G T) (S+a) (S+b) p)(hS:∀s e,G s=some e->s<S)(hab:a≠b):∃s,s∈p/\s<S:=by
 obtain⟨l,rfl,h2,_,h4⟩:=hp;cases l with
 | nil=>simp at h4;exact absurd h4 hab
 | cons z l=>{
 refine⟨z,by simp,?_⟩;obtain⟨s,c,d,x,hg,_,h3⟩:=h2.1;have:=hS s _ hg;rcases h3 with⟨h3,_⟩|⟨rfl,_⟩
 · omega
 · exact this}
theorem xN(hf:Frs (TE S G T))(h:Cx G T a b):bJ (TE S G T) (S+a) (S+b):=by
 induction h with
 | refl=>exact bJ.refl _ _
 | @step c d s x _ h1 h2 ih=>{
 refine hf.ctrans ih ?_;rcases h2 with h2|h2
 · exact hf.ctrans (dL hf ⟨s,c,d,x,h2,h1,.inr ⟨rfl,.inl rfl⟩⟩) (dL hf ⟨s,c,d,x,h2,h1,.inl ⟨rfl,.inr rfl⟩⟩)
 · exact hf.ctrans (dL hf ⟨s,d,c,x,h2,h1,.inr ⟨rfl,.inr rfl⟩⟩) (dL hf ⟨s,d,c,x,h2,h1,.inl ⟨rfl,.inl rfl⟩⟩)}
theorem aQS(hS:∀s e,G s=some e->s<S)(hf:Frs (TE S G T)):bJ (TE S G T) (S+a) (S+b)↔Cx G T a b:=
  ⟨fun⟨_,hp⟩=>(aEE (W:=fun _=>True) hS hp (fun _ _ _=>trivial)).mono (fun _ _ h _=>h.1),xN hf⟩
theorem aQT(hf:Frs (TE S G T)){m:Nat}(hf' :Frs (TE S G (fun t=>T t/\t≠m)))(hp:bD (TE S G T) (S+a) (S+b) p)(hm:m∈p)(hms:m<S):¬Cx G (fun t=>T t/\t≠m) a b:=by
 intro h;obtain⟨q,hq⟩:=xN hf' h;have e:=hf.unique hp (hq.mono (fun x y=>xM (fun s h=>h.1)));rw[e]at hm;obtain⟨l,rfl,h2,_,_⟩:=hq;have key:∀{l:List Nat} {v:Nat},Wk (TE S G (fun t=>T t/\t≠m)) v l->m∈l->False:=by {
 intro l;induction l with
 | nil=>intro v _ h;simp at h
 | cons z l ih=>{
 intro v ⟨h1,h2⟩ hm;rcases qB.1 hm with rfl|hm
 {
 obtain⟨s,c,d,x,hg,ht,h3⟩:=h1;rcases h3 with⟨_,h3⟩|⟨rfl,_⟩
 · omega
 · exact ht.2 rfl}
 · exact ih h2 hm}};rcases qB.1 hm with rfl|hm
 · omega
 · exact key h2 hm
theorem aQU{s:Nat}{x:Int}(hg:G s=some (a,b,x)):dZ (dZ (TE S G T) s (S+a)) s (S+b)=TE S G (fun t=>T t∨t=s):=by
 refine vI fun v u=>?_;unfold dZ;constructor
 {
 rintro((h|⟨rfl,rfl⟩|⟨rfl,rfl⟩)|⟨rfl,rfl⟩|⟨rfl,rfl⟩)
 · exact xM (fun _=>.inl) h
 · exact⟨v,a,b,x,hg,.inr rfl,.inl ⟨rfl,.inl rfl⟩⟩
 · exact⟨u,a,b,x,hg,.inr rfl,.inr ⟨rfl,.inl rfl⟩⟩
 · exact⟨v,a,b,x,hg,.inr rfl,.inl ⟨rfl,.inr rfl⟩⟩
 · exact⟨u,a,b,x,hg,.inr rfl,.inr ⟨rfl,.inr rfl⟩⟩}
 {
 rintro⟨t,c,d,y,h1,h2|rfl,h3⟩
 · exact .inl (.inl ⟨t,c,d,y,h1,h2,h3⟩)
 {
 rw[hg]at h1;simp only[qI,zE]at h1;obtain⟨rfl,rfl,rfl⟩:=h1;rcases h3 with⟨rfl,rfl|rfl⟩|⟨rfl,rfl|rfl⟩<;>simp}}
theorem aQV(hS:∀s e,G s=some e->s<S){s:Nat}{x:Int}(hg:G s=some (a,b,x)):iN (iN (TE S G T) s (S+a)) s (S+b)=TE S G (fun t=>T t/\t≠s):=by
 have hs:=hS s _ hg;refine vI fun v u=>?_;unfold iN;constructor
 {
 rintro⟨⟨⟨t,c,d,y,h1,h2,h3⟩,n1,n2⟩,n3,n4⟩;refine⟨t,c,d,y,h1,⟨h2,?_⟩,h3⟩;rintro rfl;rw[hg]at h1;simp only[qI,zE]at h1;obtain⟨rfl,rfl,rfl⟩:=h1;rcases h3 with⟨rfl,rfl|rfl⟩|⟨rfl,rfl|rfl⟩
 · exact n1 ⟨rfl,rfl⟩
 · exact n3 ⟨rfl,rfl⟩
 · exact n2 ⟨rfl,rfl⟩
 · exact n4 ⟨rfl,rfl⟩}
 {
 rintro⟨t,c,d,y,h1,⟨h2,hne⟩,h3⟩;have ht:=hS t _ h1;exact⟨⟨⟨t,c,d,y,h1,h2,h3⟩,by omega,by omega⟩,by omega,by omega⟩}
theorem zU{G' :cF}{T' :Nat->Prop}(h1:∀s,T s↔T' s)(h2:∀s,T s->G s=G' s):TE S G T=TE S G' T' :=by
 refine vI fun v u=>?_;constructor
 {
 rintro⟨t,c,d,y,e1,e2,e3⟩;exact⟨t,c,d,y,by rw[<-h2 t e2];exact e1,(h1 t).1 e2,e3⟩}
 {
 rintro⟨t,c,d,y,e1,e2,e3⟩;have:=(h1 t).2 e2;exact⟨t,c,d,y,by rw[h2 t this];exact e1,this,e3⟩}
theorem aQW{s v:Nat}(hT:¬T s)(hs:s<S):¬TE S G T v s:=by
 rintro⟨t,c,d,y,h1,h2,⟨_,h3⟩|⟨rfl,_⟩⟩
 · omega
 · exact hT h2
theorem zV{s v:Nat}(hT:¬T s)(hs:s<S)(hv:v≠s)(hf:Frs (TE S G T)):¬bJ (TE S G T) s v:=by
 intro h;obtain⟨x,hx⟩:=aNI (hf.csymm h) (fun e=>hv e);exact aQW hT hs hx
theorem aNL:TE S (fun _=>none) T=fun _ _=>False:=by
 refine vI fun v u=>?_;simp[TE]
end
structure GW (S V:Nat) (G:cF):Prop where
  slot:∀s e,G s=some e->s<S
  ends : ∀ s a b x, G s = some (a, b, x) -> a < V /\ b < V /\ a ≠ b
  rng:∀s a b x,G s=some (a,b,x)-> -9223372036854775808<=x/\x<=9223372036854775807
structure aPS (S V:Nat) (G:cF) (T:Nat->Prop) (key:Nat->Int):Prop where
  slot:∀s a b x,G s=some (a,b,x)->T s->key s=x
  vert:∀v,v<V->key (S+v)=9223372036854775807
section
variable {S V:Nat} {G:cF} {a b m:Nat} {p:List Nat} {key:Nat->Int}
theorem GW.no(S V:Nat):GW S V (fun _=>none):=⟨fun _ _ h=>(by cases h),fun _ _ _ _ h=>(by cases h),fun _ _ _ _ h=>(by cases h)⟩
theorem GW.put(h:GW S V G){s:Nat}{x:Int}(hs:s<S)(ha:a<V)(hb:b<V)(hab:a≠b)(hx:-9223372036854775808<=x/\x<=9223372036854775807):GW S V (cM G s (some (a,b,x))):=by
 have key:∀t e,cM G s (some (a,b,x)) t=some e->(t=s/\e=(a,b,x))∨G t=some e:=by {
 intro t e ht;by_cases h1:t=s
 · subst h1;rw[cN]at ht;cases ht;exact .inl ⟨rfl,rfl⟩
 · rw[aW h1]at ht;exact .inr ht};refine⟨fun t e ht=>?_,fun t c d y ht=>?_,fun t c d y ht=>?_⟩
 {
 rcases key _ _ ht with⟨rfl,_⟩|h1
 · exact hs
 · exact h.slot _ _ h1}
 {
 rcases key _ _ ht with⟨rfl,e⟩|h1
 · cases e;exact⟨ha,hb,hab⟩
 · exact h.ends _ _ _ _ h1}
 {
 rcases key _ _ ht with⟨rfl,e⟩|h1
 · cases e;exact hx
 · exact h.rng _ _ _ _ h1}
theorem aCH(h:GW S V G)(hk:aPS S V G (aK G) key)(hp:bD (TE S G (aK G)) (S+a) (S+b) p)(hab:a≠b)(hf:rO key p m)(hn:∀x∈p,x<S+V):
    ∃ma mb y,m<S/\G m=some (ma,mb,y)/\aK G m/\Cx G (fun t=>aK G t/\(t=m∨Aft G m y t)) a b:=by
 have hms:m<S:=by {
 apply qQ;intro hms;obtain⟨s,hs,hsS⟩:=aQR hp h.slot hab;obtain⟨c,d,x,hg,ht⟩:=tC h.slot hp hs hsS;have h1:=hk.slot s c d x hg ht;have h2:=hk.vert (m-S) (by have:=hn m hf.1;omega);rw[show S+(m-S)=m by omega]at h2;have h3:=h.rng s c d x hg;rcases hf.2 s hs (by omega) with e|⟨_,e⟩<;>omega};obtain⟨ma,mb,y,hg,ht⟩:=tC h.slot hp hf.1 hms;refine⟨ma,mb,y,hms,hg,ht,aEE h.slot hp fun t htp htS=>?_⟩;by_cases e:t=m
 · exact .inl e
 obtain⟨c,d,x,hg', ht'⟩:=tC h.slot hp htp htS;have h1:=hk.slot t c d x hg' ht';have h2:=hk.slot m ma mb y hg ht;refine .inr ⟨c,d,x,hg', ?_⟩;rw[<-h1,<-h2];rcases hf.2 t htp e with e1|⟨e1,e2⟩
 · exact .inl e1
 · exact .inr ⟨e1,e2⟩
end
noncomputable def bZ(S:Nat)(T:Nat->Prop):Nat:=((List.range S).filter fun s=>decide (T s)).length
theorem lV(S:Nat)(T:Nat->Prop):bZ S T<=S:=by
 unfold bZ;have:=List.length_filter_le (fun s=>decide (T s)) (List.range S);simpa using this
theorem dM{S:Nat}{T T' :Nat->Prop}(h:∀s,T s↔T' s):bZ S T=bZ S T' :=by
 have:T=T' :=funext fun s=>propext (h s);rw[this]
theorem tD{S:Nat}{T T' :Nat->Prop}{m:Nat}(hm:m<S)(ht:T m)(hn:¬T' m)(h:∀x,x≠m->(T' x↔T x)):bZ S T' + 1=bZ S T:=by
 unfold bZ;exact gO (P:=fun s=>decide (T s)) (P' :=fun s=>decide (T' s)) (m:=m) List.nodup_range (List.mem_range.2 hm) (by simp[ht]) (by simp[hn]) (fun x _ hx=>by simp[h x hx])
theorem jA{S:Nat}{T:Nat->Prop}{m:Nat}(hm:m<S)(ht:T m):bZ S (fun t=>T t/\t≠m)+1=bZ S T:=
  tD hm ht (fun h=>h.2 rfl) (fun _ hx=>⟨fun h=>h.1,fun h=>⟨h,hx⟩⟩)
theorem aJA{S:Nat}{T:Nat->Prop}{m:Nat}(hm:m<S)(ht:¬T m):bZ S (fun t=>T t∨t=m)=bZ S T+1:=by
 have:=jA (T:=fun t=>T t∨t=m) hm (.inr rfl);rw[<-this,dM (T:=fun t=>(T t∨t=m)/\t≠m) (T' :=T)];intro s;constructor
 {
 rintro⟨h|h,h2⟩
 · exact h
 · exact absurd h h2}
 {
 intro h;exact⟨.inl h,by rintro rfl;exact ht h⟩}
theorem pG(S:Nat):bZ S (fun _=>False)=0:=by simp[bZ]
def vJ(G:cF)(T:Nat->Prop):Prop:=∀m c d x,T m->G m=some (c,d,x)->¬Cx G (fun t=>T t/\t≠m) c d
section
variable {S V:Nat} {G:cF} {T T' U:Nat->Prop} {a b c d m:Nat} {x y:Int}
theorem vJ.sub(h:vJ G T)(hs:∀t,T' t->T t):vJ G T' :=fun m c d x h1 h2 h3=>
  h m c d x (hs m h1) h2 (h3.mono fun t _ ht _=>⟨hs t ht.1,ht.2⟩)
theorem tE{P:Nat->Prop}{S:Nat}(h:bZ S P=0):∀s,s<S->¬P s:=by
 intro s hs hp;unfold bZ at h;have h1:s∈(List.range S).filter fun s=>decide (P s):=zA.2 ⟨List.mem_range.2 hs,by simp[hp]⟩;rw[List.length_eq_zero_iff.1 h]at h1;simp at h1
theorem aJB(hS:∀s e,G s=some e->s<S):∀(k:Nat) (P:Nat->Prop),bZ S P<=k->(∀s,P s->∃e,G s=some e)->(∃s,P s)->∃s a b x,P s/\G s=some (a,b,x)/\∀t,P t->t≠s->Aft G s x t:=by
 intro k;induction k with
 | zero=>{
 rintro P hk hg ⟨s,hs⟩;obtain⟨e,he⟩:=hg s hs;exact absurd hs (tE (by omega) s (hS s e he))}
 | succ k ih=>{
 rintro P hk hg ⟨s,hs⟩;obtain⟨⟨a,b,x⟩,he⟩:=hg s hs;by_cases hne:∃t,P t/\t≠s
 {
 have hd:=jA (T:=P) (hS s _ he) hs;obtain⟨u,c,d,y,⟨hu,hus⟩,hgu,hall⟩:=ih (fun t=>P t/\t≠s) (by omega) (fun t ht=>hg t ht.1) hne;by_cases hb:bef x s y u
 {
 refine⟨s,a,b,x,hs,he,fun t ht hts=>?_⟩;by_cases htu:t=u
 · subst htu;exact⟨c,d,y,hgu,hb⟩
 {
 obtain⟨e1,e2,z,h1,h2⟩:=hall t ⟨ht,hts⟩ htu;exact⟨e1,e2,z,h1,fE hb h2⟩}}
 {
 refine⟨u,c,d,y,hu,hgu,fun t ht htu=>?_⟩;by_cases hts:t=s
 · subst hts;exact⟨a,b,x,he,xF (fun e=>htu e) hb⟩
 · exact hall t ⟨ht,hts⟩ htu}}
 · refine⟨s,a,b,x,hs,he,fun t ht hts=>absurd ⟨t,ht,hts⟩ hne⟩}
theorem aGC(hS:∀s e,G s=some e->s<S):∀(k:Nat) (T:Nat->Prop),bZ S T<=k->(∀t,T t->aK G t)->vJ G T:=by
 intro k;induction k with
 | zero=>{
 intro T hk hT m c d x hm hg _;exact tE (by omega) m (hS m _ hg) hm}
 | succ k ih=>{
 intro T hk hT m c d x hm hg hc;obtain⟨s,a,b,z,hs,hgs,hall⟩:=aJB hS (k+1) T hk (fun t ht=>by obtain⟨_,_,_,h,_⟩:=hT t ht;exact⟨_,h⟩) ⟨m,hm⟩;have hd:=jA (T:=T) (hS s _ hgs) hs;have I:=ih (fun t=>T t/\t≠s) (by omega) (fun t ht=>hT t ht.1);obtain⟨a', b', z', hgs', hnc⟩:=hT s hs;rw[hgs]at hgs'; simp only[qI,zE]at hgs';obtain⟨rfl,rfl,rfl⟩:=hgs';have lift:∀{p q:Nat},Cx G (fun t=>T t/\t≠s) p q->Cx G (Aft G s z) p q:=fun h=>h.mono fun t _ ht _=>hall t ht.1 ht.2;by_cases hms:m=s
 {
 subst hms;rw[hg]at hgs;simp only[qI,zE]at hgs;obtain⟨rfl,rfl,rfl⟩:=hgs;exact hnc (lift hc)}
 {
 have ed:Cx G (fun t=>T t/\t≠s) c d:=Cx.edge (s:=m) ⟨hm,hms⟩ hg;have wk:∀{p q:Nat},Cx G (fun t=>(T t/\t≠s)/\t≠m) p q->Cx G (fun t=>T t/\t≠s) p q:=fun h=>h.mono fun t _ ht _=>ht.1;rcases hc.more (U' :=fun t=>(T t/\t≠s)/\t≠m) (s:=s) (fun u hu=>if e:u=s then .inr e else .inl ⟨⟨hu.1,e⟩,hu.2⟩) hgs with h|⟨h1,h2⟩|⟨h1,h2⟩
 · exact I m c d x ⟨hm,hms⟩ hg h
 · exact hnc (lift (((wk h1).symm.trans ed).trans (wk h2).symm))
 · exact hnc (lift (((wk h2).trans ed.symm).trans (wk h1)))}}
theorem aCI(hS:∀s e,G s=some e->s<S):vJ G (aK G):=aGC hS _ _ (qK _) (fun _ h=>h)
theorem aNM(hg:G m=some (c,d,x))(hm:T m)(p q:Nat):Cx G T p q↔Cx G (fun t=>T t/\t≠m) p q∨(Cx G (fun t=>T t/\t≠m) p c/\Cx G (fun t=>T t/\t≠m) d q)∨(Cx G (fun t=>T t/\t≠m) p d/\Cx G (fun t=>T t/\t≠m) c q):=by
 constructor
 {
 intro h;exact h.more (fun u hu=>if e:u=m then .inr e else .inl ⟨hu,e⟩) hg}
 {
 have wk:∀{p q:Nat},Cx G (fun t=>T t/\t≠m) p q->Cx G T p q:=fun h=>h.mono fun t _ ht _=>ht.1;have ed:Cx G T c d:=Cx.edge (s:=m) hm hg;rintro(h|⟨h1,h2⟩|⟨h1,h2⟩)
 · exact wk h
 · exact((wk h1).trans ed).trans (wk h2)
 · exact((wk h1).trans ed.symm).trans (wk h2)}
def oA(G:cF)(T:Nat->Prop)(v:Nat):Prop:=∀u,u<v->¬Cx G T v u
theorem aGD(hc:c<V)(hd:d<V)(hg:G m=some (c,d,x))(hm:T m)(hn:¬Cx G (fun t=>T t/\t≠m) c d):bZ V (oA G T)+1=bZ V (oA G fun t=>T t/\t≠m):=by
 have hcx:=fun p q=>aNM hg hm p q;generalize hR:(fun p q=>Cx G (fun t=>T t/\t≠m) p q)=R at *;have tr:∀{p q r},R p q->R q r->R p r:=by rw[<-hR];intro p q r h1 h2;exact Cx.trans h1 h2
 have sy:∀{p q},R p q->R q p:=by rw[<-hR];intro p q h1;exact Cx.symm h1
 have rf:∀p,R p p:=by rw[<-hR];intro p;exact .refl p
 have eR:∀p q,Cx G (fun t=>T t/\t≠m) p q↔R p q:=by rw[<-hR];intro p q;exact Iff.rfl
 simp only[eR]at hcx hn;have eL:bZ V (oA G fun t=>T t/\t≠m)=bZ V (fun v=>∀u,u<v->¬R v u):=dM fun v=>by unfold oA;simp only[eR]
 have eL' :bZ V (oA G T)=bZ V (fun v=>∀u,u<v->¬(R v u∨(R v c/\R d u)∨(R v d/\R c u))):=dM fun v=>by unfold oA;simp only[hcx]
 rw[eL,eL'];clear eL eL' eR hcx hR;have key:∀{a b fa fb:Nat},fa<fb->R a fa->R b fb->(∀u,u<fa->¬R fa u)->(∀u,u<fb->¬R fb u)->b<V->fb<=b->bZ V (fun v=>∀u,u<v->¬(R v u∨(R v a/\R b u)∨(R v b/\R a u)))+1=bZ V (fun v=>∀u,u<v->¬R v u):=by {
 intro a b fa fb hlt hca hcb hfa hfb hbn hfbb;refine tD (m:=fb) (by omega) hfb ?_ ?_
 {
 intro hf;exact hf fa hlt (.inr (.inr ⟨sy hcb,hca⟩))}
 {
 intro v hv;refine⟨fun hf u hu hc=>hf u hu (.inl hc),fun hf u hu hc=>?_⟩;rcases hc with e|⟨e1,e2⟩|⟨e1,e2⟩
 · exact hf u hu e
 {
 have hxfa:R v fa:=tr e1 hca;have h1:v=fa:=by {
 rcases Nat.lt_trichotomy v fa with q|q|q
 · exact absurd (sy hxfa) (hfa v q)
 · exact q
 · exact absurd hxfa (hf fa q)};have:¬u<fb:=fun q=>hfb u q (tr (sy hcb) e2);omega}
 {
 have hxfb:R v fb:=tr e1 hcb;rcases Nat.lt_trichotomy v fb with q|q|q
 · exact absurd (sy hxfb) (hfb v q)
 · exact absurd q hv
 · exact absurd hxfb (hf fb q)}}};obtain⟨fa,ha1,ha2,ha3⟩:=nX (P:=fun k=>R c k) (rf c);obtain⟨fb,hb1,hb2,hb3⟩:=nX (P:=fun k=>R d k) (rf d);have hne:fa≠fb:=by rintro rfl;exact hn (tr ha2 (sy hb2))
 have hfa:∀u,u<fa->¬R fa u:=fun k hk hc=>ha3 k hk (tr ha2 hc);have hfb:∀u,u<fb->¬R fb u:=fun k hk hc=>hb3 k hk (tr hb2 hc);rcases Nat.lt_or_gt_of_ne hne with q|q
 · exact key q ha2 hb2 hfa hfb hd hb1
 {
 rw[<-key q hb2 ha2 hfb hfa hc ha1];congr 1
 exact dM fun v=>⟨fun h u hu e=>h u hu (e.elim .inl (fun e=>e.elim (fun e=>.inr (.inr e)) (fun e=>.inr (.inl e)))),fun h u hu e=>h u hu (e.elim .inl (fun e=>e.elim (fun e=>.inr (.inr e)) (fun e=>.inr (.inl e))))⟩}
theorem aJC(hG:GW S V G):∀(k:Nat) (T:Nat->Prop),bZ S T<=k->(∀t,T t->∃e,G t=some e)->vJ G T->bZ V (oA G T)+bZ S T=V:=by
 have all:bZ V (fun _=>True)=V:=by {
 unfold bZ;rw[List.filter_eq_self.2 (fun _ _=>by simp),List.length_range]};intro k;induction k with
 | zero=>{
 intro T hk hT hI;have h0:∀s,¬T s:=fun s hs=>by obtain⟨e,he⟩:=hT s hs;exact tE (by omega) s (hG.slot s e he) hs
 have:bZ V (oA G T)=V:=by {
 refine(dM (T' :=fun _=>True) (fun v=>⟨fun _=>trivial,fun _ u hu hc=>?_⟩)).trans all;cases hc with
 | refl=>exact absurd hu (Nat.lt_irrefl _)
 | step s x _ h1 _=>exact h0 s h1};omega}
 | succ k ih=>{
 intro T hk hT hI;by_cases hm:∃m,T m
 {
 obtain⟨m,hm⟩:=hm;obtain⟨⟨c,d,x⟩,hg⟩:=hT m hm;have hd:=jA (T:=T) (hG.slot m _ hg) hm;have hen:=hG.ends m c d x hg;have:=aGD hen.1 hen.2.1 hg hm (hI m c d x hm hg);have:=ih (fun t=>T t/\t≠m) (by omega) (fun t ht=>hT t ht.1) (hI.sub fun t ht=>ht.1);omega}
 {
 have h0:∀s,¬T s:=fun s hs=>hm ⟨s,hs⟩;exact ih T (by rw[dM (T' :=fun _=>False) (fun s=>⟨fun h=>h0 s h,fun h=>h.elim⟩),pG];omega) hT hI}}
theorem aGE(hG:GW S V G):bZ V (oA G (aK G))+bZ S (aK G)=V:=
  aJC hG _ _ (qK _) (fun _t ⟨_a,_b,_x,h,_⟩=>⟨_,h⟩) (aCI hG.slot)
theorem Frs.sub{E E' :Nat->Nat->Prop}(h:Frs E)(hs:∀v u,E' v u->E v u)(sy:∀v u,E' v u->E' u v):Frs E' :=by
 obtain⟨par,d,rt,hR,hE⟩:=h;have hp:∀x,(if x≠0/\par x≠0/\E' (x-1) (par x-1) then par x else 0)≠0->(if x≠0/\par x≠0/\E' (x-1) (par x-1) then par x else 0)=par x/\par x≠0/\E' (x-1) (par x-1):=by {
 intro x hx;by_cases h:x≠0/\par x≠0/\E' (x-1) (par x-1)
 · exact⟨qD h,h.2.1,h.2.2⟩
 · exact absurd (qC h) hx};obtain⟨rt', hR'⟩:=aPM (par:=fun x=>if x≠0/\par x≠0/\E' (x-1) (par x-1) then par x else 0) (d:=d) (fun x hx=>by
   have:=hp x hx;show d (if x≠0/\par x≠0/\E' (x-1) (par x-1) then par x else 0)<d x
   rw[this.1];exact hR.dep x this.2.1)
 refine⟨_,d,rt', hR', fun v u=>⟨fun e=>?_,fun e=>?_⟩⟩
 {
 obtain⟨h1,h2,h3⟩:=(hE v u).1 (hs v u e);refine⟨h1,h2,h3.imp (fun q=>?_) (fun q=>?_)⟩
 {
 show(if v+1≠0/\par (v+1)≠0/\E' (v+1-1) (par (v+1)-1) then par (v+1) else 0)=u+1
 rw[q,qD ⟨by omega,by omega,by simpa using e⟩]}
 {
 show(if u+1≠0/\par (u+1)≠0/\E' (u+1-1) (par (u+1)-1) then par (u+1) else 0)=v+1
 rw[q,qD ⟨by omega,by omega,by simpa using sy _ _ e⟩]}}
 {
 obtain⟨h1,h2,h3⟩:=e;rcases h3 with q|q
 {
 have:=hp (v+1) (by show(if v+1≠0/\par (v+1)≠0/\E' (v+1-1) (par (v+1)-1) then par (v+1) else 0)≠0;rw[show(if v+1≠0/\par (v+1)≠0/\E' (v+1-1) (par (v+1)-1) then par (v+1) else 0)=u+1 from q];omega);have e1:par (v+1)=u+1:=this.1.symm.trans q;have:=this.2.2;rw[e1]at this;simpa using this}
 {
 have:=hp (u+1) (by show(if u+1≠0/\par (u+1)≠0/\E' (u+1-1) (par (u+1)-1) then par (u+1) else 0)≠0;rw[show(if u+1≠0/\par (u+1)≠0/\E' (u+1-1) (par (u+1)-1) then par (u+1) else 0)=v+1 from q];omega);have e1:par (u+1)=v+1:=this.1.symm.trans q;have:=this.2.2;rw[e1]at this;exact sy _ _ (by simpa using this)}}
theorem aQX(h:Frs (TE S G T))(hs:∀t,T' t->T t):Frs (TE S G T'):=h.sub (fun _ _=>xM hs) (fun _ _=>aNK)
def rP(G:cF)(r:Int)(t:Nat):Prop:=∃a b x,G t=some (a,b,x)/\r<=x
end
end Go.Proofs.YtjdgpcjbgjnahaaGreatDoor
namespace Go.Proofs.YtjdgpcjbgjnahaaGreatDoor
open Go.RowKit
section
variable {s:Sm} {Q:Nat->Option Int} {G:Nat->Option (Nat×Nat×Int)} {i:Nat} {x:Int}
end
end Go.Proofs.YtjdgpcjbgjnahaaGreatDoor
namespace Go.Proofs.YtjdgpcjbgjnahaaGreatDoor
def elt(a b:Nat×Int):Prop:=a.2<b.2∨(a.2=b.2/\a.1<b.1)
instance (a b:Nat×Int):Decidable (elt a b):=by unfold elt;exact inferInstance
theorem nG(a:Nat×Int):¬elt a a:=by unfold elt;omega
theorem pH{a b c:Nat×Int}(h:elt a b)(k:elt b c):elt a c:=by unfold elt at *;omega
theorem tF{a b c:Nat×Int}(h:¬elt a b)(k:¬elt b c):¬elt a c:=by unfold elt at *;omega
theorem pI{a b:Nat×Int}(h:elt a b):¬elt b a:=by unfold elt at *;omega
def jB(e:Nat->Nat×Int)(p q:Nat):Nat->Nat×Int:=fun x=>if x=p then e q else if x=q then e p else e x
theorem fY(e:Nat->Nat×Int)(p q:Nat):jB e p q p=e q:=by simp[jB]
theorem jQ(e:Nat->Nat×Int)(p q:Nat):jB e p q q=e p:=by
 unfold jB;split
 · rename_i h;rw[h]
 · simp
theorem fZ{e:Nat->Nat×Int}{p q x:Nat}(h1:x≠p)(h2:x≠q):jB e p q x=e x:=by simp[jB,h1,h2]
theorem aJD{e:Nat->Nat×Int}{n p q:Nat}(hp:p<n)(hq:q<n)(y:Nat×Int):(∃x,x<n/\jB e p q x=y)↔∃x,x<n/\e x=y:=by
 constructor
 {
 rintro⟨x,hx,rfl⟩;by_cases h1:x=p
 · exact⟨q,hq,by rw[h1,fY]⟩
 {
 by_cases h2:x=q
 · exact⟨p,hp,by rw[h2,jQ]⟩
 · exact⟨x,hx,by rw[fZ h1 h2]⟩}}
 {
 rintro⟨x,hx,rfl⟩;by_cases h1:x=p
 · exact⟨q,hq,by rw[h1,jQ]⟩
 {
 by_cases h2:x=q
 · exact⟨p,hp,by rw[h2,fY]⟩
 · exact⟨x,hx,fZ h1 h2⟩}}
def lA(e:Nat->Nat×Int)(n:Nat)(x:Nat×Int):Nat->Nat×Int:=fun k=>if k=n then x else e k
theorem fF(e:Nat->Nat×Int)(n:Nat)(x:Nat×Int):lA e n x n=x:=by simp[lA]
theorem dB{e:Nat->Nat×Int}{n k:Nat}{x:Nat×Int}(h:k≠n):lA e n x k=e k:=by simp[lA,h]
section
variable {n p:Nat} {e:Nat->Nat×Int}
def Hp(n:Nat)(e:Nat->Nat×Int):Prop:=∀k,0<k->k<n->¬elt (e k) (e ((k-1)/2))
def UpI(n:Nat)(e:Nat->Nat×Int)(p:Nat):Prop:=
  (∀k,0<k->k<n->k≠p->¬elt (e k) (e ((k-1)/2)))/\(0<p->∀c,0<c->c<n->(c-1)/2=p->¬elt (e c) (e ((p-1)/2)))
def DnI(n:Nat)(e:Nat->Nat×Int)(p:Nat):Prop:=
  (∀k,0<k->k<n->(k-1)/2≠p->¬elt (e k) (e ((k-1)/2)))/\(0<p->∀c,0<c->c<n->(c-1)/2=p->¬elt (e c) (e ((p-1)/2)))
theorem aNN(h:UpI n e p)(hd:¬(0<p/\elt (e p) (e ((p-1)/2)))):Hp n e:=by
 intro k h0 hk;by_cases hkp:k=p
 · subst hkp;exact fun he=>hd ⟨h0,he⟩
 · exact h.1 k h0 hk hkp
theorem aNO(h:UpI n e p)(h0:0<p)(hp:p<n)(he:elt (e p) (e ((p-1)/2))):UpI n (jB e p ((p-1)/2)) ((p-1)/2):=by
 obtain⟨q,hq⟩:∃q,q=(p-1)/2:=⟨_,rfl⟩;rw[<-hq]at he ⊢;have hqp:q<p:=by omega
 constructor
 {
 intro k hk0 hk hkq;by_cases hkp:k=p
 {
 subst hkp;rw[<-hq,fY,jQ];exact pI he}
 {
 rw[fZ hkp hkq];by_cases e1:(k-1)/2=p
 {
 rw[e1,fY];have:=h.2 h0 k hk0 hk e1;rw[<-hq]at this;exact this}
 {
 by_cases e2:(k-1)/2=q
 {
 rw[e2,jQ];have h1:=h.1 k hk0 hk hkp;rw[e2]at h1;exact fun hl=>h1 (pH hl he)}
 · rw[fZ e1 e2];exact h.1 k hk0 hk hkp}}}
 {
 intro hq0 c hc0 hc hcq;have hn:(q-1)/2≠p:=by omega
 have hn2:(q-1)/2≠q:=by omega
 rw[fZ hn hn2];have hqq:=h.1 q hq0 (by omega) (by omega);by_cases hcp:c=p
 · subst hcp;rw[fY];exact hqq
 {
 rw[fZ hcp (by omega)];have h1:=h.1 c hc0 hc hcp;rw[hcq]at h1;exact tF h1 hqq}}
theorem aNP(h:Hp n e)(x:Nat×Int):UpI (n+1) (lA e n x) n:=by
 constructor
 {
 intro k h0 hk hkn;rw[dB hkn,dB (by omega)];exact h k h0 (by omega)}
 {
 intro _ c hc0 hc hcn;omega}
def zW(n:Nat)(e:Nat->Nat×Int)(p:Nat):Nat:=if 2*p+1<n/\elt (e (2*p+1)) (e p) then 2*p+1 else p
def blw(n:Nat)(e:Nat->Nat×Int)(p:Nat):Nat:=if 2*p+2<n/\elt (e (2*p+2)) (e (zW n e p)) then 2*p+2 else zW n e p
theorem vK(n:Nat)(e:Nat->Nat×Int)(p:Nat):blw n e p=p∨(blw n e p<n/\(blw n e p=2*p+1∨blw n e p=2*p+2)/\elt (e (blw n e p)) (e p)):=by
 unfold blw zW;by_cases h1:2*p+1<n/\elt (e (2*p+1)) (e p)
 {
 rw[qD h1];by_cases h2:2*p+2<n/\elt (e (2*p+2)) (e (2*p+1))
 · rw[qD h2];exact .inr ⟨h2.1,.inr rfl,pH h2.2 h1.2⟩
 · rw[qC h2];exact .inr ⟨h1.1,.inl rfl,h1.2⟩}
 {
 rw[qC h1];by_cases h2:2*p+2<n/\elt (e (2*p+2)) (e p)
 · rw[qD h2];exact .inr ⟨h2.1,.inr rfl,h2.2⟩
 · rw[qC h2];exact .inl rfl}
theorem vL(n:Nat)(e:Nat->Nat×Int)(p:Nat){c:Nat}(hc:c<n)(h:c=2*p+1∨c=2*p+2):¬elt (e c) (e (blw n e p)):=by
 unfold blw zW;by_cases h1:2*p+1<n/\elt (e (2*p+1)) (e p)
 {
 rw[qD h1];by_cases h2:2*p+2<n/\elt (e (2*p+2)) (e (2*p+1))
 {
 rw[qD h2];rcases h with rfl|rfl
 · exact pI h2.2
 · exact nG _}
 {
 rw[qC h2];rcases h with rfl|rfl
 · exact nG _
 · exact fun hl=>h2 ⟨hc,hl⟩}}
 {
 rw[qC h1];by_cases h2:2*p+2<n/\elt (e (2*p+2)) (e p)
 {
 rw[qD h2];rcases h with rfl|rfl
 · exact fun hl=>h1 ⟨hc,pH hl h2.2⟩
 · exact nG _}
 {
 rw[qC h2];rcases h with rfl|rfl
 · exact fun hl=>h1 ⟨hc,hl⟩
 · exact fun hl=>h2 ⟨hc,hl⟩}}
theorem aNQ(h:DnI n e p)(hd:blw n e p=p):Hp n e:=by
 intro k h0 hk;by_cases hkp:(k-1)/2=p
 {
 have:=vL n e p hk (by omega);rw[hd]at this;rw[hkp];exact this}
 · exact h.1 k h0 hk hkp
theorem aNR(h:DnI n e p)(hd:blw n e p≠p):DnI n (jB e p (blw n e p)) (blw n e p)/\p<blw n e p/\blw n e p<n:=by
 obtain⟨hbn,hb2,hbe⟩:=(vK n e p).resolve_left hd;have hl:=fun {c:Nat} (hc:c<n) (hh:c=2*p+1∨c=2*p+2)=>vL n e p hc hh;generalize blw n e p=b at *;refine⟨⟨?_,?_⟩,by omega,hbn⟩
 {
 intro k hk0 hk hkb;by_cases hkp:k=p
 {
 subst hkp;rw[fY,fZ (by omega) (by omega)];exact h.2 hk0 b (by omega) hbn (by omega)}
 {
 by_cases hkb2:k=b
 {
 subst hkb2;rw[jQ,show(k-1)/2=p by omega,fY];exact pI hbe}
 {
 rw[fZ hkp hkb2];by_cases e1:(k-1)/2=p
 · rw[e1,fY];exact hl hk (by omega)
 · rw[fZ e1 hkb];exact h.1 k hk0 hk e1}}}
 {
 intro _ c hc0 hc hcb;rw[fZ (by omega) (by omega),show(b-1)/2=p by omega,fY];have:=h.1 c hc0 hc (by omega);rw[hcb]at this;exact this}
end
structure oB (slots n:Nat) (e:Nat->Nat×Int) (pl:Nat->Nat):Prop where
  lt:∀p,p<n->(e p).1<slots
  at_:∀p,p<n->pl (e p).1=p+1
  inv:∀i,pl i≠0->∃p,p<n/\(e p).1=i
section
variable {slots n p q:Nat} {e:Nat->Nat×Int} {pl:Nat->Nat}
def kE(pl:Nat->Nat)(i x:Nat):Nat->Nat:=fun k=>if k=i then x else pl k
theorem lW(pl:Nat->Nat)(i x:Nat):kE pl i x i=x:=by simp[kE]
theorem dC{pl:Nat->Nat}{i x k:Nat}(h:k≠i):kE pl i x k=pl k:=by simp[kE,h]
theorem oB.inj(h:oB slots n e pl)(hp:p<n)(hq:q<n)(he:(e p).1=(e q).1):p=q:=by
 have h1:=h.at_ p hp;have h2:=h.at_ q hq;rw[he,h2]at h1;omega
theorem oB.le(h:oB slots n e pl):n<=slots:=by
 have hnd:((List.range n).map fun p=>(e p).1).Nodup:=by {
 rw[List.nodup_iff_pairwise_ne,List.pairwise_map];refine(List.nodup_range (n:=n)).imp_of_mem (fun {a b} ha hb hne he=>hne ?_);exact h.inj (by simpa using ha) (by simpa using hb) he};have hp:((List.range slots).filter fun i=>decide (i∈(List.range n).map fun p=>(e p).1)).Perm ((List.range n).map fun p=>(e p).1):=by {
 rw[List.perm_ext_iff_of_nodup (List.filter_sublist.nodup List.nodup_range) hnd];intro i;simp only[zA,List.mem_range,decide_eq_true_eq,and_iff_right_iff_imp,qW];rintro⟨p,hp,rfl⟩;exact h.lt p hp};have h1:=hp.length_eq;have h2:=List.length_filter_le (fun i=>decide (i∈(List.range n).map fun p=>(e p).1)) (List.range slots);simp at h1 h2;omega
theorem oB.swap(h:oB slots n e pl)(hp:p<n)(hq:q<n):oB slots n (jB e p q) (kE (kE pl (e q).1 (p+1)) (e p).1 (q+1)):=by
 refine⟨fun x hx=>?_,fun x hx=>?_,fun i hi=>?_⟩
 {
 by_cases h1:x=p
 · rw[h1,fY];exact h.lt q hq
 {
 by_cases h2:x=q
 · rw[h2,jQ];exact h.lt p hp
 · rw[fZ h1 h2];exact h.lt x hx}}
 {
 by_cases h2:x=q
 · rw[h2,jQ,lW]
 {
 by_cases h1:x=p
 {
 subst h1;rw[fY,dC (fun e1=>h2 (h.inj hx hq e1.symm)),lW]}
 {
 rw[fZ h1 h2,dC (fun e1=>h1 (h.inj hx hp e1)),dC (fun e1=>h2 (h.inj hx hq e1))];exact h.at_ x hx}}}
 {
 by_cases h1:i=(e p).1
 · exact⟨q,hq,by rw[jQ,h1]⟩
 {
 rw[dC h1]at hi;by_cases h2:i=(e q).1
 · exact⟨p,hp,by rw[fY,h2]⟩
 {
 rw[dC h2]at hi;obtain⟨x,hx,rfl⟩:=h.inv i hi;refine⟨x,hx,?_⟩;rw[fZ (fun e1=>h1 (by rw[e1])) (fun e1=>h2 (by rw[e1]))]}}}
theorem oB.push(h:oB slots n e pl){i:Nat}{k:Int}(hi:i<slots)(h0:pl i=0):oB slots (n+1) (lA e n (i,k)) (kE pl i (n+1)):=by
 refine⟨fun x hx=>?_,fun x hx=>?_,fun j hj=>?_⟩
 {
 by_cases h1:x=n
 · rw[h1,fF];exact hi
 · rw[dB h1];exact h.lt x (by omega)}
 {
 by_cases h1:x=n
 · rw[h1,fF,lW]
 {
 rw[dB h1];have hx' :=h.at_ x (by omega);rw[dC (fun e1=>by rw[e1,h0]at hx'; omega)];exact hx'}}
 {
 by_cases h1:j=i
 · exact⟨n,by omega,by rw[fF,h1]⟩
 {
 rw[dC h1]at hj;obtain⟨x,hx,rfl⟩:=h.inv j hj;exact⟨x,by omega,by rw[dB (by omega)]⟩}}
end
end Go.Proofs.YtjdgpcjbgjnahaaGreatDoor
namespace Go.Proofs.YtjdgpcjbgjnahaaGreatDoor
open Go.RowKit
abbrev bQ(b:Nat):Value:=.pointer (some ⟨b,0,none⟩)
def mH(o:Option Nat):Value:=.pointer (o.map fun b=>⟨b,0,none⟩)
def lB(n:Nat)(e:Nat->Nat×Int):List Value:=(List.range n).flatMap fun p=>[.int .i64 (e p).1,.int .i64 (e p).2]
theorem entC_succ' (n:Nat)(e:Nat->Nat×Int):lB (n+1) e=lB n e++[.int .i64 (e n).1,.int .i64 (e n).2]:=by simp[lB,List.range_succ]
theorem tG(n:Nat)(e:Nat->Nat×Int):(lB n e).length=n*2:=by
 induction n with
 | zero=>rfl
 | succ n ih=>rw[entC_succ', zF,ih];simp;omega
theorem rQ(e:Nat->Nat×Int):∀{n p:Nat},p<n->(lB n e)[p*2]? =some (.int .i64 ((e p).1:Int))/\(lB n e)[p*2+1]? =some (.int .i64 (e p).2):=by
 intro n;induction n with
 | zero=>intro p h;omega
 | succ n ih=>{
 intro p hp;rw[entC_succ'];have hl:=tG n e;by_cases h:p<n
 · rw[List.getElem?_append_left (by omega),List.getElem?_append_left (by omega)];exact ih h
 {
 obtain rfl:p=n:=by omega
 rw[List.getElem?_append_right (by omega),List.getElem?_append_right (by omega),hl];simp}}
theorem aCJ{n:Nat}{e e' :Nat->Nat×Int}(h:∀p,p<n->e p=e' p):lB n e=lB n e' :=by
 induction n with
 | zero=>rfl
 | succ n ih=>rw[entC_succ', entC_succ', ih (fun p hp=>h p (by omega)),h n (by omega)]
theorem aGF(n:Nat)(e:Nat->Nat×Int)(x:Nat×Int):lB n e++[.int .i64 x.1,.int .i64 x.2]=lB (n+1) (lA e n x):=by
 rw[entC_succ', fF,aCJ (n:=n) (e:=lA e n x) (e' :=e) (fun p hp=>dB (by omega))]
theorem aJE{n p:Nat}(hp:p<n)(e:Nat->Nat×Int)(x:Nat×Int):((lB n e).set (p*2) (.int .i64 x.1)).set (p*2+1) (.int .i64 x.2)=lB n (lA e p x):=by
 apply List.ext_getElem?;intro j;have hl:=tG n e;have hl' :=tG n (lA e p x);by_cases hj:j<n*2
 {
 have hj2:j/2<n:=by omega
 have h0:=rQ (lA e p x) hj2;have h1:=rQ e hj2;rcases(show j=j/2*2∨j=j/2*2+1 by omega) with e1|e1
 {
 generalize j/2=k at *;subst e1;rw[h0.1,List.getElem?_set_ne (by omega)];by_cases hk:k=p
 · subst hk;rw[List.getElem?_set_self (by omega),fF]
 · rw[List.getElem?_set_ne (by omega),h1.1,dB hk]}
 {
 generalize j/2=k at *;subst e1;rw[h0.2];by_cases hk:k=p
 · subst hk;rw[List.getElem?_set_self (by simp;omega),fF]
 · rw[List.getElem?_set_ne (by omega),List.getElem?_set_ne (by omega),h1.2,dB hk]}}
 · rw[zB (by simp;omega),zB (by omega)]
theorem jR{w:World}{v:Value}{n:Nat}{e:Nat->Nat×Int}(h:w.ownsRow 0 223 2 v n (lB n e)){p:Nat}(hp:p<n):∃b cap,v=.slice (some ⟨b,0,none⟩) n cap/\n<=cap/\b<w.heap.size /\
    w.cell? ⟨b,p*2,none⟩=some (.int .i64 ((e p).1:Int))/\w.cell? ⟨b,p*2+1,none⟩=some (.int .i64 (e p).2)/\∀j,w.frozen? ⟨b,j,none⟩=false:=by
 obtain⟨h1,h2⟩:=h;rcases h2 with⟨rfl,h0⟩|⟨g,cap,cur,rfl,_,hh,hn,hm,hsz,hxs⟩
 · omega
 {
 refine⟨g,cap,rfl,hn,(qM.1 hh).1,?_,?_,fun j=>by simp[World.frozen?,hh]⟩
 all_goals
  have key:∀j,j<2->cur[p*2+j]? =(lB n e)[p*2+j]? :=by {
  intro j hj;rw[<-hxs,List.getElem?_take,qD (by omega)];simp};simp only[World.cell?,hh];simp
 · have:=key 0 (by omega);simp at this;rw[this];exact(rQ e hp).1
 · rw[key 1 (by omega)];exact(rQ e hp).2}
theorem oC{w:World}{e:TypeId}{size g n cap i:Nat}{xs:List Value}(h:w.ownsRow 0 e size (.slice (some ⟨g,0,none⟩) n cap) n xs)(u:Value):
    (w.setCell ⟨g,i,none⟩ u).ownsRow 0 e size (.slice (some ⟨g,0,none⟩) n cap) n (xs.set i u):=by
 obtain⟨h1,h2⟩:=h;refine⟨by simpa using h1,?_⟩;rcases h2 with⟨h2,_⟩|⟨g', cap', cur,e1,_,hh,hn,hm,hsz,hxs⟩
 · cases h2
 {
 simp only[qP,qI,Addr.mk.injEq,and_true,true_and]at e1;obtain⟨rfl,rfl⟩:=e1;refine .inr ⟨g,cap,cur.setIfInBounds i u,rfl,qS _,?_,hn,hm,by simpa using hsz,?_⟩
 {
 simp only[World.setCell,Array.getElem?_modify];simp[hh]}
 · rw[<-hxs,Array.toList_setIfInBounds,List.take_set]}
def oD(pl:Nat->Nat)(k:Nat):List Value:=(List.range 64).map fun j=>.int .i64 ((pl (k*64+j):Nat):Int)
theorem lX(pl:Nat->Nat)(k:Nat){j:Nat}(hj:j<64):(oD pl k)[j]? =some (.int .i64 ((pl (k*64+j):Nat):Int)):=by simp[oD,hj]
theorem aCK{pl pl' :Nat->Nat}{k:Nat}(h:∀j,j<64->pl (k*64+j)=pl' (k*64+j)):oD pl k=oD pl' k:=by
 apply List.map_congr_left;intro j hj;rw[h j (by simpa using hj)]
theorem aJF(pl:Nat->Nat)(k x:Nat){j:Nat}(hj:j<64):(oD pl k).set j (.int .i64 (x:Int))=oD (kE pl (k*64+j) x) k:=by
 apply List.ext_getElem?;intro i;by_cases hi:i<64
 {
 rw[lX _ k hi];by_cases e:i=j
 · subst e;rw[List.getElem?_set_self (by simp[oD,hi]),lW]
 · rw[List.getElem?_set_ne (by omega),lX _ k hi,dC (by omega)]}
 · rw[zB (by simp[oD];omega),zB (by simp[oD];omega)]
structure HM (w:World) (ph slots n:Nat) (e:Nat->Nat×Int) (pl:Nat->Nat) (v:Value) (gp cp:Nat) (bs:Nat->Option Nat):Prop where
  hd:Blk w ph 242 [bQ ph,.int .i64 slots,v,.slice (some ⟨gp,0,none⟩) ((slots+63)/64) cp]
  items:w.ownsRow 0 223 2 v n (lB n e)
  dir:Blk w gp 244 ((List.range ((slots+63)/64)).map fun k=>mH (bs k))
  some_:∀k b,k<(slots+63)/64->bs k=some b->Blk w b 246 (oD pl k)
  none_:∀k,k<(slots+63)/64->bs k=none->∀j,j<64->pl (k*64+j)=0
  le:slots<=65536
  nb:n<=65536
  pb:∀i,pl i<=65536
  ap1:ph≠gp
  ap2:v.ownBlock≠some ph
  ap3:v.ownBlock≠some gp
  ap4:∀k b,k<(slots+63)/64->bs k=some b->b≠ph/\b≠gp/\v.ownBlock≠some b
  ap5:∀k k' b,k<(slots+63)/64->k' < (slots+63)/64->bs k=some b->bs k' =some b->k=k'
def hB(slots ph:Nat)(v:Value)(gp:Nat)(bs:Nat->Option Nat):List Nat:=ph::gp::(v.ownBlock.toList++(List.range ((slots+63)/64)).filterMap bs)
theorem dN{slots ph:Nat}{v:Value}{gp:Nat}{bs:Nat->Option Nat}{b:Nat}:b∈hB slots ph v gp bs↔b=ph∨b=gp∨v.ownBlock=some b∨∃k,k<(slots+63)/64/\bs k=some b:=by
 simp[hB]
section
variable {w w' :World} {ph slots n:Nat} {e:Nat->Nat×Int} {pl:Nat->Nat} {v:Value} {gp cp:Nat} {bs:Nat->Option Nat}
theorem HM.fr{S:List Nat}(h:HM w ph slots n e pl v gp cp bs)(hf:Fr S w w')(hs:∀b∈hB slots ph v gp bs,b∉S):HM w' ph slots n e pl v gp cp bs:=
  ⟨hf.blk h.hd (hs _ (by simp[hB])),aU h.items (fun q hq=>hf.keep q (h.items.lt q hq).2 (hs q (dN.2 (.inr (.inr (.inl hq)))))),hf.blk h.dir (hs _ (by simp[hB])),
    fun k b hk hb=>hf.blk (h.some_ k b hk hb) (hs b (dN.2 (.inr (.inr (.inr ⟨k,hk,hb⟩))))),h.none_,h.le,h.nb,h.pb,h.ap1,h.ap2,h.ap3,h.ap4,h.ap5⟩
theorem HM.fr0(h:HM w ph slots n e pl v gp cp bs)(hf:Fr [] w w'):HM w' ph slots n e pl v gp cp bs:=h.fr hf (by simp)
theorem HM.lt(h:HM w ph slots n e pl v gp cp bs):∀b∈hB slots ph v gp bs,b<w.heap.size:=by
 intro b hb;rcases dN.1 hb with rfl|rfl|hb|⟨k,hk,hb⟩
 · exact h.hd.lt
 · exact h.dir.lt
 · exact(h.items.lt b hb).2
 · exact(h.some_ k b hk hb).lt
def gA(x y:Int):Int:=if x<y then -1 else if y<x then 1 else 0
def tH(a b:Nat×Int):Int:=if gA a.2 b.2=0 then gA a.1 b.1 else gA a.2 b.2
theorem aEF(a b:Nat×Int):tH a b<0↔elt a b:=by
 unfold tH gA elt;split<;>split<;>(try split)<;>(try split)<;>omega
theorem xO(x:Int)(w:World):Calls Tryz.prog 253 #[.int .i64 x] w fun e w' =>e=.returned (.bool false)/\w' =w:=by
 have hb:(x != x)=false:=by simp
 go_enter Tryz.func253,Tryz.ntmps253
 go_wp2
 go_ret;exact⟨rfl,rfl⟩
theorem aJG(x:Int)(w:World):Calls Tryz.prog 254 #[.int .i64 x] w fun e w' =>e=.returned (.bool false)/\w' =w:=by
 have hb:(x != x)=false:=by simp
 go_enter Tryz.func254,Tryz.ntmps254
 go_wp2
 go_ret;exact⟨rfl,rfl⟩
theorem aNS(x y:Int)(w:World):Calls Tryz.prog 250 #[.int .i64 x,.int .i64 y] w fun e w' =>e=.returned (.int .i64 (gA x y))/\w' =w:=by
 by_cases h1:x<y
 {
 have e1:gA x y=-1:=by unfold gA;rw[qD h1]
 rw[e1];clear e1;go_enter Tryz.func250,Tryz.ntmps250
 go_wp2_with (go_at_call 253;refine(xO _ _).mono ?_;rintro e w' ⟨rfl,rfl⟩)
 go_ret;exact⟨rfl,rfl⟩}
 {
 by_cases h2:y<x
 {
 have e1:gA x y=1:=by unfold gA;rw[qC h1,qD h2]
 rw[e1];clear e1;go_enter Tryz.func250,Tryz.ntmps250
 go_wp2_with (go_at_call 253;refine(xO _ _).mono ?_;rintro e w' ⟨rfl,rfl⟩)
 go_ret;exact⟨rfl,rfl⟩}
 {
 have e1:gA x y=0:=by unfold gA;rw[qC h1,qC h2]
 rw[e1];clear e1;go_enter Tryz.func250,Tryz.ntmps250
 go_wp2_with (go_at_call 253;refine(xO _ _).mono ?_;rintro e w' ⟨rfl,rfl⟩)
 go_ret;exact⟨rfl,rfl⟩}}
theorem aTH(x y:Nat)(w:World):Calls Tryz.prog 251 #[.int .i64 x,.int .i64 y] w fun e w' =>e=.returned (.int .i64 (gA x y))/\w' =w:=by
 by_cases h1:x<y
 {
 have e1:gA x y=-1:=by unfold gA;rw[qD (by omega)]
 rw[e1];clear e1;go_enter Tryz.func251,Tryz.ntmps251
 go_wp2_with (go_at_call 254;refine(aJG _ _).mono ?_;rintro e w' ⟨rfl,rfl⟩)
 go_ret;exact⟨rfl,rfl⟩}
 {
 by_cases h2:y<x
 {
 have e1:gA x y=1:=by unfold gA;rw[qC (by omega),qD (by omega)]
 rw[e1];clear e1;go_enter Tryz.func251,Tryz.ntmps251
 go_wp2_with (go_at_call 254;refine(aJG _ _).mono ?_;rintro e w' ⟨rfl,rfl⟩)
 go_ret;exact⟨rfl,rfl⟩}
 {
 have e1:gA x y=0:=by unfold gA;rw[qC (by omega),qC (by omega)]
 rw[e1];clear e1;go_enter Tryz.func251,Tryz.ntmps251
 go_wp2_with (go_at_call 254;refine(aJG _ _).mono ?_;rintro e w' ⟨rfl,rfl⟩)
 go_ret;exact⟨rfl,rfl⟩}}
theorem or_w(b:Nat)(x y:Int)(w:World)(h:Blk w b 3 [.int .i64 x,.int .i64 y]):Calls Tryz.prog 249 #[.slice (some ⟨b,0,none⟩) 2 2] w fun e w' =>e=.returned (.int .i64 (if x=0 then y else x))/\w' =w:=by
 have c0:=h.cell 0;have c1:=h.cell 1;simp only[zJ,zK]at c0 c1;generalize hr:(if x=0 then y else x)=r;have HR:=qA hr;clear hr;go_enter Tryz.func249,Tryz.ntmps249
 go_wp2
 go_loop [8] (fun s=>∃k:Nat,k<=2/\s=.int .i64 k/\Hid ((1<=k->x=0)/\(2<=k->y=0))) (fun s=>2-(intOf s).toNat)
 case atStart=>exact⟨0,by omega,rfl,qA ⟨by omega,by omega⟩⟩
 case round=>
  obtain⟨k,hk,rfl,HK⟩:=hrel;rcases(show k=0∨k=1∨k=2 by omega) with rfl|rfl|rfl
  {
  by_cases hx:x=0
  {
  subst hx;go_wp2
  go_round
  case rel=>exact⟨1,by omega,by go_num,qA ⟨by simp,by omega⟩⟩
  case measure=>simp[intOf]}
  {
  have hb:(x != 0)=true:=by simp[hx]
  have hR2:r=x:=by rw[<-HR.out,qC hx]
  have HR2:=qA hR2;clear hR2 hx;go_wp2
  go_ret;exact⟨by rw[HR2.out];rfl,rfl⟩}}
  {
  have hx:=HK.out.1 (by omega);by_cases hy:y=0
  {
  subst hy;have Hx:=qA hx;clear hx;go_wp2
  go_round
  case rel=>exact⟨2,by omega,by go_num,qA ⟨fun _=>Hx.out,by simp⟩⟩
  case measure=>simp[intOf]}
  {
  have hb:(y != 0)=true:=by simp[hy]
  have hR2:r=y:=by rw[<-HR.out,qD hx]
  have HR2:=qA hR2;clear hR2 hx hy;go_wp2
  go_ret;exact⟨by rw[HR2.out];rfl,rfl⟩}}
  {
  have hx:=HK.out.1 (by omega);have hy:=HK.out.2 (by omega);have hR2:r=0:=by rw[<-HR.out,qD hx,hy]
  have HR2:=qA hR2;clear hR2 hx hy;go_wp2
  go_ret;exact⟨by rw[HR2.out];rfl,rfl⟩}
theorem aEG(a b:Nat×Int)(w:World):Calls Tryz.prog 245 #[.agg #[.int .i64 a.1,.int .i64 a.2],.agg #[.int .i64 b.1,.int .i64 b.2]] w fun e w' =>e=.returned (.int .i64 (tH a b))/\Fr [] w w' :=by
 obtain⟨a1,a2⟩:=a;obtain⟨b1,b2⟩:=b;have hr:(if gA a2 b2=0 then gA a1 b1 else gA a2 b2)=tH (a1,a2) (b1,b2):=rfl;have HO:=qA (fun(W:World) (n:Nat) (h:Blk W n 3 [.int .i64 (gA a2 b2),.int .i64 (gA a1 b1)])=>or_w n (gA a2 b2) (gA a1 b1) W h);rw[hr]at HO;have HC1:=qA (fun w=>aNS a2 b2 w);have HC2:=qA (fun w=>aTH a1 b1 w);clear hr;generalize tH (a1,a2) (b1,b2)=r at *;generalize gA a2 b2=x at *;generalize gA a1 b1=y at *;have e1:=Blk.new w [.int .i64 a1,.int .i64 a2] 223;have e2:=Blk.new (w.alloc (.cells [.int .i64 a1,.int .i64 a2].toArray 223)) [.int .i64 b1,.int .i64 b2] 223;have e1' :=e1.alloc (.cells [.int .i64 b1,.int .i64 b2].toArray 223);simp only[World.size_alloc]at e2;have hF:Fr [] w ((w.alloc (.cells [.int .i64 a1,.int .i64 a2].toArray 223)).alloc (.cells [.int .i64 b1,.int .i64 b2].toArray 223)):=((Fr.refl _ _).alloc _).alloc _;have x0:=e1'.cell 0;have x1:=e1'.cell 1;have y0:=e2.cell 0;have y1:=e2.cell 1;simp only[zJ,zK]at x0 x1 y0 y1;clear e1 e2 e1';have HF:=qA hF;clear hF;go_enter Tryz.func245,Tryz.ntmps245
 go_wp2
 generalize hw0:((w.alloc (.cells #[.int .i64 a1,.int .i64 a2] 223)).alloc (.cells #[.int .i64 b1,.int .i64 b2] 223))=w0 at *;clear hw0
 go_region_held3 (fun w' => w'.cell? ⟨w.heap.size, 0, none⟩ = some (.int .i64 a1) /\ w'.cell? ⟨w.heap.size, 1, none⟩ = some (.int .i64 a2) /\ w'.cell? ⟨w.heap.size + 1, 0, none⟩ = some (.int .i64 b1) /\ w'.cell? ⟨w.heap.size + 1, 1, none⟩ = some (.int .i64 b2))
   (first|go_keep)
   (first
     | (go_at_call 250;refine(HC1.out _).mono ?_;rintro e w' ⟨rfl,rfl⟩)
     | (go_at_call 251;refine(HC2.out _).mono ?_;rintro e w' ⟨rfl,rfl⟩)
     | (go_at_call 249;refine(HO.out _ _ ((Blk.new w0 _ _).drew)).mono ?_;rintro e w' ⟨rfl,rfl⟩))
 go_wp2
 go_ret;exact⟨rfl,(HF.out.alloc _).drew⟩
@[go_sem] theorem aTI(w:World)(a:Addr):(binOp .eql 149 (.pointer (some a)) (.pointer (some a))).run Tryz.prog w=.ok (.bool true) w:=by
 obtain⟨j,hj⟩:=qV.1 (show(Tryz.prog.info? 242).isSome=true by kernel_rfl);exact run_eql_ptr_same w a Tryz.underlying149 hj
theorem zX(h:HM w ph slots n e pl v gp cp bs):Calls Tryz.prog 160 #[.pointer (some ⟨ph,0,none⟩)] w fun e' w' =>e' =.returned (.bool true)/\w' =w:=by
 have c0:w.cell? ⟨ph,0,none⟩=some (.pointer (some ⟨ph,0,none⟩)):=h.hd.cell 0;clear h;go_enter Tryz.func160,Tryz.ntmps160
 go_wp2
 go_ret;exact⟨rfl,rfl⟩
theorem aJH(h:HM w ph slots n e pl v gp cp bs){i:Nat}(hi:i<slots):Calls Tryz.prog 211 #[bQ ph,.int .i64 i] w fun e' w' =>e' =.returned (.bool true)/\w' =w:=by
 have c1:=h.hd.cell 1;simp only[zJ,zK]at c1;have t1:decide (i<slots)=true:=qG hi;have hi' :(i:Int)<slots:=by omega
 have hi0:(0:Int)<=i:=by omega
 clear h;go_enter Tryz.func211,Tryz.ntmps211
 go_wp2
 go_ret;exact⟨rfl,rfl⟩
end
section
variable {w w' :World} {ph slots n:Nat} {e:Nat->Nat×Int} {pl:Nat->Nat} {v:Value} {gp cp:Nat} {bs:Nat->Option Nat}
theorem HM.dirAt(h:HM w ph slots n e pl v gp cp bs){k:Nat}(hk:k<(slots+63)/64):w.cell? ⟨gp,k,none⟩=some (mH (bs k)):=by
 rw[h.dir.cell];simp[hk]
theorem aEH(h:HM w ph slots n e pl v gp cp bs){i:Nat}(hi:i<slots):
    Calls Tryz.prog 212 #[bQ ph,.int .i64 i] w fun e w' =>e=.returned (.int .i64 ((pl i:Int)-1))/\w' =w:=by
 have hle:=h.le;have hk:i/64<(slots+63)/64:=by omega
 have c3:=h.hd.cell 3;simp only[zJ,zK]at c3;have hd:=h.dirAt hk;have hm:i=i/64*64+i%64:=by omega
 have hi6:i<65536:=by omega
 cases hb:bs (i/64) with
 | none=>{
 rw[hb]at hd;have h0:=h.none_ _ hk hb (i%64) (by omega);rw[<-hm]at h0;rw[h0];simp only[mH,Option.map_none]at hd;clear hm h0 h hb hle;generalize (slots+63)/64=m at *;go_enter Tryz.func212,Tryz.ntmps212
 go_wp2
 go_ret;exact⟨rfl,rfl⟩}
 | some b=>{
 rw[hb]at hd;have h0:=(h.some_ _ _ hk hb).cell (i%64);rw[lX pl (i/64) (by omega),<-hm]at h0;simp only[mH,Option.map_some]at hd;have hpl:(0:Int)<=pl i:=by omega
 have hx:=h.pb i;clear hm h hb hle;generalize (slots+63)/64=m at *;generalize pl i=x at *;go_enter Tryz.func212,Tryz.ntmps212
 go_wp2
 go_ret;exact⟨rfl,rfl⟩}
theorem vM{pl:Nat->Nat}{k:Nat}(h:∀j,j<64->pl (k*64+j)=0):oD pl k=List.replicate 64 (.int .i64 0):=by
 apply List.ext_getElem?;intro j;by_cases hj:j<64
 · rw[lX pl k hj,h j hj,List.getElem?_replicate,qD hj];rfl
 · rw[zB (by simp[oD];omega),zB (by rw[List.length_replicate];omega)]
def aCL(bs:Nat->Option Nat)(k b:Nat):Nat->Option Nat:=fun x=>if x=k then some b else bs x
theorem dF(bs:Nat->Option Nat)(k b:Nat):aCL bs k b k=some b:=by simp[aCL]
theorem eD{bs:Nat->Option Nat}{k b x:Nat}(h:x≠k):aCL bs k b x=bs x:=by simp[aCL,h]
theorem HM.note(h:HM w ph slots n e pl v gp cp bs){i x b:Nat}(hi:i<slots)(hb:bs (i/64)=some b)(hx:x<=65536):
    HM (w.setCell ⟨b,i%64,none⟩ (.int .i64 (x:Int))) ph slots n e (kE pl i x) v gp cp bs:=by
 have hk:i/64<(slots+63)/64:=by omega
 have hm:i=i/64*64+i%64:=by omega
 obtain⟨a1,a2,a3⟩:=h.ap4 _ _ hk hb;refine⟨h.hd.other _ _ (fun e=>a1 e.symm),cY h.items _ _ a3,h.dir.other _ _ (fun e=>a2 e.symm),fun k b' hk' hb' =>?_,fun k hk' hb' j hj=>?_,h.le,h.nb,fun j=>?_,h.ap1,h.ap2,h.ap3,h.ap4,h.ap5⟩
 {
 by_cases e1:k=i/64
 {
 subst e1;rw[hb]at hb'; cases hb';have:=(h.some_ _ _ hk hb).set (i%64) (.int .i64 (x:Int));rw[aJF pl (i/64) x (by omega),<-hm]at this;exact this}
 {
 have:=(h.some_ _ _ hk' hb').other ⟨b,i%64,none⟩ (.int .i64 (x:Int)) (fun e=>e1 (h.ap5 _ _ _ hk' hk hb' (by rw[hb];exact congrArg some e.symm)));rw[aCK (pl:=pl) (pl' :=kE pl i x) (k:=k) (fun j hj=>(dC (by omega)).symm)]at this;exact this}}
 {
 have e1:k≠i/64:=by rintro rfl;rw[hb]at hb'; cases hb'
 rw[dC (by omega)];exact h.none_ k hk' hb' j hj}
 {
 unfold kE;split
 · exact hx
 · exact h.pb j}
theorem HM.more(h:HM w ph slots n e pl v gp cp bs){k b:Nat}(hk:k<(slots+63)/64)(hb:bs k=none)(hw:w.heap.size=b):
    HM ((w.alloc (.cells #[.int .i64 0,.int .i64 0,.int .i64 0,.int .i64 0,.int .i64 0,.int .i64 0,.int .i64 0,.int .i64 0,.int .i64 0,.int .i64 0,.int .i64 0,.int .i64 0,.int .i64 0,.int .i64 0,.int .i64 0,.int .i64 0,.int .i64 0,.int .i64 0,.int .i64 0,.int .i64 0,.int .i64 0,.int .i64 0,.int .i64 0,.int .i64 0,.int .i64 0,.int .i64 0,.int .i64 0,.int .i64 0,.int .i64 0,.int .i64 0,.int .i64 0,.int .i64 0,.int .i64 0,.int .i64 0,.int .i64 0,.int .i64 0,.int .i64 0,.int .i64 0,.int .i64 0,.int .i64 0,.int .i64 0,.int .i64 0,.int .i64 0,.int .i64 0,.int .i64 0,.int .i64 0,.int .i64 0,.int .i64 0,.int .i64 0,.int .i64 0,.int .i64 0,.int .i64 0,.int .i64 0,.int .i64 0,.int .i64 0,.int .i64 0,.int .i64 0,.int .i64 0,.int .i64 0,.int .i64 0,.int .i64 0,.int .i64 0,.int .i64 0,.int .i64 0] 246)).setCell ⟨gp,k,none⟩ (bQ b)) ph slots n e pl v gp cp (aCL bs k b):=by
 subst hw;have h1:=h.fr0 ((Fr.refl [] w).alloc (.cells #[.int .i64 0,.int .i64 0,.int .i64 0,.int .i64 0,.int .i64 0,.int .i64 0,.int .i64 0,.int .i64 0,.int .i64 0,.int .i64 0,.int .i64 0,.int .i64 0,.int .i64 0,.int .i64 0,.int .i64 0,.int .i64 0,.int .i64 0,.int .i64 0,.int .i64 0,.int .i64 0,.int .i64 0,.int .i64 0,.int .i64 0,.int .i64 0,.int .i64 0,.int .i64 0,.int .i64 0,.int .i64 0,.int .i64 0,.int .i64 0,.int .i64 0,.int .i64 0,.int .i64 0,.int .i64 0,.int .i64 0,.int .i64 0,.int .i64 0,.int .i64 0,.int .i64 0,.int .i64 0,.int .i64 0,.int .i64 0,.int .i64 0,.int .i64 0,.int .i64 0,.int .i64 0,.int .i64 0,.int .i64 0,.int .i64 0,.int .i64 0,.int .i64 0,.int .i64 0,.int .i64 0,.int .i64 0,.int .i64 0,.int .i64 0,.int .i64 0,.int .i64 0,.int .i64 0,.int .i64 0,.int .i64 0,.int .i64 0,.int .i64 0,.int .i64 0] 246));have hlt:=h.lt;have hnew:=Blk.new w (oD pl k) 246;rw[vM (h.none_ k hk hb)]at hnew;have e0:(List.replicate 64 (Value.int .i64 0)).toArray=(#[.int .i64 0,.int .i64 0,.int .i64 0,.int .i64 0,.int .i64 0,.int .i64 0,.int .i64 0,.int .i64 0,.int .i64 0,.int .i64 0,.int .i64 0,.int .i64 0,.int .i64 0,.int .i64 0,.int .i64 0,.int .i64 0,.int .i64 0,.int .i64 0,.int .i64 0,.int .i64 0,.int .i64 0,.int .i64 0,.int .i64 0,.int .i64 0,.int .i64 0,.int .i64 0,.int .i64 0,.int .i64 0,.int .i64 0,.int .i64 0,.int .i64 0,.int .i64 0,.int .i64 0,.int .i64 0,.int .i64 0,.int .i64 0,.int .i64 0,.int .i64 0,.int .i64 0,.int .i64 0,.int .i64 0,.int .i64 0,.int .i64 0,.int .i64 0,.int .i64 0,.int .i64 0,.int .i64 0,.int .i64 0,.int .i64 0,.int .i64 0,.int .i64 0,.int .i64 0,.int .i64 0,.int .i64 0,.int .i64 0,.int .i64 0,.int .i64 0,.int .i64 0,.int .i64 0,.int .i64 0,.int .i64 0,.int .i64 0,.int .i64 0,.int .i64 0]:Array Value):=rfl;rw[e0]at hnew;have hgl:=h.dir.lt;have hpl:=h.hd.lt;refine⟨h1.hd.other _ _ h.ap1,cY h1.items _ _ h.ap3,?_,fun j b' hj hb' =>?_,fun j hj hb' =>?_,h.le,h.nb,h.pb,h.ap1,h.ap2,h.ap3,fun j b' hj hb' =>?_,fun j j' b' hj hj' hb' hb2=>?_⟩
 {
 have:=h1.dir.set k (bQ w.heap.size);have e1:((List.range ((slots+63)/64)).map fun x=>mH (bs x)).set k (bQ w.heap.size)=(List.range ((slots+63)/64)).map fun x=>mH (aCL bs k w.heap.size x):=by {
 apply List.ext_getElem?;intro j;by_cases hj:j<(slots+63)/64
 {
 by_cases e2:j=k
 · subst e2;rw[List.getElem?_set_self (by simpa using hj)];simp[hj,dF,mH]
 · rw[List.getElem?_set_ne (by omega)];simp[hj,eD e2]}
 · rw[zB (by simp;omega),zB (by simp;omega)]};rw[e1]at this;exact this}
 {
 by_cases e2:j=k
 {
 subst e2;rw[dF]at hb'; cases hb';rw[vM (h.none_ j hk hb)];exact hnew.other _ _ (by simp;omega)}
 {
 rw[eD e2]at hb';exact(h1.some_ j b' hj hb').other _ _ (h.ap4 j b' hj hb').2.1}}
 {
 have e2:j≠k:=by rintro rfl;rw[dF]at hb'; cases hb'
 rw[eD e2]at hb';exact h.none_ j hj hb'}
 {
 by_cases e2:j=k
 {
 subst e2;rw[dF]at hb'; cases hb';refine⟨by omega,by omega,fun e3=>?_⟩;have:=(h.items.lt _ e3).2;omega}
 · rw[eD e2]at hb'; exact h.ap4 j b' hj hb'}
 {
 by_cases e2:j=k
 {
 by_cases e3:j' =k
 · omega
 {
 rw[eD e3]at hb2;subst e2;rw[dF]at hb'; cases hb';have:=(h.some_ j' _ hj' hb2).lt;omega}}
 {
 rw[eD e2]at hb';by_cases e3:j' =k
 {
 subst e3;rw[dF]at hb2;cases hb2;have:=(h.some_ j _ hj hb').lt;omega}
 {
 rw[eD e3]at hb2;exact h.ap5 j j' b' hj hj' hb' hb2}}}
theorem aNT{k b:Nat}:∀q∈hB slots ph v gp (aCL bs k b),q∈hB slots ph v gp bs∨q=b:=by
 intro q hq;rcases dN.1 hq with h|h|h|⟨j,hj,h⟩
 · exact .inl (dN.2 (.inl h))
 · exact .inl (dN.2 (.inr (.inl h)))
 · exact .inl (dN.2 (.inr (.inr (.inl h))))
 {
 by_cases e:j=k
 · subst e;rw[dF]at h;cases h;exact .inr rfl
 · rw[eD e]at h;exact .inl (dN.2 (.inr (.inr (.inr ⟨j,hj,h⟩))))}
theorem aJI(h:HM w ph slots n e pl v gp cp bs){i x:Nat}(hi:i<slots)(hx:x<=65536)(p:Int)(hp:p+1=x):
    Calls Tryz.prog 213 #[bQ ph,.int .i64 i,.int .i64 p] w fun e' w' =>e' =.returned (.tuple #[])/\∃bs', HM w' ph slots n e (kE pl i x) v gp cp bs' /\ Fr (hB slots ph v gp bs) w w' /\ ∀q∈hB slots ph v gp bs', q∈hB slots ph v gp bs∨w.heap.size<=q:=by
 have hle:=h.le;have hk:i/64<(slots+63)/64:=by omega
 have c3:=h.hd.cell 3;simp only[zJ,zK]at c3;have hd:=h.dirAt hk;have hi6:i<65536:=by omega
 have hgz:=h.dir.frozen (i/64);have HX:Hid (.int .i64 (p+1)=(.int .i64 (x:Int):Value)):=qA (by rw[hp]);have hp2:p<9223372036854775807:=by omega
 have hp1:-9223372036854775808<=p:=by omega
 clear hp;cases hb:bs (i/64) with
 | some b=>{
 rw[hb]at hd;simp only[mH,Option.map_some]at hd;have h0:=(h.some_ _ _ hk hb).cell (i%64);have hz:=(h.some_ _ _ hk hb).frozen (i%64);rw[lX pl (i/64) (by omega)]at h0;have HN:=qA (h.note hi hb hx);have HF:Hid (Fr (hB slots ph v gp bs) w (w.setCell ⟨b,i%64,none⟩ (.int .i64 (x:Int)))):=qA ((Fr.refl _ w).setCell _ _ (.inl (dN.2 (.inr (.inr (.inr ⟨_,hk,hb⟩))))));clear h hb hle;rw[<-HX.out]at HN HF;generalize (slots+63)/64=m at *;go_enter Tryz.func213,Tryz.ntmps213
 go_wp2
 go_end0
 exact⟨rfl,bs,HN.out,HF.out,fun q hq=>.inl hq⟩}
 | none=>{
 rw[hb]at hd;simp only[mH,Option.map_none]at hd;have hM:=h.more hk hb rfl;have c3' :=hM.hd.cell 3;simp only[zJ,zK]at c3';have hd' :=hM.dirAt hk;rw[dF]at hd';simp only[mH,Option.map_some]at hd';have h0:=(hM.some_ _ _ hk (dF _ _ _)).cell (i%64);have hz:=(hM.some_ _ _ hk (dF _ _ _)).frozen (i%64);rw[lX pl (i/64) (by omega)]at h0;have HN:=qA (hM.note hi (dF _ _ _) hx);have hF1:Fr (hB slots ph v gp bs) w ((w.alloc (.cells #[.int .i64 0,.int .i64 0,.int .i64 0,.int .i64 0,.int .i64 0,.int .i64 0,.int .i64 0,.int .i64 0,.int .i64 0,.int .i64 0,.int .i64 0,.int .i64 0,.int .i64 0,.int .i64 0,.int .i64 0,.int .i64 0,.int .i64 0,.int .i64 0,.int .i64 0,.int .i64 0,.int .i64 0,.int .i64 0,.int .i64 0,.int .i64 0,.int .i64 0,.int .i64 0,.int .i64 0,.int .i64 0,.int .i64 0,.int .i64 0,.int .i64 0,.int .i64 0,.int .i64 0,.int .i64 0,.int .i64 0,.int .i64 0,.int .i64 0,.int .i64 0,.int .i64 0,.int .i64 0,.int .i64 0,.int .i64 0,.int .i64 0,.int .i64 0,.int .i64 0,.int .i64 0,.int .i64 0,.int .i64 0,.int .i64 0,.int .i64 0,.int .i64 0,.int .i64 0,.int .i64 0,.int .i64 0,.int .i64 0,.int .i64 0,.int .i64 0,.int .i64 0,.int .i64 0,.int .i64 0,.int .i64 0,.int .i64 0,.int .i64 0,.int .i64 0] 246)).setCell ⟨gp,i/64,none⟩ (bQ w.heap.size)):=((Fr.refl _ w).alloc _).setCell _ _ (.inl (by simp[hB]));have HF:Hid (Fr (hB slots ph v gp bs) w (((w.alloc (.cells #[.int .i64 0,.int .i64 0,.int .i64 0,.int .i64 0,.int .i64 0,.int .i64 0,.int .i64 0,.int .i64 0,.int .i64 0,.int .i64 0,.int .i64 0,.int .i64 0,.int .i64 0,.int .i64 0,.int .i64 0,.int .i64 0,.int .i64 0,.int .i64 0,.int .i64 0,.int .i64 0,.int .i64 0,.int .i64 0,.int .i64 0,.int .i64 0,.int .i64 0,.int .i64 0,.int .i64 0,.int .i64 0,.int .i64 0,.int .i64 0,.int .i64 0,.int .i64 0,.int .i64 0,.int .i64 0,.int .i64 0,.int .i64 0,.int .i64 0,.int .i64 0,.int .i64 0,.int .i64 0,.int .i64 0,.int .i64 0,.int .i64 0,.int .i64 0,.int .i64 0,.int .i64 0,.int .i64 0,.int .i64 0,.int .i64 0,.int .i64 0,.int .i64 0,.int .i64 0,.int .i64 0,.int .i64 0,.int .i64 0,.int .i64 0,.int .i64 0,.int .i64 0,.int .i64 0,.int .i64 0,.int .i64 0,.int .i64 0,.int .i64 0,.int .i64 0] 246)).setCell ⟨gp,i/64,none⟩ (bQ w.heap.size)).setCell ⟨w.heap.size,i%64,none⟩ (.int .i64 (x:Int)))):=qA (hF1.setCell _ _ (.inr (qK _)));have c3a:(w.alloc (.cells #[.int .i64 0,.int .i64 0,.int .i64 0,.int .i64 0,.int .i64 0,.int .i64 0,.int .i64 0,.int .i64 0,.int .i64 0,.int .i64 0,.int .i64 0,.int .i64 0,.int .i64 0,.int .i64 0,.int .i64 0,.int .i64 0,.int .i64 0,.int .i64 0,.int .i64 0,.int .i64 0,.int .i64 0,.int .i64 0,.int .i64 0,.int .i64 0,.int .i64 0,.int .i64 0,.int .i64 0,.int .i64 0,.int .i64 0,.int .i64 0,.int .i64 0,.int .i64 0,.int .i64 0,.int .i64 0,.int .i64 0,.int .i64 0,.int .i64 0,.int .i64 0,.int .i64 0,.int .i64 0,.int .i64 0,.int .i64 0,.int .i64 0,.int .i64 0,.int .i64 0,.int .i64 0,.int .i64 0,.int .i64 0,.int .i64 0,.int .i64 0,.int .i64 0,.int .i64 0,.int .i64 0,.int .i64 0,.int .i64 0,.int .i64 0,.int .i64 0,.int .i64 0,.int .i64 0,.int .i64 0,.int .i64 0,.int .i64 0,.int .i64 0,.int .i64 0] 246)).cell? ⟨ph,3,none⟩=some (.slice (some ⟨gp,0,none⟩) ((slots+63)/64) cp):=((Fr.refl [] w).alloc _).cell c3 (by simp);have hda:(w.alloc (.cells #[.int .i64 0,.int .i64 0,.int .i64 0,.int .i64 0,.int .i64 0,.int .i64 0,.int .i64 0,.int .i64 0,.int .i64 0,.int .i64 0,.int .i64 0,.int .i64 0,.int .i64 0,.int .i64 0,.int .i64 0,.int .i64 0,.int .i64 0,.int .i64 0,.int .i64 0,.int .i64 0,.int .i64 0,.int .i64 0,.int .i64 0,.int .i64 0,.int .i64 0,.int .i64 0,.int .i64 0,.int .i64 0,.int .i64 0,.int .i64 0,.int .i64 0,.int .i64 0,.int .i64 0,.int .i64 0,.int .i64 0,.int .i64 0,.int .i64 0,.int .i64 0,.int .i64 0,.int .i64 0,.int .i64 0,.int .i64 0,.int .i64 0,.int .i64 0,.int .i64 0,.int .i64 0,.int .i64 0,.int .i64 0,.int .i64 0,.int .i64 0,.int .i64 0,.int .i64 0,.int .i64 0,.int .i64 0,.int .i64 0,.int .i64 0,.int .i64 0,.int .i64 0,.int .i64 0,.int .i64 0,.int .i64 0,.int .i64 0,.int .i64 0,.int .i64 0] 246)).cell? ⟨gp,i/64,none⟩=some (.pointer none):=((Fr.refl [] w).alloc _).cell hd (by simp);have hza:(w.alloc (.cells #[.int .i64 0,.int .i64 0,.int .i64 0,.int .i64 0,.int .i64 0,.int .i64 0,.int .i64 0,.int .i64 0,.int .i64 0,.int .i64 0,.int .i64 0,.int .i64 0,.int .i64 0,.int .i64 0,.int .i64 0,.int .i64 0,.int .i64 0,.int .i64 0,.int .i64 0,.int .i64 0,.int .i64 0,.int .i64 0,.int .i64 0,.int .i64 0,.int .i64 0,.int .i64 0,.int .i64 0,.int .i64 0,.int .i64 0,.int .i64 0,.int .i64 0,.int .i64 0,.int .i64 0,.int .i64 0,.int .i64 0,.int .i64 0,.int .i64 0,.int .i64 0,.int .i64 0,.int .i64 0,.int .i64 0,.int .i64 0,.int .i64 0,.int .i64 0,.int .i64 0,.int .i64 0,.int .i64 0,.int .i64 0,.int .i64 0,.int .i64 0,.int .i64 0,.int .i64 0,.int .i64 0,.int .i64 0,.int .i64 0,.int .i64 0,.int .i64 0,.int .i64 0,.int .i64 0,.int .i64 0,.int .i64 0,.int .i64 0,.int .i64 0,.int .i64 0] 246)).frozen? ⟨gp,i/64,none⟩=false:=(h.dir.alloc _).frozen (i/64);clear h hb hle hM hF1;rw[<-HX.out]at HN HF;generalize (slots+63)/64=m at *;go_enter Tryz.func213,Tryz.ntmps213
 go_wp2
 go_end0
 exact⟨rfl,_,HN.out,HF.out,fun q hq=>(aNT q hq).imp (fun h=>h) (fun h=>by omega)⟩}
end
theorem aNU(e:Nat->Nat×Int)(p q:Nat):lA (lA e p (e q)) q (e p)=jB e p q:=by
 funext x
 unfold lA jB;by_cases h1:x=p
 {
 by_cases h2:x=q
 · rw[qD h2,qD h1];rw[<-h1,<-h2]
 · rw[qC h2,qD h1,qD h1]}
 {
 by_cases h2:x=q
 · rw[qD h2,qC h1,qD h2]
 · rw[qC h2,qC h1,qC h1,qC h2]}
section
variable {w w' :World} {ph slots n:Nat} {e:Nat->Nat×Int} {pl:Nat->Nat} {v:Value} {gp cp:Nat} {bs:Nat->Option Nat}
theorem HM.st{g cap:Nat}(h:HM w ph slots n e pl (.slice (some ⟨g,0,none⟩) n cap) gp cp bs){p:Nat}(hp:p<n)(x:Nat×Int):
    HM ((w.setCell ⟨g,p*2,none⟩ (.int .i64 (x.1:Int))).setCell ⟨g,p*2+1,none⟩ (.int .i64 x.2)) ph slots n (lA e p x) pl (.slice (some ⟨g,0,none⟩) n cap) gp cp bs:=by
 have a2:=h.ap2;have a3:=h.ap3;simp only[Value.ownBlock,ne_eq,qI]at a2 a3;refine⟨(h.hd.other _ _ (fun e=>a2 e.symm)).other _ _ (fun e=>a2 e.symm),?_,(h.dir.other _ _ (fun e=>a3 e.symm)).other _ _ (fun e=>a3 e.symm),fun k b hk hb=>?_,h.none_,h.le,h.nb,h.pb,h.ap1,h.ap2,h.ap3,h.ap4,h.ap5⟩
 {
 have:=oC (i:=p*2+1) (oC (i:=p*2) h.items (.int .i64 (x.1:Int))) (.int .i64 x.2);rw[aJE hp]at this;exact this}
 {
 have a4:=(h.ap4 k b hk hb).2.2;simp only[Value.ownBlock,ne_eq,qI]at a4;exact((h.some_ k b hk hb).other _ _ (fun e=>a4 e.symm)).other _ _ (fun e=>a4 e.symm)}
theorem aJJ(h:HM w ph slots n e pl v gp cp bs){p q:Nat}(hp:p<n)(hq:q<n)(hlt:∀x,x<n->(e x).1<slots):
    Calls Tryz.prog 220 #[bQ ph,.int .i64 p,.int .i64 q] w fun e' w' =>e' =.returned (.tuple #[])/\∃bs', HM w' ph slots n (jB e p q) (kE (kE pl (e q).1 (p+1)) (e p).1 (q+1)) v gp cp bs' /\
      Fr (hB slots ph v gp bs) w w' /\ ∀b∈hB slots ph v gp bs', b∈hB slots ph v gp bs∨w.heap.size<=b:=by
 have hnb:=h.nb;have c2:=h.hd.cell 2;simp only[zJ,zK]at c2;obtain⟨g,cap,rfl,_,hgl,p0,p1,fz⟩:=jR h.items hp;obtain⟨g', cap', e1,_,_,q0,q1,_⟩:=jR h.items hq;simp only[qP,qI,Addr.mk.injEq,and_true,true_and]at e1;obtain⟨rfl,rfl⟩:=e1;have fzp0:=fz (p*2);have fzp1:=fz (p*2+1);have hp1:(p:Int)<n:=by omega
 have hq1:(q:Int)<n:=by omega
 have hp0:(0:Int)<=p:=by omega
 have hq0:(0:Int)<=q:=by omega
 have hmem:g∈hB slots ph (.slice (some ⟨g,0,none⟩) n cap) gp bs:=by simp[hB,Value.ownBlock]
 have Hlt:=qA (zI (hlt p hp) (hlt q hq));clear hlt;have HH:=qA h;clear h fz;go_enter Tryz.func220,Tryz.ntmps220
 go_wp2
 refine kQ [25,27] [9] (fun k w' =>match k with
   | 0=>∃m,w' =w.drewN m
   | 1=>HM w' ph slots n (lA e p (e q)) pl (.slice (some ⟨g,0,none⟩) n cap) gp cp bs/\Fr (hB slots ph (.slice (some ⟨g,0,none⟩) n cap) gp bs) w w'
   | _=>HM w' ph slots n (jB e p q) pl (.slice (some ⟨g,0,none⟩) n cap) gp cp bs/\Fr (hB slots ph (.slice (some ⟨g,0,none⟩) n cap) gp bs) w w') (fun w' =>Iff.rfl) (by kernel_rfl) (by kernel_rfl) (by kernel_rfl) ?_
 iterate 9 (refine gW (by decide) (fun K hK=>?_);go_simp;refine hK _ ?_;clear hK K)
 refine fV (by decide) (fun K hK=>?_);go_simp;refine hK _ ?_;clear hK K;iterate 15 (refine gW (by decide) (fun K hK=>?_);go_simp;refine hK _ ?_;clear hK K)
 refine fD (q:=0) (by decide) rfl undef (fun w' hw' =>?_) ?_
 {
 obtain⟨nq,rfl⟩:=hw';go_simp;exact⟨(HH.out.fr0 ((Fr.refl _ _).drewN nq)).st hp (e q),(((Fr.refl _ w).drewN nq).setCell _ _ (.inl hmem)).setCell _ _ (.inl hmem)⟩};iterate 1 (refine fV (by decide) (fun K hK=>?_);go_simp;refine hK _ ?_;clear hK K)
 refine fD (q:=1) (by decide) rfl undef (fun w' hw' =>?_) ?_
 {
 obtain⟨hA,hB'⟩:=hw';obtain⟨g', cap', e1,_,_,b0,b1,fz'⟩:=jR hA.items hq;simp only[qP,qI,Addr.mk.injEq,and_true,true_and]at e1;obtain⟨rfl,rfl⟩:=e1;have fzq0:=fz' (q*2);have fzq1:=fz' (q*2+1);clear fz';go_simp;have h2:=hA.st hq (e p);rw[aNU]at h2;exact⟨h2,(hB'.setCell _ _ (.inl hmem)).setCell _ _ (.inl hmem)⟩};refine oY ?_;rintro w2 ⟨h2,f2⟩;clear p0 p1 q0 q1 c2 fzp0 fzp1 HH;have c2:=h2.hd.cell 2;simp only[zJ,zK]at c2;obtain⟨g', cap', e1,_,_,p0,_,_⟩:=jR h2.items hp;simp only[qP,qI,Addr.mk.injEq,and_true,true_and]at e1;obtain⟨rfl,rfl⟩:=e1;rw[fY]at p0;have HP:=qA (aJI h2 Hlt.out.2 (x:=p+1) (by omega) (p:Int) (by omega));have HF2:=qA f2;clear f2 h2;go_wp2_with fail
 refine HP.out.mono ?_;rintro _ w3 ⟨rfl,bs3,h3,f3,s3⟩;have hs2:=HF2.out.size;have HF3:=qA (HF2.out.trans' f3);have HS3:Hid (∀b∈hB slots ph (.slice (some ⟨g,0,none⟩) n cap) gp bs3,b∈hB slots ph (.slice (some ⟨g,0,none⟩) n cap) gp bs∨w.heap.size<=b):=qA (fun b hb=>(s3 b hb).imp (fun h=>h) (fun h=>by omega));clear c2 p0 HP f3 s3;have c2:=h3.hd.cell 2;simp only[zJ,zK]at c2;obtain⟨g', cap', e1,_,_,q0,_,_⟩:=jR h3.items hq;simp only[qP,qI,Addr.mk.injEq,and_true,true_and]at e1;obtain⟨rfl,rfl⟩:=e1;rw[jQ]at q0;have HP:=qA (aJI h3 Hlt.out.1 (x:=q+1) (by omega) (q:Int) (by omega));clear h3;go_wp2_with fail
 refine HP.out.mono ?_;rintro _ w4 ⟨rfl,bs4,h4,f4,s4⟩;have hs3:=HF3.out.size;have H4:=qA (zI h4 (zI (HF3.out.trans f4 (fun b hb=>HS3.out b hb)) (show ∀b∈hB slots ph (.slice (some ⟨g,0,none⟩) n cap) gp bs4,b∈hB slots ph (.slice (some ⟨g,0,none⟩) n cap) gp bs∨w.heap.size<=b from fun b hb=>(s4 b hb).elim (HS3.out b) (fun h=>.inr (by omega)))));clear h4 f4 s4;go_wp2
 go_end0
 exact⟨rfl,bs4,H4.out⟩
end
def oE(e:Nat->Nat×Int)(p:Nat):Int:=if 0<p/\elt (e p) (e ((p-1)/2)) then((p-1)/2:Nat) else -1
def pJ(n:Nat)(e:Nat->Nat×Int)(p:Nat):Int:=if blw n e p=p then -1 else(blw n e p:Nat)
def kF(n:Nat)(e:Nat->Nat×Int)(p k:Nat):Nat:=if k=0 then p else if k=1 then zW n e p else blw n e p
theorem xP(n:Nat)(e:Nat->Nat×Int)(p:Nat):kF n e p 0=p:=by simp[kF]
theorem xQ(n:Nat)(e:Nat->Nat×Int)(p:Nat):kF n e p 1=zW n e p:=by simp[kF]
theorem aCM(n:Nat)(e:Nat->Nat×Int)(p:Nat):kF n e p 2=blw n e p:=by simp[kF]
theorem zY{n:Nat}{e:Nat->Nat×Int}{p k q:Nat}(hk:k<2)(hq:q=2*p+1+k)(h:q<n/\elt (e q) (e (kF n e p k))):kF n e p (k+1)=q:=by
 subst hq;rcases(show k=0∨k=1 by omega) with rfl|rfl
 · rw[xP]at h;rw[xQ];unfold zW;rw[qD h]
 · rw[xQ]at h;rw[aCM];unfold blw;rw[qD h]
theorem aEI{n:Nat}{e:Nat->Nat×Int}{p k q:Nat}(hk:k<2)(hq:q=2*p+1+k)(h:¬(q<n/\elt (e q) (e (kF n e p k)))):kF n e p (k+1)=kF n e p k:=by
 subst hq;rcases(show k=0∨k=1 by omega) with rfl|rfl
 · rw[xP]at h ⊢;rw[xQ];unfold zW;rw[qC h]
 · rw[xQ]at h ⊢;rw[aCM];unfold blw;rw[qC h]
theorem aNV{n:Nat}{e:Nat->Nat×Int}{p k:Nat}(hp:p<n)(hk:k<=2):kF n e p k<n:=by
 induction k with
 | zero=>rw[xP];exact hp
 | succ k ih=>{
 by_cases h:2*p+1+k<n/\elt (e (2*p+1+k)) (e (kF n e p k))
 · rw[zY (by omega) rfl h];exact h.1
 · rw[aEI (by omega) rfl h];exact ih (by omega)}
section
variable {w w' :World} {ph slots n:Nat} {e:Nat->Nat×Int} {pl:Nat->Nat} {v:Value} {gp cp:Nat} {bs:Nat->Option Nat}
theorem xR(h:HM w ph slots n e pl v gp cp bs){p:Nat}(hp:p<n):
    Calls Tryz.prog 231 #[bQ ph,.int .i64 p] w fun e' w' =>e' =.returned (.int .i64 (oE e p))/\Fr [] w w' :=by
 have hnb:=h.nb;have c2:=h.hd.cell 2;simp only[zJ,zK]at c2;by_cases h0:p=0
 {
 subst h0;have e1:oE e 0=-1:=by unfold oE;rw[qC (by omega)]
 rw[e1];clear e1 h;have t1:decide (((0:Nat):Int)>0)=false:=by decide
 have t1' :decide ((0:Int)>0)=false:=by decide
 go_enter Tryz.func231,Tryz.ntmps231
 go_wp2
 go_quiet (fail)
 go_wp2
 go_ret;exact⟨rfl,(Fr.refl _ _).drewN _⟩}
 {
 obtain⟨q,hq⟩:∃q,q=(p-1)/2:=⟨_,rfl⟩;have hqi:((p:Int)-1)/2=(q:Int):=by omega
 have hqn:q<n:=by omega
 obtain⟨g,cap,rfl,_,hgl,p0,p1,_⟩:=jR h.items hp;obtain⟨g', cap', e1,_,_,q0,q1,_⟩:=jR h.items hqn;simp only[qP,qI,Addr.mk.injEq,and_true,true_and]at e1;obtain⟨rfl,rfl⟩:=e1;have HO:=qA (fun W=>aEG (e p) (e q) W);have hp1:(p:Int)<n:=by omega
 have hq1:(q:Int)<n:=by omega
 have hp0:(0:Int)<=p:=by omega
 have hq0:(0:Int)<=q:=by omega
 have t1:decide (0<p)=true:=qG (by omega);have hcase:(tH (e p) (e q)<0/\oE e p=q)∨(¬tH (e p) (e q)<0/\oE e p=-1):=by {
 rw[aEF];unfold oE;rw[<-hq];by_cases hl:elt (e p) (e q)
 · exact .inl ⟨hl,by rw[qD ⟨by omega,hl⟩]⟩
 · exact .inr ⟨hl,by rw[qC (fun h=>hl h.2)]⟩};have HQ:=qA hq;clear hq h;generalize tH (e p) (e q)=r at *;generalize e p=x at *;generalize e q=y at *;obtain⟨x1,x2⟩:=x;obtain⟨y1,y2⟩:=y;rcases hcase with⟨hr,ha⟩|⟨hr,ha⟩
 {
 have t2:decide (r<0)=true:=qG hr;have HA:=qA ha;clear ha hr;go_enter Tryz.func231,Tryz.ntmps231
 go_wp2
 go_region_held3 (fun w' => w'.cell? ⟨ph, 2, none⟩ = some (.slice (some ⟨g, 0, none⟩) n cap) /\ w'.cell? ⟨g, p * 2, none⟩ = some (.int .i64 x1) /\ w'.cell? ⟨g, p * 2 + 1, none⟩ = some (.int .i64 x2) /\ w'.cell? ⟨g, q * 2, none⟩ = some (.int .i64 y1) /\ w'.cell? ⟨g, q * 2 + 1, none⟩ = some (.int .i64 y2))
   (first
     | go_keep
     | (exact⟨hF3.cell (by assumption) (by simp),hF3.cell (by assumption) (by simp),hF3.cell (by assumption) (by simp),hF3.cell (by assumption) (by simp),hF3.cell (by assumption) (by simp)⟩))
   (first
     | (go_at_call 245;refine(HO.out _).mono ?_;rintro e w3 ⟨rfl,hF3⟩))
 go_wp2
 go_ret;exact⟨by rw[HA.out];rfl,((Fr.refl [] w).drew).trans' hF3⟩}
 {
 have t2:decide (r<0)=false:=qF hr;have HA:=qA ha;clear ha hr;go_enter Tryz.func231,Tryz.ntmps231
 go_wp2
 go_region_held3 (fun w' => w'.cell? ⟨ph, 2, none⟩ = some (.slice (some ⟨g, 0, none⟩) n cap) /\ w'.cell? ⟨g, p * 2, none⟩ = some (.int .i64 x1) /\ w'.cell? ⟨g, p * 2 + 1, none⟩ = some (.int .i64 x2) /\ w'.cell? ⟨g, q * 2, none⟩ = some (.int .i64 y1) /\ w'.cell? ⟨g, q * 2 + 1, none⟩ = some (.int .i64 y2))
   (first
     | go_keep
     | (exact⟨hF3.cell (by assumption) (by simp),hF3.cell (by assumption) (by simp),hF3.cell (by assumption) (by simp),hF3.cell (by assumption) (by simp),hF3.cell (by assumption) (by simp)⟩))
   (first
     | (go_at_call 245;refine(HO.out _).mono ?_;rintro e w3 ⟨rfl,hF3⟩))
 go_wp2
 go_ret;exact⟨by rw[HA.out];rfl,((Fr.refl [] w).drew).trans' hF3⟩}}
theorem aEJ(h:HM w ph slots n e pl v gp cp bs){p:Nat}(hp:p<n):
    Calls Tryz.prog 232 #[bQ ph,.int .i64 p] w fun e' w' =>e' =.returned (.int .i64 (pJ n e p))/\Fr [] w w' :=by
 have hnb:=h.nb;have c2:=h.hd.cell 2;simp only[zJ,zK]at c2;obtain⟨g,cap,rfl,_,hgl,_,_,_⟩:=jR h.items hp;have HE:Hid (∀(W:World) (x:Nat),Fr [] w W->x<n->W.cell? ⟨g,x*2,none⟩=some (.int .i64 ((e x).1:Int))/\W.cell? ⟨g,x*2+1,none⟩=some (.int .i64 (e x).2)):=qA (fun W x hf hx=>by
   obtain⟨g', cap', e1,_,_,q0,q1,_⟩:=jR (h.fr0 hf).items hx;simp only[qP,qI,Addr.mk.injEq,and_true,true_and]at e1;obtain⟨rfl,rfl⟩:=e1;exact⟨q0,q1⟩)
 have HC:Hid (∀(W:World),Fr [] w W->W.cell? ⟨ph,2,none⟩=some (.slice (some ⟨g,0,none⟩) n cap)):=qA (fun W hf=>hf.cell c2 (by simp));have HO:=qA (fun(a b:Nat×Int) (W:World)=>aEG a b W);clear h c2;go_enter Tryz.func232,Tryz.ntmps232
 go_wp2
 go_loopw [5,9] (fun sf sk wr=>∃k:Nat,k<=2/\sk=.int .i64 k/\sf=.int .i64 (kF n e p k:Nat)/\Hid (Fr [] w wr)) (fun _ sk _=>2-(intOf sk).toNat)
 case atStart=>exact⟨0,by omega,rfl,by rw[xP],qA (Fr.refl _ _)⟩
 case round=>
  obtain⟨k,hk,rfl,rfl,HF⟩:=hrel;have hfl:=aNV (e:=e) hp hk;by_cases hk2:k<2
  {
  obtain⟨q,hq⟩:∃q,q=2*p+1+k:=⟨_,rfl⟩;have hqi:2*(p:Int)+1+(k:Int)=(q:Int):=by omega
  have hki:(k:Int)<2:=by omega
  have Hy:=qA (fun(h:q<n/\elt (e q) (e (kF n e p k)))=>zY hk2 hq h);have Hn:=qA (fun(h:¬(q<n/\elt (e q) (e (kF n e p k))))=>aEI hk2 hq h);have HQ:=qA hq;clear hq;have c2:=HC.out _ HF.out;have hq0:(0:Int)<=q:=by omega
  generalize hF1:kF n e p (k+1)=f1 at *;have HF1:=qA hF1;clear hF1;generalize kF n e p k=f0 at *;have hf0:(0:Int)<=f0:=by omega
  have hf1:(f0:Int)<n:=by omega
  by_cases hqn:q<n
  {
  have hqn1:(q:Int)<n:=by omega
  have t1:decide (q<n)=true:=qG hqn;obtain⟨q0,q1⟩:=HE.out _ q HF.out hqn;obtain⟨p0,p1⟩:=HE.out _ f0 HF.out hfl;have HO2:=qA (fun W=>HO.out (e q) (e f0) W);have hcase:(tH (e q) (e f0)<0/\f1=q)∨(¬tH (e q) (e f0)<0/\f1=f0):=by {
  rw[aEF];by_cases hl:elt (e q) (e f0)
  · exact .inl ⟨hl,Hy.out ⟨hqn,hl⟩⟩
  · exact .inr ⟨hl,Hn.out (fun h=>hl h.2)⟩};clear Hy Hn;generalize tH (e q) (e f0)=r at *;generalize e q=x at *;generalize e f0=y at *;obtain⟨x1,x2⟩:=x;obtain⟨y1,y2⟩:=y;rcases hcase with⟨hr,ha⟩|⟨hr,ha⟩
  {
  have t2:decide (r<0)=true:=qG hr;have HA:=qA ha;clear ha hr;go_wp2
  go_region_held3 (fun w' => w'.cell? ⟨ph, 2, none⟩ = some (.slice (some ⟨g, 0, none⟩) n cap) /\ w'.cell? ⟨g, q * 2, none⟩ = some (.int .i64 x1) /\ w'.cell? ⟨g, q * 2 + 1, none⟩ = some (.int .i64 x2) /\ w'.cell? ⟨g, f0 * 2, none⟩ = some (.int .i64 y1) /\ w'.cell? ⟨g, f0 * 2 + 1, none⟩ = some (.int .i64 y2))
    (first
      | go_keep
      | (exact⟨hF3.cell (by assumption) (by simp),hF3.cell (by assumption) (by simp),hF3.cell (by assumption) (by simp),hF3.cell (by assumption) (by simp),hF3.cell (by assumption) (by simp)⟩))
    (first
      | (go_at_call 245;refine(HO2.out _).mono ?_;rintro e w3 ⟨rfl,hF3⟩))
  have HF3:=qA ((HF.out.drew).trans' hF3);clear hF3;go_wp2
  go_roundw
  case rel=>exact⟨k+1,by omega,by go_num,by rw[HF1.out,HA.out],HF3⟩
  case measure=>simp[intOf];omega}
  {
  have t2:decide (r<0)=false:=qF hr;have HA:=qA ha;clear ha hr;go_wp2
  go_region_held3 (fun w' => w'.cell? ⟨ph, 2, none⟩ = some (.slice (some ⟨g, 0, none⟩) n cap) /\ w'.cell? ⟨g, q * 2, none⟩ = some (.int .i64 x1) /\ w'.cell? ⟨g, q * 2 + 1, none⟩ = some (.int .i64 x2) /\ w'.cell? ⟨g, f0 * 2, none⟩ = some (.int .i64 y1) /\ w'.cell? ⟨g, f0 * 2 + 1, none⟩ = some (.int .i64 y2))
    (first
      | go_keep
      | (exact⟨hF3.cell (by assumption) (by simp),hF3.cell (by assumption) (by simp),hF3.cell (by assumption) (by simp),hF3.cell (by assumption) (by simp),hF3.cell (by assumption) (by simp)⟩))
    (first
      | (go_at_call 245;refine(HO2.out _).mono ?_;rintro e w3 ⟨rfl,hF3⟩))
  have HF3:=qA ((HF.out.drew).trans' hF3);clear hF3;go_wp2
  go_roundw
  case rel=>exact⟨k+1,by omega,by go_num,by rw[HF1.out,HA.out],HF3⟩
  case measure=>simp[intOf];omega}}
  {
  have t1:decide (q<n)=false:=qF hqn;have HA:=qA (Hn.out (fun h=>hqn h.1));clear Hy Hn hqn;go_wp2
  go_quiet (fail)
  go_wp2
  go_roundw
  case rel=>exact⟨k+1,by omega,by go_num,by rw[HF1.out,HA.out],qA (HF.out.drewN _)⟩
  case measure=>simp[intOf];omega}}
  {
  obtain rfl:k=2:=by omega
  rw[aCM]at *;have hres:(blw n e p=p/\pJ n e p=-1)∨(blw n e p≠p/\pJ n e p=(blw n e p:Nat)):=by {
  unfold pJ;by_cases hb:blw n e p=p
  · exact .inl ⟨hb,by rw[qD hb]⟩
  · exact .inr ⟨hb,by rw[qC hb]⟩};generalize blw n e p=b at *;rcases hres with⟨hb,hr⟩|⟨hb,hr⟩
  {
  have t1:((b:Int) == (p:Int))=true:=by simp;omega
  have HR:=qA hr;clear hr hb;go_wp2
  go_ret;exact⟨by rw[HR.out];rfl,HF.out⟩}
  {
  have t1:((b:Int) == (p:Int))=false:=by simp;omega
  have HR:=qA hr;clear hr hb;go_wp2
  go_ret;exact⟨by rw[HR.out];rfl,HF.out⟩}}
end
end Go.Proofs.YtjdgpcjbgjnahaaGreatDoor
