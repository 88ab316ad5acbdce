/- The heap: place, put, swap. -/
import Derived.Test.YtgmnemndjjmgkaaGreatB5
import Derived.Test.YtgmnemndjjmgkaaGreatB4
import Derived.Test.YtgmnemndjjmgkaaGreatB1
import Derived.Deep.RegionHeld3
import Derived.StillTailTactics
import Derived.Deep.Upon
import Derived.Deep.RegionLaw
set_option maxRecDepth 10000
set_option maxHeartbeats 800000
set_option linter.unusedSimpArgs false
set_option linter.unusedVariables false
/- lct: expose. -/
namespace Go.Proofs.YtgmnemndjjmgkaaGreat
open Go.RowKit
theorem aIL{w:World}{pf g N cap:Nat}{σ:Tbl}{ed:Int}(h:aC w pf g N cap σ ed){par d rt:Nat->Nat}{t:BT}{u:Nat}{R:Fst}(hF:LF N σ ((t,u)::R) par d rt)(i:Nat)(hi:i∈t.nodes):
    Calls Tryz.prog 173 #[.pointer (some ⟨pf,0,none⟩),.int .i64 i] w fun e w' =>e=.returned (.tuple #[]) /\
      ∃σ' l' r', aC w' pf g N cap σ' ed/\Rep σ' (.node false l' i r') u/\(BT.node false l' i r').seq=t.seq/\(BT.node false l' i r').nodes.Perm t.nodes/\dB σ σ' t.nodes/\InR N σ' /\ Fr [g] w w' :=by
 obtain⟨c,f,l,r,rfl⟩:=aGL hi;have hnd:=hF.nd;rw[aP,qW]at hnd;exact aTQ h i hF.inR c f l r u (hF.rep (aV c (.node f l i r),u) (by simp)) hnd.1 hF.outs (fun x hx=>(hF.lt (p:=(aV c (.node f l i r),u)) (by simp) hx).2)
theorem vO{w:World}{pf g N cap:Nat}{σ:Tbl}{ed:Int}(h:aC w pf g N cap σ ed){par d rt:Nat->Nat}{F:Fst}(hF:LF N σ F par d rt)(i:Nat)(hi0:0<i)(hi:i<N):
    Calls Tryz.prog 134 #[.pointer (some ⟨pf,0,none⟩),.int .i64 i] w fun e w' =>∃m τ l R,e=.returned (.int .i64 (m:Nat))/\aC w' pf g N cap τ ed/\aBD N σ F par d rt i m τ l R/\Fr [g] w w' :=by
 have hN:=h.le;have HX:=qB (XI.start hF hi hi0);clear hF;go_enter Tryz.func134,Tryz.ntmps134
 go_wp2
 go_loopg [5,6] (d i+1) (fun k a b wr=>∃(τ:Tbl) (B:BT) (j:Nat) (R:Fst),a=.int .i64 B.root/\b=.int .i64 j/\aC wr pf g N cap τ ed/\Fr [g] w wr/\Hid (XI N σ F par d rt i τ B j R)/\(j≠0->d j<k))
 case atStart=>exact⟨σ,.nil,i,F,rfl,rfl,h,Fr.refl _ _,HX,fun _=>Nat.lt_succ_self _⟩
 case round=>
  clear h HX;obtain⟨τ,B,j,R,rfl,rfl,hL,hFr,HX,hk⟩:=hrel;by_cases hj:j=0
  {
  subst hj;obtain⟨hiB,_⟩:=HX.out.done (by omega);go_wp2_with fail
  refine(aIL hL HX.out.lf i hiB).mono ?_;rintro _ w2 ⟨rfl,τ2,l2,r2,hL2,q1,q2,q3,q4,q5,hF2⟩;have HE:=qB (HX.out.exposed (by omega) q1 q2 q3 q4);clear q1 q2 q3 q4 q5;go_wp2
  go_ret;exact⟨B.root,τ2,l2,R,rfl,hL2,HE.out,hFr.then hF2⟩}
  {
  obtain⟨t,u,R2,hR2,hjt⟩:=HX.out.split hj;have HR2:=qB hR2;clear hR2;have hb0:((j:Int) == 0)=false:=zA.2 (by omega);have hjN:j<N:=HX.out.lf.up (B,j) (by simp);have hj2:(j:Int)<N:=by omega
  have hbN:B.root<N:=by {
  by_cases e:B.root=0
  · rw[e];omega
  · exact(HX.out.lf.lt (p:=(B,j)) (by simp) (BT.root_mem e)).2};have hb2:(B.root:Int)<N:=by omega
  have Hk:=qB hk;clear hk;have Hj:=qB hj;clear hj;go_wp2_with fail
  refine(aIL hL (HX.out.lf2 HR2.out) j hjt).mono ?_;rintro _ w2 ⟨rfl,τ2,l2,r2,hL2,q1,q2,q3,q4,q5,hF2⟩;have HE:=qB (HX.out.next Hj.out HR2.out hjt q1 q2 q3 q4);have HI:=qB q5;have hk1:=(q5 j hjN).2.1;have hk1' :((τ2 j).k1:Int)<N:=by omega
  clear q1 q2 q3 q4 q5;have a7:=hL2.nodes.c7 j hjN;have a1:=hL2.nodes.c1 j hjN;have a8:=hL2.nodes.c8 (τ2 j).k1 hk1;have b8:=hL2.nodes.c8 B.root hbN;have d1:=hL2.hd.cell 1;simp only[zS,zT]at d1;have hfz:=hL2.nodes.frozen;generalize hbr:B.root=br at *;have Hbr:=qB hbr;clear hbr;go_wp2
  refine bA 28 (fun w' =>aC w' pf g N cap (aOI τ2 j br) ed/\Fr [g] w2 w') (by kernel_rfl) (by kernel_rfl) (by kernel_rfl) ?_;iterate 28 (refine bM (by decide) (fun K hK=>?_);go_simp;refine hK _ ?_;clear hK K)
  refine aO rfl undef (fun w' hw' =>?_) ?_
  {
  obtain⟨nq,rfl⟩:=hw';go_simp;rw[aOB,aOB];exact(hL2.eqv (Eqv.drewN w2 nq)).st7 ((Fr.refl [g] w2).drewN nq) hjN _};refine bN ?_;rintro w3 ⟨hL3,hF3⟩;clear a7 a1 a8 b8 d1 hfz;have hk3:=hL3.nodes.c1 j hjN;have hfz3:=hL3.nodes.frozen;obtain⟨hL4,hF4⟩:=hL3.st1 (Fr.refl [g] w3) hjN br;have HL4:=qB (show aC (w3.setCell ⟨g,j*9+1,none⟩ (.int .i64 br)) pf g N cap (oA τ2 j br) ed from hL4);clear hL4;go_wp2_with fail
  refine(eF HL4.out j hjN HE.out.2.1.2.2.2 HE.out.2.1.2.1 HE.out.2.1.2.2.1).mono ?_;rintro _ w5 ⟨rfl,hL5,hF5⟩;change aC w5 pf g N cap (xstep τ2 j br) ed at hL5;have e2:=hL5.nodes.c2 j hjN;rw[HE.out.2.2.2]at e2;have d5:=hL5.hd.cell 1;simp only[zS,zT]at d5;clear hfz3 hk3 HL4;go_wp2
  go_roundg (if u=0 then 0 else d u+1)
  case measure=>
   have:=Hk.out Hj.out;by_cases e:u=0
   · rw[qI e];omega
   · rw[qH e];have:=HE.out.2.2.1 e;omega
  case rel=>refine⟨_,_,u,_,rfl,rfl,hL5,hFr.then (hF2.then (hF3.then (hF4.then hF5))),qB HE.out.1,fun e=>by rw[qH e];exact Nat.lt_succ_self _⟩}
theorem aOX{w:World}{pf g N cap:Nat}{σ:Tbl}{ed:Int}(h:aC w pf g N cap σ ed){par d rt:Nat->Nat}{F:Fst}(hF:LF N σ F par d rt)(i:Nat)(hi0:0<i)(hi:i<N):
    Calls Tryz.prog 172 #[.pointer (some ⟨pf,0,none⟩),.int .i64 i] w fun e w' =>e=.returned (.tuple #[])/\∃τ l R par' d' rt', aC w' pf g N cap τ ed/\LF N τ ((.node true l i .nil,0)::R) par' d' rt' /\ (∀x,(τ x).key=(σ x).key) /\
      (∀x y,Adj par' x y↔Adj par x y)/\(∀x y,rt' x=rt' y↔rt x=rt y)/\rt' i=i/\Fr [g] w w' :=by
 have hN:=h.le;have hi2:(i:Int)<N:=by omega
 go_enter Tryz.func172,Tryz.ntmps172
 go_wp2_with fail
 refine(vO h hF i hi0 hi).mono ?_;rintro _ w2 ⟨m,τ,l,R,rfl,hL2,hE,hF2⟩;obtain⟨par', d', rt', q1,q2,q3,q4,q5⟩:=hE.lf.lead;have HE:=qB hE.key;have Q:=qB (zR q1 (zR q2 (zR q3 q4)));clear q1 q2 q3 q4 q5 hE h hF;have d1:=hL2.hd.cell 1;simp only[zS,zT]at d1;have a3:=hL2.nodes.c3 i hi;have hfz:=hL2.nodes.frozen;obtain⟨hL3,hF3⟩:=hL2.st3 hF2 hi true;go_wp2
 go_end0
 refine⟨rfl,_,l,R,par', d', rt', hL3,Q.out.1,fun x=>?_,Q.out.2.1,Q.out.2.2.1,Q.out.2.2.2,hF3⟩;rw[<-HE.out x];by_cases e:x=i
 · subst e;rw[aK]
 · rw[aF e]
structure sE (N:Nat) (σ:Tbl) (par rt:Nat->Nat) (i j:Nat) (τ:Tbl) (l:BT) (R:Fst) (par' d' rt' :Nat->Nat):Prop where
  lf:LF N τ ((.node false l j .nil,0)::R) par' d' rt'
  key:∀x,(τ x).key=(σ x).key
  adj:∀x y,Adj par' x y↔Adj par x y
  rts:∀x y,rt' x=rt' y↔rt x=rt y
  rti:rt' i=i
  path:rt i=rt j->bS (Adj par) i j (l.seq++[j])
theorem aYT{w:World}{pf g N cap:Nat}{σ:Tbl}{ed:Int}(h:aC w pf g N cap σ ed){par d rt:Nat->Nat}{F:Fst}(hF:LF N σ F par d rt)(i j:Nat)(hi0:0<i)(hi:i<N)(hj0:0<j)(hj:j<N):
    Calls Tryz.prog 132 #[.pointer (some ⟨pf,0,none⟩),.int .i64 i,.int .i64 j] w fun e w' =>e=.returned (.tuple #[])/\∃τ l R par' d' rt', aC w' pf g N cap τ ed/\sE N σ par rt i j τ l R par' d' rt' /\ Fr [g] w w' :=by
 go_enter Tryz.func132,Tryz.ntmps132
 go_wp2_with fail
 refine(aOX h hF i hi0 hi).mono ?_;rintro _ w2 ⟨rfl,τ,l,R,par', d', rt', hL2,hF', hkey,hadj,hrt,hri,hFr2⟩;have HF' :=qB hF'; clear hF';have Q:=qB (zR hkey (zR hadj (zR hrt hri)));clear hkey hadj hrt hri h hF;go_wp2_with fail
 refine(vO hL2 HF'.out j hj0 hj).mono ?_;rintro _ w3 ⟨m,τ3,l3,R3,rfl,hL3,hE,hFr3⟩;have HE:=qB hE;clear hE;go_wp2
 go_end0
 obtain⟨hkey,hadj,hrt,hri⟩:=Q.out;have hE:=HE.out;refine⟨rfl,τ3,l3,R3,par', d', rt', hL3,⟨hE.lf,fun x=>(hE.key x).trans (hkey x),hadj,hrt,hri,fun e=>?_⟩,hFr2.then hFr3⟩;obtain⟨hn,hz,hc⟩:=hE.lf.top_seq;have hjm:j∈l3.seq++[j]:=by simp
 have hl:(l3.seq++[j]).getLast? =some j:=yP _ _;generalize l3.seq++[j]=s at *;cases s with
 | nil=>cases hjm
 | cons y s=>{
 have hy:y=i:=by rw[<-cX hE.lf.rt0 hE.lf.rt1 hc hz j hjm,(hrt j i).2 e.symm,hri]
 subst hy;have:bS (Adj par') y j (y::s):=⟨s,rfl,aOM (hz y (by simp)) (fun x hx=>hz x (by simp[hx])) hc.2,hn,hl⟩;exact this.mono (fun x y=>(hadj x y).1)}
def LG(w:World)(pf g n:Nat)(E:Nat->Nat->Prop)(key:Nat->Int)(ed:Int):Prop:=
  ∃cap σ F par d rt,aC w pf g (n+1) cap σ ed/\LF (n+1) σ F par d rt/\(∀v u,E v u↔Adj par (v+1) (u+1))/\∀v,v<n->(σ (v+1)).key=key v
theorem LG.frs{w:World}{pf g n:Nat}{E:Nat->Nat->Prop}{key:Nat->Int}{ed:Int}(h:LG w pf g n E key ed):Frs E:=by
 obtain⟨cap,σ,F,par,d,rt,_,h2,h3,_⟩:=h;exact⟨par,d,rt,h2.rtd,h3⟩
theorem LG.lts{w:World}{pf g n:Nat}{E:Nat->Nat->Prop}{key:Nat->Int}{ed:Int}(h:LG w pf g n E key ed):pf<w.heap.size/\g<w.heap.size/\n<=65536:=by
 obtain⟨cap,σ,F,par,d,rt,h1,_⟩:=h;have:=h1.le;exact⟨h1.lts.1,h1.lts.2,by omega⟩
theorem LG.fr{w w' :World}{pf g n:Nat}{E:Nat->Nat->Prop}{key:Nat->Int}{ed:Int}{S:List Nat}(h:LG w pf g n E key ed)(hf:Fr S w w')(hp:pf∉S)(hg:g∉S):LG w' pf g n E key ed:=by
 obtain⟨cap,σ,F,par,d,rt,h1,h2⟩:=h;exact⟨cap,σ,F,par,d,rt,⟨hf.blk h1.hd hp,h1.nodes.same (hf.keep g h1.nodes.lt hg),h1.ne,h1.le,h1.cap⟩,h2⟩
@[go_sem] theorem eq_lct(a:Addr)(w:World):(binOp .eql 119 (.pointer (some a)) (.pointer (some a))).run Tryz.prog w=.ok (.bool true) w:=by
 obtain⟨j,hj⟩:=zE.1 (show(Tryz.prog.info? 194).isSome=true by kernel_rfl);exact run_eql_ptr_same w a Tryz.underlying119 hj
theorem aBJ{w:World}{pf:Nat}(hc:w.cell? ⟨pf,0,none⟩=some (.pointer (some ⟨pf,0,none⟩))):
    Calls Tryz.prog 152 #[.pointer (some ⟨pf,0,none⟩)] w fun e w' =>e=.returned (.bool true)/\w' =w:=by
 go_enter Tryz.func152,Tryz.ntmps152
 go_wp2
 go_ret;exact⟨rfl,rfl⟩
def inV(n:Nat)(v:Int):Bool:=decide (0<=v)&&decide (v<n)
theorem yR{w:World}{pf g n cap:Nat}{σ:Tbl}{ed:Int}(h:aC w pf g (n+1) cap σ ed)(v:Int):
    Calls Tryz.prog 133 #[.pointer (some ⟨pf,0,none⟩),.int .i64 v] w fun e w' =>e=.returned (.bool (inV n v))/\w' =w:=by
 have c0:=h.hd.cell 0;have c1:=h.hd.cell 1;have hN:=h.le;simp only[zS,zT]at c0 c1;have hV:=qB (aBJ c0);by_cases h1:0<=v
 {
 by_cases h2:v<n
 {
 have e:inV n v=true:=by simp[inV,h1,h2]
 rw[e];clear e;go_enter Tryz.func133,Tryz.ntmps133
 go_wp2_with (go_at_call 152;refine hV.out.mono ?_;rintro e w' ⟨rfl,rfl⟩)
 go_ret;exact⟨rfl,rfl⟩}
 {
 have e:inV n v=false:=by simp[inV,h2]
 rw[e];clear e;have d2:decide (v<(n:Int))=false:=qK h2;go_enter Tryz.func133,Tryz.ntmps133
 go_wp2_with (go_at_call 152;refine hV.out.mono ?_;rintro e w' ⟨rfl,rfl⟩)
 go_ret;exact⟨rfl,rfl⟩}}
 {
 have e:inV n v=false:=by simp[inV,h1]
 rw[e];clear e;go_enter Tryz.func133,Tryz.ntmps133
 go_wp2_with (go_at_call 152;refine hV.out.mono ?_;rintro e w' ⟨rfl,rfl⟩)
 go_ret;exact⟨rfl,rfl⟩}
theorem cL{n:Nat}{v:Int}(h:inV n v=true):∃k:Nat,v=k/\k<n:=by
 simp only[inV,zG,decide_eq_true_eq]at h;exact⟨v.toNat,by omega,by omega⟩
def kO(n:Nat)(E:Nat->Nat->Prop)(a b:Int):Prop:=inV n a=true/\inV n b=true/\bV E a.toNat b.toNat
theorem aYU{N:Nat}{σ:Tbl}{F:Fst}{par d rt:Nat->Nat}(h:LF N σ F par d rt){t:BT}{b:Nat}(hm:(t,0)∈F)(hb:t.root=b)(hb0:b≠0){a:Nat}(ha:0<a)(haN:a<N)(hne:a≠b)(hr:rt a=rt b):(σ a).up≠0:=by
 intro e0;obtain⟨p,hp,hap⟩:=bU.1 ((h.mem a).2 ⟨ha,haN⟩);have hk:=(h.rep p hp).kids hap;have hbt:b∈t.nodes:=hb▸BT.root_mem (by rw[hb];exact hb0);by_cases hpt:b∈p.1.nodes
 {
 -- the same tree: a is no root
 rcases hk.2.2.1 with e|e
 {
 obtain⟨R,hR⟩:=eX hm;have h' :=h.perm hR;have hp' :=hR.mem_iff.1 hp;rcases qF.1 hp' with e2|e2
 · rw[e2]at e;exact hne (e.trans hb)
 · exact h'.disj e2 b hbt hpt}
 · rw[e0]at e;have:=(h.lt hp e).1;omega}
 {
 rcases hk.2.2.1 with e|e
 {
 have hu:p.2=0:=(hk.2.2.2.1 e).symm.trans e0;have c1:=h.ch _ hm;have c2:=h.ch _ hp;rw[hu]at c2;have z1:=h.seq0 hm;have z2:=h.seq0 hp;have sx:=cG.2 hbt;have sy:=cG.2 hap;dsimp only at c1 z1
 cases hs1:t.seq with
 | nil=>rw[hs1]at sx;cases sx
 | cons x s1=>{
 cases hs2:p.1.seq with
 | nil=>rw[hs2]at sy;cases sy
 | cons y s2=>{
 have mx:x∈t.nodes:=cG.1 (by rw[hs1];simp);have my:y∈p.1.nodes:=cG.1 (by rw[hs2];simp);rw[hs1]at c1 z1 sx;rw[hs2]at c2 z2 sy;have ra:=cX h.rt0 h.rt1 c1 z1 b sx;have rb:=cX h.rt0 h.rt1 c2 z2 a sy;have hxy:x=y:=by rw[<-ra,<-hr,rb]
 obtain⟨R,hR⟩:=eX hm;have h' :=h.perm hR;rcases qF.1 (hR.mem_iff.1 hp) with e2|e2
 · rw[e2]at hpt;exact hpt hbt
 · exact h'.disj e2 x mx (hxy▸my)}}}
 · rw[e0]at e;have:=(h.lt hp e).1;omega}
theorem mT{w:World}{pf g n cap:Nat}{σ:Tbl}{ed:Int}(h:aC w pf g (n+1) cap σ ed){par d rt:Nat->Nat}{F:Fst}(hF:LF (n+1) σ F par d rt)(v:Nat)(hv:v<n):
    Calls Tryz.prog 134 #[.pointer (some ⟨pf,0,none⟩),.int .i64 ((v:Int)+1)] w fun e w' =>∃m τ l R,e=.returned (.int .i64 (m:Nat))/\aC w' pf g (n+1) cap τ ed/\aBD (n+1) σ F par d rt (v+1) m τ l R/\Fr [g] w w' :=
  vO h hF (v+1) (by omega) (by omega)
theorem jT{w:World}{pf g n:Nat}{E:Nat->Nat->Prop}{key:Nat->Int}{ed:Int}(h:LG w pf g n E key ed)(a b:Int):
    Calls Tryz.prog 83 #[.pointer (some ⟨pf,0,none⟩),.int .i64 a,.int .i64 b] w fun e w' =>∃r:Bool,e=.returned (.bool r)/\(r=true↔kO n E a b)/\LG w' pf g n E key ed/\Fr [g] w w' :=by
 have H:=qB h;obtain⟨cap,σ,F,par,d,rt,hL,hF,hE,hk⟩:=h;have HF:=qB hF;clear hF;have HE:=qB hE;clear hE;have HK:=qB hk;clear hk;have hN:=hL.le;cases hva:inV n a with
 | false=>{
 have HR:=qB (show ¬kO n E a b from fun e=>by rw[e.1]at hva;cases hva);have A1:=yR hL a;rw[hva]at A1;have HA:=qB A1;clear A1 hva;go_enter Tryz.func83,Tryz.ntmps83
 go_wp2_with fail
 refine HA.out.mono ?_;rintro _ w ⟨rfl,rfl⟩;go_wp2
 go_ret;exact⟨false,rfl,by simp[HR.out],H.out,Fr.refl _ _⟩}
 | true=>{
 have A1:=yR hL a;rw[hva]at A1;have HA:=qB A1;clear A1;cases hvb:inV n b with
 | false=>{
 have HR:=qB (show ¬kO n E a b from fun e=>by rw[e.2.1]at hvb;cases hvb);have B1:=yR hL b;rw[hvb]at B1;have HB:=qB B1;clear B1 hva hvb;go_enter Tryz.func83,Tryz.ntmps83
 go_wp2_with fail
 refine HA.out.mono ?_;rintro _ w ⟨rfl,rfl⟩;go_wp2_with fail
 refine HB.out.mono ?_;rintro _ w ⟨rfl,rfl⟩;go_wp2
 go_ret;exact⟨false,rfl,by simp[HR.out],H.out,Fr.refl _ _⟩}
 | true=>{
 have B1:=yR hL b;rw[hvb]at B1;have HB:=qB B1;clear B1;obtain⟨v,rfl,hv⟩:=cL hva;obtain⟨u,rfl,hu⟩:=cL hvb;have HC:=qB (show kO n E v u↔bV E v u from⟨fun e=>e.2.2,fun e=>⟨hva,hvb,e⟩⟩);clear hva hvb;by_cases hvu:v=u
 {
 subst hvu;go_enter Tryz.func83,Tryz.ntmps83
 go_wp2_with fail
 refine HA.out.mono ?_;rintro _ w ⟨rfl,rfl⟩;go_wp2_with fail
 refine HB.out.mono ?_;rintro _ w ⟨rfl,rfl⟩;go_wp2
 go_ret;refine⟨true,rfl,?_,H.out,Fr.refl _ _⟩;simp only[true_iff];exact HC.out.2 (bV.refl E v)}
 {
 have hb:((v:Int) == (u:Int))=false:=zA.2 (by omega);have Hne:=qB hvu;clear hvu;go_enter Tryz.func83,Tryz.ntmps83
 go_wp2_with fail
 refine HA.out.mono ?_;rintro _ w ⟨rfl,rfl⟩;go_wp2_with fail
 refine HB.out.mono ?_;rintro _ w ⟨rfl,rfl⟩;go_wp2_with fail
 refine(mT hL HF.out v (by omega)).mono ?_;rintro _ w2 ⟨m1,τ1,l1,R1,rfl,hL1,hE1,hF1⟩;have HE1:=qB hE1;clear hE1;go_wp2_with fail
 refine(mT hL1 HE1.out.lf u (by omega)).mono ?_;rintro _ w3 ⟨m2,τ2,l2,R2,rfl,hL2,hE2,hF2⟩;have HE2:=qB hE2;clear hE2;have a2:=hL2.nodes.c2 (v+1) (by omega);have d1:=hL2.hd.cell 1;simp only[zS,zT]at d1;have hv2:((v+1:Nat):Int)<((n+1:Nat):Int):=by omega
 have hres:((τ2 (v+1)).up≠0)↔bV E v u:=by {
 rw[gJ HF.out.rtd HE.out];constructor
 {
 intro e;apply qZ;intro hc;have h1:=HE2.out.frame (v+1) hc;rw[h1,(HE1.out.lf.rep _ (List.mem_cons_self)).1.2.1]at e;exact e rfl}
 {
 intro e;exact aYU HE2.out.lf (List.mem_cons_self) rfl (by simp[BT.root]) (by omega) (by omega) (by simp only[BT.root];have:=Hne.out;omega) e}};have Hres:=qB hres;clear hres;have hFr:Fr [g] w w3:=hF1.then hF2;have hLG:LG w3 pf g n E key ed:=⟨cap,τ2,_,par,d,rt,hL2,HE2.out.lf,HE.out,fun x hx=>by rw[HE2.out.key,HE1.out.key];exact HK.out x hx⟩;have HLG:=qB hLG;clear hLG;by_cases hup:(τ2 (v+1)).up=0
 {
 rw[hup]at a2;have Hup:=qB hup;clear hup;go_wp2
 go_ret;exact⟨false,rfl,by simp only[Bool.false_eq_true,false_iff];exact fun e=>Hres.out.2 (HC.out.1 e) Hup.out,HLG.out,hFr⟩}
 {
 have hb0:(((τ2 (v+1)).up:Int) != 0)=true:=bne_iff_ne.2 (by omega);have Hup:=qB hup;clear hup;go_wp2
 go_ret;exact⟨true,rfl,by simp only[true_iff];exact HC.out.2 (Hres.out.1 Hup.out),HLG.out,hFr⟩}}}}
theorem aGS{w:World}{pf g n cap:Nat}{σ:Tbl}{ed:Int}(h:aC w pf g (n+1) cap σ ed){par d rt:Nat->Nat}{F:Fst}(hF:LF (n+1) σ F par d rt)(v u:Nat)(hv:v<n)(hu:u<n):
    Calls Tryz.prog 132 #[.pointer (some ⟨pf,0,none⟩),.int .i64 ((v:Int)+1),.int .i64 ((u:Int)+1)] w fun e w' =>e=.returned (.tuple #[])/\∃τ l R par' d' rt', aC w' pf g (n+1) cap τ ed/\sE (n+1) σ par rt (v+1) (u+1) τ l R par' d' rt' /\ Fr [g] w w' :=
  aYT h hF (v+1) (u+1) (by omega) (by omega) (by omega) (by omega)
theorem sE.lg{w:World}{pf g n cap:Nat}{σ τ:Tbl}{E:Nat->Nat->Prop}{key:Nat->Int}{ed:Int}{par rt par' d' rt' :Nat->Nat}{i j:Nat}{l:BT}{R:Fst}(h:sE (n+1) σ par rt i j τ l R par' d' rt')(hL:aC w pf g (n+1) cap τ ed)
    (hE:∀v u,E v u↔Adj par (v+1) (u+1)) (hk:∀v,v<n->(σ (v+1)).key=key v):LG w pf g n E key ed:=
  ⟨cap,τ,_,par', d', rt', hL,h.lf,fun v u=>(hE v u).trans (h.adj _ _).symm,fun v hv=>by rw[h.key];exact hk v hv⟩
theorem sE.at{n:Nat}{σ τ:Tbl}{E:Nat->Nat->Prop}{par rt par' d' rt' :Nat->Nat}{v u:Nat}{l:BT}{R:Fst}(h:sE (n+1) σ par rt (v+1) (u+1) τ l R par' d' rt')
    (hE:∀v u,E v u↔Adj par (v+1) (u+1)) (hr:rt (v+1)=rt (u+1)):∃p,bS E v u p/\p.map (· + 1)=l.seq++[u+1]/\(∀x∈p,x<n):=by
 obtain⟨h1,h2⟩:=pV hE (h.path hr);refine⟨_,h1,h2,fun x hx=>?_⟩;have:x+1∈l.seq++[u+1]:=by rw[<-h2];exact zF.2 ⟨x,hx,rfl⟩
 have hm:x+1∈(BT.node false l (u+1) .nil).nodes:=by rw[<-cG];simpa[BT.seq] using this
 have:=(h.lf.lt (List.mem_cons_self) hm).2;omega
theorem aYV{w:World}{pf g n:Nat}{E:Nat->Nat->Prop}{key:Nat->Int}{ed:Int}(h:LG w pf g n E key ed)(a:Int):
    Calls Tryz.prog 116 #[.pointer (some ⟨pf,0,none⟩),.int .i64 a] w fun e w' =>e=.returned (.int .i64 (if inV n a then(csize n E a.toNat:Int) else 0))/\LG w' pf g n E key ed/\Fr [g] w w' :=by
 have H:=qB h;obtain⟨cap,σ,F,par,d,rt,hL,hF,hE,hk⟩:=h;have HF:=qB hF;clear hF;have HE:=qB hE;clear hE;have HK:=qB hk;clear hk;have hN:=hL.le;have A1:=yR hL a;cases hva:inV n a with
 | false=>{
 rw[hva]at A1;have HA:=qB A1;clear A1 hva;go_enter Tryz.func116,Tryz.ntmps116
 go_wp2_with fail
 refine HA.out.mono ?_;rintro _ w ⟨rfl,rfl⟩;go_wp2
 go_ret;exact⟨rfl,H.out,Fr.refl _ _⟩}
 | true=>{
 rw[hva]at A1;have HA:=qB A1;clear A1;obtain⟨v,rfl,hv⟩:=cL hva;clear hva;go_enter Tryz.func116,Tryz.ntmps116
 go_wp2_with fail
 refine HA.out.mono ?_;rintro _ w ⟨rfl,rfl⟩;go_wp2_with fail
 refine(mT hL HF.out v hv).mono ?_;rintro _ w2 ⟨m1,τ1,l1,R1,rfl,hL1,hE1,hF1⟩;have hres:(τ1 (v+1)).total=(csize n E v:Int):=by {
 have h1:=(hE1.lf.rep _ (List.mem_cons_self)).2.2.2.2.1;have h2:=hE1.lf.size (x:=v+1) (by simp[BT.nodes]);rw[h1,h2];have hp:(bT ((BT.node false l1 (v+1) BT.nil,0)::R1)).Perm ((List.range n).map (· + 1)):=by {
 refine(List.perm_ext_iff_of_nodup hE1.lf.nd (jG.2 List.nodup_range)).2 (fun x=>?_);rw[hE1.lf.mem];simp only[zF,List.mem_range];exact⟨fun h=>⟨x-1,by omega,by omega⟩,fun⟨y,hy,e⟩=>by omega⟩};have e:((bT ((BT.node false l1 (v+1) BT.nil,0)::R1)).filter (fun y=>decide (rt y=rt (v+1)))).length=csize n E v:=by {
 rw[(hp.filter _).length_eq,List.filter_map,List.length_map];unfold Proofs.YtgmnemndjjmgkaaGreat.csize;congr 1
 refine List.filter_congr (fun x _=>?_);show decide (rt (x+1)=rt (v+1))=_
 refine decide_eq_decide.2 ?_;rw[gJ HF.out.rtd HE.out];exact eq_comm};rw[e];have:=aDO n E v;unfold wrap64;omega};have HE1:=qB hE1;clear hE1;have a8:=hL1.nodes.c8 (v+1) (by omega);rw[hres]at a8;clear hres;have d1:=hL1.hd.cell 1;simp only[zS,zT]at d1;have hv2:((v+1:Nat):Int)<((n+1:Nat):Int):=by omega
 go_wp2
 go_ret;exact⟨rfl,⟨cap,τ1,_,par,d,rt,hL1,HE1.out.lf,HE.out,fun x hx=>by rw[HE1.out.key];exact HK.out x hx⟩,hF1⟩}
def LM(w:World)(pf g n:Nat)(E:Nat->Nat->Prop)(key:Nat->Int):Prop:=LG w pf g n E key ((n:Int)-nc n E)
theorem aYW{w:World}{pf g n:Nat}{E:Nat->Nat->Prop}{key:Nat->Int}{ed:Int}(h:LG w pf g n E key ed)(a b:Int):
    Calls Tryz.prog 179 #[.pointer (some ⟨pf,0,none⟩),.int .i64 a,.int .i64 b] w fun e w' =>∃x:Int,e=.returned (.int .i64 x)/\((¬kO n E a b/\x=-1)∨∃(v u:Nat) (p:List Nat),a=v/\b=u/\v<n/\u<n/\bS E v u p/\x=(p.length:Int)-1)/\LG w' pf g n E key ed/\Fr [g] w w' :=by
 go_enter Tryz.func179,Tryz.ntmps179
 go_wp2_with fail
 refine(jT h a b).mono ?_;rintro _ w2 ⟨r,rfl,hr,h2,hF2⟩;have HR:=qB hr;clear hr;cases r with
 | false=>{
 have H2:=qB h2;clear h2 h;go_wp2
 go_ret;exact⟨-1,rfl,.inl ⟨fun e=>(by have:=HR.out.2 e;cases this),rfl⟩,H2.out,hF2⟩}
 | true=>{
 obtain⟨va,vb,hc⟩:=HR.out.1 rfl;obtain⟨v,rfl,hv⟩:=cL va;obtain⟨u,rfl,hu⟩:=cL vb;clear va vb HR h;obtain⟨cap,σ,F,par,d,rt,hL,hF,hE,hk⟩:=h2;have hrt:=(gJ hF.rtd hE).1 hc;have HF:=qB hF;clear hF;have HE:=qB hE;clear hE;have HK:=qB hk;clear hk;have hN:=hL.le;go_wp2_with fail
 refine(aGS hL HF.out v u hv hu).mono ?_;rintro _ w3 ⟨rfl,τ,l,R,par', d', rt', hL3,hP,hF3⟩;obtain⟨p,hp1,hp2,hp3⟩:=hP.at HE.out hrt;have hpl:(τ (u+1)).size=(p.length:Int)/\p.length<=n/\0<p.length:=by {
 have h1:=(hP.lf.rep _ (List.mem_cons_self)).2.2.2.1;have h2:(BT.node false l (u+1) .nil).nodes.length=p.length:=by {
 rw[<-(BT.seq_perm _).length_eq];have:=congrArg List.length hp2;simpa[BT.seq] using this.symm};have h3:=aDR hp1.nd hp3;have h4:0<p.length:=List.length_pos_iff.2 hp1.ne;refine⟨?_,h3,h4⟩;rw[h1,h2];unfold wrap64;omega};obtain⟨q1,q2,q3⟩:=hpl;have a5:=hL3.nodes.c5 (u+1) (by omega);rw[q1]at a5;have HP:=qB hP;clear hP;have Hp:=qB hp1;clear hp1 hp2 hp3 q1;have d1:=hL3.hd.cell 1;simp only[zS,zT]at d1;have hu2:((u+1:Nat):Int)<((n+1:Nat):Int):=by omega
 go_wp2
 go_ret;exact⟨_,rfl,.inr ⟨v,u,p,rfl,rfl,hv,hu,Hp.out,rfl⟩,HP.out.lg hL3 HE.out HK.out,hF2.then hF3⟩}
def tT(key:Nat->Int)(p:List Nat)(m:Nat):Prop:=m∈p/\∀x∈p,x≠m->key m<key x∨(key m=key x/\m<x)
theorem bBX{w:World}{pf g n:Nat}{E:Nat->Nat->Prop}{key:Nat->Int}{ed:Int}(h:LG w pf g n E key ed)(a b:Int):Calls Tryz.prog 82 #[.pointer (some ⟨pf,0,none⟩),.int .i64 a,.int .i64 b] w fun e w' =>((¬kO n E a b/\e=.returned (.tuple #[.int .i64 0,.bool false]))∨∃(v u:Nat) (p:List Nat) (m:Nat),a=v/\b=u/\v<n/\u<n/\bS E v u p/\(∀x∈p,x<n)/\tT key p m/\e=.returned (.tuple #[.int .i64 m,.bool true]))/\LG w' pf g n E key ed/\Fr [g] w w' :=by
 go_enter Tryz.func82,Tryz.ntmps82
 go_wp2_with fail
 refine(jT h a b).mono ?_;rintro _ w2 ⟨r,rfl,hr,h2,hF2⟩;have HR:=qB hr;clear hr;cases r with
 | false=>{
 have H2:=qB h2;clear h2 h;go_wp2
 go_ret2;exact⟨.inl ⟨fun e=>(by have:=HR.out.2 e;cases this),rfl⟩,H2.out,hF2⟩}
 | true=>{
 obtain⟨va,vb,hc⟩:=HR.out.1 rfl;obtain⟨v,rfl,hv⟩:=cL va;obtain⟨u,rfl,hu⟩:=cL vb;clear va vb HR h;obtain⟨cap,σ,F,par,d,rt,hL,hF,hE,hk⟩:=h2;have hrt:=(gJ hF.rtd hE).1 hc;have HF:=qB hF;clear hF;have HE:=qB hE;clear hE;have HK:=qB hk;clear hk;have hN:=hL.le;go_wp2_with fail
 refine(aGS hL HF.out v u hv hu).mono ?_;rintro _ w3 ⟨rfl,τ,l,R,par', d', rt', hL3,hP,hF3⟩;obtain⟨p,hp1,hp2,hp3⟩:=hP.at HE.out hrt;have hbest:∃m,(τ (u+1)).first=m+1/\m<n/\tT key p m:=by {
 have h1:=(hP.lf.rep _ (List.mem_cons_self)).2.2.2.2.2;have hmem:∀x,x∈(BT.node false l (u+1) .nil).nodes↔x∈p.map (· + 1):=by intro x;rw[<-cG,hp2];simp[BT.seq]
 have hkey:∀x,x<n->(τ (x+1)).key=key x:=fun x hx=>by rw[hP.key];exact HK.out x hx
 obtain⟨m,hm,e⟩:=zF.1 ((hmem _).1 h1.1);refine⟨m,e.symm,hp3 m hm,hm,fun x hx hne=>?_⟩;have:=h1.2 (x+1) ((hmem _).2 (zF.2 ⟨x,hx,rfl⟩)) (by rw[<-e];omega);rw[<-e]at this;unfold bR at this;rw[hkey m (hp3 m hm),hkey x (hp3 x hx)]at this;simp only[Bool.or_eq_true,zG,decide_eq_true_eq]at this;omega};obtain⟨m,q1,q2,q3⟩:=hbest;have a6:=hL3.nodes.c6 (u+1) (by omega);rw[q1]at a6;have HP:=qB hP;clear hP;have Hp:=qB (zR hp1 (zR hp3 q3));clear hp1 hp2 hp3 q1 q3;have d1:=hL3.hd.cell 1;simp only[zS,zT]at d1;have hu2:((u+1:Nat):Int)<((n+1:Nat):Int):=by omega
 have hw1:((m+1:Nat):Int)-1=m:=by omega
 go_wp2
 go_ret2;exact⟨.inr ⟨v,u,p,m,rfl,rfl,hv,hu,Hp.out.1,Hp.out.2.1,Hp.out.2.2,rfl⟩,HP.out.lg hL3 HE.out HK.out,hF2.then hF3⟩}
end Go.Proofs.YtgmnemndjjmgkaaGreat
namespace Go.Proofs.YtgmnemndjjmgkaaGreat
open Go.RowKit Classical
theorem aBK{w:World}{pf g n cap:Nat}{σ:Tbl}{ed:Int}(h:aC w pf g (n+1) cap σ ed)(b m:Nat)(f:Nat->Int)(hm:m<=100)(hb:∀k,k<m->w.cell? ⟨b,k,none⟩=some (.int .i64 (f k))):
    Calls Tryz.prog 178 #[.pointer (some ⟨pf,0,none⟩),.slice (some ⟨b,0,none⟩) m m] w fun e w' =>((e=.returned (.int .i64 0)/\∀k,k<m->inV n (f k)=true)∨(e=.returned (.int .i64 3)/\∃k,k<m/\inV n (f k)=false))/\w' =w:=by
 have c0:=h.hd.cell 0;simp only[zS]at c0;have hV:=qB (aBJ c0);clear c0;have HB:=qB hb;clear hb;go_enter Tryz.func178,Tryz.ntmps178
 go_wp2_with fail
 refine hV.out.mono ?_;rintro _ w ⟨rfl,rfl⟩;go_wp2
 go_loopw [12] (fun x wr=>∃k:Nat,k<=m/\x=.int .i64 k/\wr=w/\∀j,j<k->inV n (f j)=true) (fun x _=>m-(intOf x).toNat)
 case atStart=>exact⟨0,zB _,rfl,rfl,fun j hj=>by omega⟩
 case round=>
  obtain⟨k,hk,rfl,rfl,hall⟩:=hrel;have Hall:=qB hall;clear hall;by_cases hlt:k<m
  {
  have hc:=HB.out k hlt;have hA:=yR h (f k);cases hv:inV n (f k) with
  | true=>{
  rw[hv]at hA;have HA:=qB hA;clear hA;have Hv:=qB hv;clear hv;go_wp2_with fail
  refine HA.out.mono ?_;rintro _ w0 ⟨rfl,rfl⟩;go_wp2
  exact⟨⟨k+1,by omega,by go_num,trivial,fun j hj=>by
    by_cases e:j=k
    · rw[e];exact Hv.out
    · exact Hall.out j (by omega)⟩,by simp[intOf];omega⟩}
  | false=>{
  rw[hv]at hA;have HA:=qB hA;clear hA;have Hv:=qB hv;clear hv;go_wp2_with fail
  refine HA.out.mono ?_;rintro _ w0 ⟨rfl,rfl⟩;go_wp2
  go_ret;exact⟨.inr ⟨rfl,k,hlt,Hv.out⟩,rfl⟩}}
  {
  go_wp2
  go_ret;exact⟨.inl ⟨rfl,fun j hj=>Hall.out j (by omega)⟩,rfl⟩}
theorem aYX{w:World}{pf g n cap:Nat}{σ:Tbl}{ed:Int}(h:aC w pf g (n+1) cap σ ed){par d rt:Nat->Nat}{F:Fst}(hF:LF (n+1) σ F par d rt)(v:Nat)(hv:v<n):
    Calls Tryz.prog 172 #[.pointer (some ⟨pf,0,none⟩),.int .i64 ((v:Int)+1)] w fun e w' =>e=.returned (.tuple #[])/\∃τ l R par' d' rt', aC w' pf g (n+1) cap τ ed/\LF (n+1) τ ((.node true l (v+1) .nil,0)::R) par' d' rt' /\ (∀x,(τ x).key=(σ x).key) /\
      (∀x y,Adj par' x y↔Adj par x y)/\(∀x y,rt' x=rt' y↔rt x=rt y)/\rt' (v+1)=v+1/\Fr [g] w w' :=aOX h hF (v+1) (by omega) (by omega)
theorem nP{w:World}{pf g n cap:Nat}{σ:Tbl}{ed:Int}(h:aC w pf g (n+1) cap σ ed)(v:Nat)(hv:v<n)(hR:InR (n+1) σ)(h0:(σ (v+1)).k0≠v+1)(h1:(σ (v+1)).k1≠v+1):
    Calls Tryz.prog 174 #[.pointer (some ⟨pf,0,none⟩),.int .i64 ((v:Int)+1)] w fun e w' =>e=.returned (.tuple #[])/\aC w' pf g (n+1) cap (refresh σ (v+1)) ed/\Fr [g] w w' :=eF h (v+1) (by omega) hR h0 h1
theorem aC.edges{w w0:World}{pf g N cap:Nat}{σ:Tbl}{ed:Int}(h:aC w pf g N cap σ ed)(hF:Fr [g] w0 w)(e:Int):
    aC (w.setCell ⟨pf,2,none⟩ (.int .i64 e)) pf g N cap σ e/\Fr [pf,g] w0 (w.setCell ⟨pf,2,none⟩ (.int .i64 e)):=by
 refine⟨⟨?_,h.nodes.same (Below.heap_setCell _ _ _ _ (fun e=>h.ne e.symm)),h.ne,h.le,h.cap⟩,(hF.mono (S' :=[pf,g]) (fun b hb=>.inl (by simp at hb;simp[hb]))).setCell _ _ (.inl (by simp))⟩;have:=h.hd.set 2 (.int .i64 e);simpa using this
noncomputable def eD(n:Nat)(E:Nat->Nat->Prop)(a b:Int):Int:=
  if inV n a=true/\inV n b=true then(if a=b then 9 else if bV E a.toNat b.toNat then 6 else 0) else 3
noncomputable def mU(n:Nat)(E:Nat->Nat->Prop)(a b:Int):Nat->Nat->Prop:=if eD n E a b=0 then eP E a.toNat b.toNat else E
theorem aYY{w:World}{pf g n:Nat}{E:Nat->Nat->Prop}{key:Nat->Int}(h:LM w pf g n E key)(a b:Int):
    Calls Tryz.prog 197 #[.pointer (some ⟨pf,0,none⟩),.int .i64 a,.int .i64 b] w fun e w' =>e=.returned (.int .i64 (eD n E a b))/\LM w' pf g n (mU n E a b) key/\Fr [pf,g] w w' :=by
  have H:=qB h;have hfrs:=qB (LG.frs h);obtain⟨hp1,hg1,hn1⟩:=LG.lts h;obtain⟨cap,σ,F,par,d,rt,hL,hF,hE,hk⟩:=h;clear hF hE hk;have hLa:aC (w.alloc (.cells #[.int .i64 a,.int .i64 b] 3)) pf g (n+1) cap σ ((n:Int)-nc n E):=hL.below ((Below.refl _ w).alloc (qS _) _) hp1 hg1;have hblk:=Blk.new w [.int .i64 a,.int .i64 b] 3;have hFa:Fr [] w (w.alloc (.cells #[.int .i64 a,.int .i64 b] 3)):=(Fr.refl _ _).alloc _;have HMa:=qB (LG.fr H.out hFa (by simp) (by simp));have hCk:=aBK hLa w.heap.size 2 (fun k=>if k=0 then a else b) (by decide) (fun k hk=>by
    rw[hblk.cell];rcases(show k=0∨k=1 by omega) with rfl|rfl<;>rfl)
  have HCk:=qB hCk;clear hCk hblk;clear hLa hL;go_enter Tryz.func197,Tryz.ntmps197
  go_wp2_with fail
  refine HCk.out.mono ?_;rintro _ w1 ⟨hcode,rfl⟩;clear HCk;generalize w.alloc (.cells #[.int .i64 a,.int .i64 b] 3)=w1 at *;rcases hcode with⟨rfl,hall⟩|⟨rfl,k,hk,hbad⟩
  · have va : inV n a = true := hall 0 (by decide)
    have vb:inV n b=true:=hall 1 (by decide);clear hall;by_cases hab:a=b
    · have hlc : eD n E a b = 9 := by unfold eD; rw [qI ⟨va, vb⟩, qI hab]
      have hle:mU n E a b=E:=by unfold mU;rw[hlc];simp
      have Hlc:=qB (zR hlc hle);clear hlc hle;have hb:(a == b)=true:=beq_iff_eq.2 hab;clear va vb hab;go_wp2
      go_ret;rw[Hlc.out.1,Hlc.out.2];exact⟨rfl,HMa.out,hFa.mono (by simp)⟩
    · have hb : (a == b) = false := zA.2 hab
      have HL0:=qB (zR va (zR vb hab));clear hab;go_wp2_with fail
      refine(jT HMa.out a b).mono ?_;rintro _ w2 ⟨r,rfl,hr,hM2,hF2⟩;cases r with
      | true=>
        obtain⟨_,_,hc⟩:=hr.1 rfl;have hlc:eD n E a b=6:=by unfold eD;rw[qI ⟨va,vb⟩,qH HL0.out.2.2,qI hc]
        have hle:mU n E a b=E:=by unfold mU;rw[hlc];simp
        have Hlc:=qB (zR hlc hle);clear hlc hle hr;have HM2:=qB hM2;clear hM2 va vb hc;go_wp2
        go_ret;rw[Hlc.out.1,Hlc.out.2];exact⟨rfl,HM2.out,(hFa.mono (S' :=[pf,g]) (by simp)).trans hF2 (fun q hq=>.inl (by simp at hq;simp[hq]))⟩
      | false=>
        have hnc:¬bV E a.toNat b.toNat:=fun e=>by have:=hr.2 ⟨va,vb,e⟩;cases this
        have hlc:eD n E a b=0:=by unfold eD;rw[qI ⟨va,vb⟩,qH HL0.out.2.2,qH hnc]
        have hle:mU n E a b=eP E a.toNat b.toNat:=by unfold mU;rw[hlc];simp
        have Hlc:=qB (zR hlc hle);clear hlc hle hr;obtain⟨v,rfl,hv⟩:=cL va;obtain⟨u,rfl,hu⟩:=cL vb;simp only[zM]at hnc Hlc;have HN:=qB hnc;clear va vb HL0;obtain⟨cap2,σ2,F2,par2,d2,rt2,hL2,hLF2,hE2,hk2⟩:=hM2;have hrt:rt2 (v+1)≠rt2 (u+1):=fun e=>hnc ((gJ hLF2.rtd hE2).2 e);clear hnc;have HF2:=qB hLF2;clear hLF2;have HE2:=qB hE2;clear hE2;have HK2:=qB hk2;clear hk2;have HRt:=qB hrt;clear hrt;have hN:=hL2.le;go_wp2_with fail
        refine(aYX hL2 HF2.out v hv).mono ?_;rintro _ w3 ⟨rfl,τ3,l3,R3,par3,d3,rt3,hL3,hLF3,hk3,hadj3,hrt3,hri3,hF3⟩;have HF3:=qB hLF3;clear hLF3;have HQ3:=qB (zR hk3 (zR hadj3 (zR hrt3 hri3)));clear hk3 hadj3 hrt3 hri3;go_wp2_with fail
        refine(mT hL3 HF3.out u hu).mono ?_;rintro _ w4 ⟨m4,τ4,l4,R4,rfl,hL4,hE4,hF4⟩
        have key:(∃par' d' rt' F', LF (n+1) (refresh (gO τ4 (v+1) (u+1)) (u+1)) F' par' d' rt' /\ (∀x y,Adj par' x y↔Adj par2 x y∨(x=v+1/\y=u+1)∨(x=u+1/\y=v+1))) /\
            (∀x,(refresh (gO τ4 (v+1) (u+1)) (u+1) x).key=(σ2 x).key)/\(gO τ4 (v+1) (u+1) (u+1)).k0≠u+1/\(gO τ4 (v+1) (u+1) (u+1)).k1≠u+1/\InR (n+1) (gO τ4 (v+1) (u+1)):=by
          obtain⟨hk3,hadj3,hrt3,hri3⟩:=HQ3.out;have hne3:rt3 (v+1)≠rt3 (u+1):=fun e=>HRt.out ((hrt3 _ _).1 e);have hin:=hE4.trees _ (List.mem_cons_self) ⟨v+1,by simp[BT.nodes],hne3⟩;obtain⟨R5,hR5⟩:=eX hin;have hlf:=hE4.lf.perm ((List.Perm.cons _ hR5).trans (List.Perm.swap _ _ _));obtain⟨⟨par', d', rt', a1,a2⟩,a3,a4,a5,a6⟩:=hlf.link (a:=v+1) rfl (by omega) hri3 (fun e=>hne3 (by rw[hri3,e]));exact⟨⟨par', d', rt', _,a1,fun x y=>by rw[a2,hadj3]⟩,fun x=>by rw[a3,hE4.key,hk3],a4,a5,a6⟩
        have Key:=qB key;clear key hE4;have d4:=hL4.hd.cell 1;simp only[zS,zT]at d4;have hfz4:=hL4.nodes.frozen;have a2:=hL4.nodes.c2 (v+1) (by omega);obtain⟨hL5,hF5⟩:=hL4.st2 (Fr.refl [g] w4) (i:=v+1) (by omega) (u+1);have hL5' :aC (w4.setCell ⟨g,(v+1)*9+2,none⟩ (.int .i64 ((u:Int)+1))) pf g (n+1) cap2 (aDM τ4 (v+1) (u+1)) ((n:Int)-nc n E):=hL5;have hF5' :Fr [g] w4 (w4.setCell ⟨g,(v+1)*9+2,none⟩ (.int .i64 ((u:Int)+1))):=hF5;have HL5:=qB hL5'; clear hL5 hL5' hF5;have hv2:((v+1:Nat):Int)<((n+1:Nat):Int):=by omega
        have hu2:((u+1:Nat):Int)<((n+1:Nat):Int):=by omega
        go_wp2
        generalize w4.setCell ⟨g,(v+1)*9+2,none⟩ (.int .i64 ((u:Int)+1))=w5 at *;have hL5:=HL5.out;clear HL5 d4 hfz4 a2;have d5:=hL5.hd.cell 1;simp only[zS,zT]at d5;have hfz5:=hL5.nodes.frozen;have b7:=hL5.nodes.c7 (u+1) (by omega);have b8:=hL5.nodes.c8 (v+1) (by omega);have hwu:IntKind.i64.wrap ((u:Int)+1)=(u:Int)+1:=zP _ (by omega);have hwv:IntKind.i64.wrap ((v:Int)+1)=(v:Int)+1:=zP _ (by omega);have htu:((u:Int)+1).toNat=u+1:=by omega
        have htv:((v:Int)+1).toNat=v+1:=by omega
        have hcu:0<=(u:Int)+1:=by omega
        have hcv:0<=(v:Int)+1:=by omega
        have hcu2:(u:Int)+1<(n:Int)+1:=by omega
        have hcv2:(v:Int)+1<(n:Int)+1:=by omega
        refine bA 21 (fun w' =>aC w' pf g (n+1) cap2 (gO τ4 (v+1) (u+1)) ((n:Int)-nc n E)/\Fr [g] w5 w') (by kernel_rfl) (by kernel_rfl) (by kernel_rfl) ?_;iterate 21 (refine bM (by decide) (fun K hK=>?_);go_simp;refine hK _ ?_;clear hK K)
        refine aO rfl undef (fun w' hw' =>?_) ?_
        · obtain ⟨nq, rfl⟩ := hw'
          go_simp;rw[aOB];exact(hL5.eqv (Eqv.drewN w5 nq)).st7 ((Fr.refl [g] w5).drewN nq) (i:=u+1) (by omega) _
        refine bN ?_;rintro w6 ⟨hL6,hF6⟩;clear b7 b8 d5 hfz5;go_wp2_with fail
        refine(nP hL6 u hu Key.out.2.2.2.2 Key.out.2.2.1 Key.out.2.2.2.1).mono ?_;rintro _ w7 ⟨rfl,hL7,hF7⟩;have c7:=hL7.hd.cell 2;simp only[zS,zT]at c7;have hfz7:=hL7.hd.frozen 2;obtain⟨par', d', rt', F', q1,q2⟩:=Key.out.1;have hAE:∀x y,eP E v u x y↔Adj par' (x+1) (y+1):=by
          intro x y;rw[q2];unfold eP;rw[HE2.out x y];simp only[Nat.add_right_cancel_iff]
        have hcnt:=aOQ (n:=n) hfrs.out ⟨par', d', rt', q1.rtd,hAE⟩ HN.out hv hu;have hnc1:=aOP n (eP E v u);have hed:IntKind.i64.wrap ((n:Int)-nc n E+1)=(n:Int)-nc n (eP E v u):=by
          rw[show(n:Int)-nc n E+1=(n:Int)-nc n (eP E v u) by omega];exact zP _ (by omega)
        obtain⟨hL8,hF8⟩:=hL7.edges (hF2.then (hF3.then (hF4.then (hF5'.then (hF6.then hF7))))) ((n:Int)-nc n (eP E v u));have Hfin:=qB (show LM _ pf g n (eP E v u) key from⟨cap2,_,F', par', d', rt', hL8,q1,hAE,fun x hx=>by rw[Key.out.2.1];exact HK2.out x hx⟩);have hnq:nc n E=nc n (eP E v u)+1:=hcnt.symm;rw[hnq]at c7;have hed2:(n:Int)-((nc n (eP E v u)+1:Nat):Int)+1=(n:Int)-nc n (eP E v u):=by omega
        clear hL8 q1 q2 hAE hcnt hnq hed Key;generalize nc n (eP E v u)=z at *;go_wp2
        go_ret;rw[Hlc.out.1,Hlc.out.2];have e:(n:Int)-((z:Int)+1)+1=(n:Int)-z:=by omega
        rw[e];exact⟨rfl,Hfin.out,(hFa.mono (S' :=[pf,g]) (by simp)).trans hF8 (fun q hq=>.inl hq)⟩
  · have hlc:eD n E a b=3:=by
      unfold eD;rw[qH];rintro⟨h1,h2⟩;rcases(show k=0∨k=1 by omega) with rfl|rfl
      · have hbad:inV n a=false:=hbad;rw[h1]at hbad;cases hbad
      · have hbad:inV n b=false:=hbad;rw[h2]at hbad;cases hbad
    have hle:mU n E a b=E:=by unfold mU;rw[hlc];simp
    have Hlc:=qB (zR hlc hle);clear hlc hle hbad;go_wp2
    go_ret;rw[Hlc.out.1,Hlc.out.2];exact⟨rfl,HMa.out,hFa.mono (by simp)⟩
end Go.Proofs.YtgmnemndjjmgkaaGreat
namespace Go.Proofs.YtgmnemndjjmgkaaGreat
open Go.RowKit
theorem new_no(n:Int)(w:World)(h:n<0∨65536<n):
    Calls Tryz.prog 166 #[.int .i64 n] w fun e w' =>e=.returned (.tuple #[.pointer none,.int .i64 2])/\w' =w:=by
 rcases h with h|h
 {
 go_enter Tryz.func166,Tryz.ntmps166
 go_wp2
 go_ret2;exact⟨rfl,rfl⟩}
 {
 have h0:¬n<0:=by omega
 go_enter Tryz.func166,Tryz.ntmps166
 go_wp2
 go_ret2;exact⟨rfl,rfl⟩}
def nd0:Nd:={ k0:=0,k1:=0,up:=0,flip:=false,key:=0,size:=0,first:=0,light:=0,total:=0 }
def ndv:Value:=.agg #[.int .i64 0,.int .i64 0,.int .i64 0,.bool false,.int .i64 0,.int .i64 0,.int .i64 0,.int .i64 0,.int .i64 0]
theorem Tryz.info191:(Tryz.prog.info? 191).map (fun i=>(i.zero,i.size,i.bytes))=some (some ndv,9,72):=by kernel_rfl
theorem yS:ndv.cells=#[.int .i64 0,.int .i64 0,.int .i64 0,.bool false,.int .i64 0,.int .i64 0,.int .i64 0,.int .i64 0,.int .i64 0]:=by kernel_rfl
theorem aGT(N i f:Nat)(hi:i<N)(hf:f<9):(madeCells ndv.cells (N*9))[i*9+f]? =some (fv nd0 f):=by
 rw[yS];unfold madeCells;have hlt:i*9+f<N*9:=by omega
 have:(i*9+f)%9=f:=by omega
 simp only[Array.getElem?_map,Array.getElem?_range,hlt,if_true,Option.map_some];show some (_[(i*9+f)%9]!)=_
 rw[this];match f,hf with
 | 0,_=>rfl
 | 1,_=>rfl
 | 2,_=>rfl
 | 3,_=>rfl
 | 4,_=>rfl
 | 5,_=>rfl
 | 6,_=>rfl
 | 7,_=>rfl
 | 8,_=>rfl
def jB(m:Nat):Array Value:=madeCells ndv.cells (m*9)
theorem vP(n:Nat)(w:World)(hn:n<=1048576):(Instr.makeSlice 192 (.int .i64 n) (.int .i64 n)).run Tryz.prog w=.ok (.slice (some ⟨w.heap.size,0,none⟩) n n) (w.alloc (.cells (jB n) 191)):=by
 obtain⟨i0,hi,hz0,hz1,hz2⟩:=info_parts Tryz.info191;have h:=run_make (P:=Tryz.prog) w 192 191 i0 ndv Tryz.underlying192 hi hz0 .i64 .i64 n n (by omega) (by omega) (by rw[hz2];omega) (by omega);rw[hz1]at h;simp only[zM]at h;exact h
def gB(k:Nat):Tbl:=fun i=>if 0<i/\i<=k then { nd0 with size:=1,first:=i,total:=1 } else nd0
theorem aLC(k:Nat):refresh (gB k) (k+1)=gB (k+1):=by
 have h0:(gB k (k+1)).k0=0/\(gB k (k+1)).k1=0/\gB k (k+1)=nd0:=by {
 have:gB k (k+1)=nd0:=by unfold gB;rw[qH (by omega)]
 rw[this];exact⟨rfl,rfl,rfl⟩};have e:refresh (gB k) (k+1)=dW (gB k) (k+1):=by {
 show aX (aX (dW (gB k) (k+1)) (k+1) (gB k (k+1)).k0) (k+1) (gB k (k+1)).k1=_
 rw[h0.1,h0.2.1];rfl};rw[e];funext i
 unfold dW;by_cases hi:i=k+1
 {
 subst hi;rw[aK,h0.2.2];unfold gB;rw[qI (by omega)];simp[nd0,wrap64]}
 {
 rw[aF hi];unfold gB;by_cases h1:0<i/\i<=k
 · rw[qI h1,qI (by omega)]
 · rw[qH h1,qH (by omega)]}
theorem aOY(k N:Nat)(_hk:k<N):InR N (gB k):=by
 intro i hi;unfold gB;split
 · exact⟨by show 0<N;omega,by show 0<N;omega,by show 0<N;omega,hi⟩
 · exact⟨by show 0<N;omega,by show 0<N;omega,by show 0<N;omega,by show 0<N;omega⟩
theorem bBY(n:Nat)(w:World)(h:n<=65536):
    Calls Tryz.prog 166 #[.int .i64 n] w fun e w' =>∃pf g,e=.returned (.tuple #[.pointer (some ⟨pf,0,none⟩),.int .i64 0])/\LM w' pf g n (fun _ _=>False) (fun _=>0)/\Fr [] w w' /\ w.heap.size<=pf/\w.heap.size<=g:=by
 have hmk:∀W:World,(Instr.makeSlice 192 (.int .i64 ((n:Int)+1)) (.int .i64 ((n:Int)+1))).run Tryz.prog W=.ok (.slice (some ⟨W.heap.size,0,none⟩) (n+1) (n+1)) (W.alloc (.cells (jB (n+1)) 191)):=fun W=>vP (n+1) W (by omega);have h0:¬((n:Int)<0):=by omega
 have h1:¬(65536<(n:Int)):=by omega
 go_enter Tryz.func166,Tryz.ntmps166
 go_wp2
 obtain⟨W0,hW0⟩:∃W0,(w.alloc (.cells (jB (n+1)) 191)).alloc (.cells #[.pointer (some ⟨w.heap.size+1,0,none⟩),.slice (some ⟨w.heap.size,0,none⟩) (n+1) (n+1),.int .i64 0] 194)=W0:=⟨_,rfl⟩;have hL0:aC W0 (w.heap.size+1) w.heap.size (n+1) (n+1) (gB 0) 0:=by {
 subst hW0;refine⟨?_,?_,by omega,by omega,qS _⟩
 {
 have:=Blk.new (w.alloc (.cells (jB (n+1)) 191)) [.pointer (some ⟨w.heap.size+1,0,none⟩),.slice (some ⟨w.heap.size,0,none⟩) (n+1) (n+1),.int .i64 0] 194;rw[World.size_alloc]at this;exact this}
 {
 refine⟨jB (n+1),?_,by simp[jB,size_madeCells],fun i hi f hf=>?_⟩
 · exact(Below.heap_alloc _ _ _ (by simp)).trans (World.alloc_heap_new w _)
 {
 have:gB 0 i=nd0:=by unfold gB;rw[qH (by omega)]
 rw[this];exact aGT (n+1) i f hi hf}}};have hF0:Fr [] w W0:=by subst hW0;exact((Fr.refl _ _).alloc _).alloc _
 rw[hW0];clear hW0 hmk;go_loopw [22] (fun x wr=>∃k:Nat,k<=n/\x=.int .i64 k/\aC wr (w.heap.size+1) w.heap.size (n+1) (n+1) (gB k) 0/\Fr [] w wr) (fun x _=>n-(intOf x).toNat)
 case atStart=>exact⟨0,zB _,rfl,hL0,hF0⟩
 case round=>
  clear hL0 hF0;obtain⟨k,hk,rfl,hL,hF⟩:=hrel;by_cases hlt:k<n
  {
  have hz:gB k (k+1)=nd0:=by unfold gB;rw[qH (by omega)]
  have HQ:=qB (show(gB k (k+1)).k0≠k+1/\(gB k (k+1)).k1≠k+1 by rw[hz];simp[nd0]);clear hz;go_wp2_with fail
  refine(nP hL k hlt (aOY k (n+1) (by omega)) HQ.out.1 HQ.out.2).mono ?_;rintro _ w2 ⟨rfl,hL2,hF2⟩;rw[aLC]at hL2;go_wp2
  exact⟨⟨k+1,by omega,by go_num,hL2,hF.trans hF2 (fun b hb=>.inr (by simp at hb;omega))⟩,by simp[intOf];omega⟩}
  {
  obtain rfl:k=n:=by omega
  go_wp2
  go_ret2;have hv:∀x,0<x->x<k+1->gB k x={ nd0 with size:=1,first:=x,total:=1 }:=fun x h1 h2=>by unfold gB;rw[qI (by omega)]
  have h00:gB k 0=nd0:=by unfold gB;rw[qH (by omega)]
  have hlf:=LF.new k (gB k) (by rw[h00];simp[nd0]) (fun x h1 h2=>by rw[hv x h1 h2];simp[nd0]);refine⟨w.heap.size+1,w.heap.size,rfl,⟨k+1,gB k,_,_,_,_,?_,hlf,fun v u=>?_,fun v hv' =>?_⟩,hF,by omega,qS _⟩
  · rw[aTL];simpa using hL
  · simp[Adj]
  · rw[hv (v+1) (by omega) (by omega)];rfl}
end Go.Proofs.YtgmnemndjjmgkaaGreat
namespace Go.Proofs.YtgmnemndjjmgkaaGreat
open Go.RowKit Classical
noncomputable def vQ(n:Nat)(E:Nat->Nat->Prop)(a b:Int):Bool:=decide (kO n E a b)
noncomputable def aBL(E:Nat->Nat->Prop)(a b:Nat):List Nat:=if h:bV E a b then Classical.choose h else []
noncomputable def vR(n:Nat)(E:Nat->Nat->Prop)(a b:Int):Int:=if kO n E a b then((aBL E a.toNat b.toNat).length:Int)-1 else -1
section
variable {E:Nat->Nat->Prop} {a b c:Nat}
theorem vS(h:Frs E){p:List Nat}(hp:bS E a b p):aBL E a b=p:=by
 unfold aBL;have hc:bV E a b:=⟨p,hp⟩;rw[dif_pos hc];exact h.unique (Classical.choose_spec hc) hp
theorem aLD{n:Nat}{a b:Int}:vQ n E a b=true↔kO n E a b:=by unfold vQ;exact decide_eq_true_iff
end
section
variable {w:World} {pf g n:Nat} {E:Nat->Nat->Prop} {key:Nat->Int} {ed:Int} (h:LG w pf g n E key ed)
include h
theorem aDS(a b:Int):Calls Tryz.prog 83 #[.pointer (some ⟨pf,0,none⟩),.int .i64 a,.int .i64 b] w fun e w' =>e=.returned (.bool (vQ n E a b))/\LG w' pf g n E key ed/\Fr [g] w w' :=by
 refine(jT h a b).mono ?_;rintro e w' ⟨r,rfl,hr,h2,h3⟩;have:r=vQ n E a b:=by {
 have:=(aLD (n:=n) (E:=E) (a:=a) (b:=b));cases r<;>cases hc:vQ n E a b<;>simp_all};rw[this];exact⟨rfl,h2,h3⟩
theorem aYZ(a b:Int):Calls Tryz.prog 179 #[.pointer (some ⟨pf,0,none⟩),.int .i64 a,.int .i64 b] w fun e w' =>e=.returned (.int .i64 (vR n E a b))/\LG w' pf g n E key ed/\Fr [g] w w' :=by
 have hf:=h.frs;refine(aYW h a b).mono ?_;rintro e w' ⟨x,rfl,hr,h2,h3⟩;refine⟨?_,h2,h3⟩;unfold vR;rcases hr with⟨hn,rfl⟩|⟨v,u,p,rfl,rfl,hv,hu,hp,rfl⟩
 · rw[qH hn]
 {
 have hc:kO n E v u:=⟨by simp[inV];omega,by simp[inV];omega,p,hp⟩;rw[qI hc,zM,zM,vS hf hp]}
end
theorem aDT{n:Nat}{E:Nat->Nat->Prop}(h:Frs E){a b:Nat}(ha:a<n)(hb:b<n){p:List Nat}(hp:bS E a b p):vR n E a b=(p.length:Int)-1:=by
 unfold vR;rw[qI ⟨by simp[inV];omega,by simp[inV];omega,p,hp⟩,zM,zM,vS h hp]
theorem aIM{E:Nat->Nat->Prop}{a b:Nat}(h:bV E a b)(hne:a≠b):∃x,E x b:=by
 obtain⟨p,l,rfl,hw,_,hl⟩:=h;rcases List.eq_nil_or_concat l with rfl|⟨S,x,rfl⟩
 · simp at hl;exact absurd hl hne
 {
 rw[List.concat_eq_append]at *;rw[<-zL,yP]at hl;cases hl;rcases List.eq_nil_or_concat S with rfl|⟨S', y,rfl⟩
 · exact⟨a,hw.1⟩
 {
 rw[List.concat_eq_append,List.append_assoc]at hw;exact⟨y,(aKZ.1 hw).2.1⟩}}
theorem pX{n:Nat}{E:Nat->Nat->Prop}{a b:Nat}(ha:a<n)(hb:b<n)(hne:a≠b)(hc:¬bV E a b):eD n E a b=0:=by
 unfold eD;rw[qI ⟨by simp[inV];omega,by simp[inV];omega⟩,qH (by omega),zM,zM,qH hc]
theorem aLE{n:Nat}{E:Nat->Nat->Prop}{a b:Nat}(ha:a<n)(hb:b<n)(hne:a≠b)(hc:¬bV E a b):mU n E a b=eP E a b:=by
 unfold mU;rw[pX ha hb hne hc];simp
theorem aTR{w:World}{pf g n:Nat}{E:Nat->Nat->Prop}{key:Nat->Int}(h:LM w pf g n E key)(a b:Nat)(ha:a<n)(hb:b<n)(hne:a≠b)(hc:¬bV E a b):
    Calls Tryz.prog 197 #[.pointer (some ⟨pf,0,none⟩),.int .i64 a,.int .i64 b] w fun e w' =>e=.returned (.int .i64 0)/\LM w' pf g n (eP E a b) key/\Fr [pf,g] w w' :=by
 have:=aYY h a b;rw[pX ha hb hne hc,aLE ha hb hne hc]at this;exact this
noncomputable def iC(n:Nat)(E:Nat->Nat->Prop)(a b:Int):Int:=
  if inV n a=true/\inV n b=true then(if E a.toNat b.toNat then 0 else 5) else 3
noncomputable def aBM(n:Nat)(E:Nat->Nat->Prop)(a b:Int):Nat->Nat->Prop:=if iC n E a b=0 then jX E a.toNat b.toNat else E
theorem aOZ{n:Nat}{E:Nat->Nat->Prop}(h:Frs E){v u:Nat}(hv:v<n)(hu:u<n):vR n E v u=1↔E v u:=by
 constructor
 {
 intro e;by_cases hc:kO n E v u
 {
 obtain⟨_,_,p,hp⟩:=hc;simp only[zM]at hp;rw[aDT h hv hu hp]at e;obtain⟨l,rfl,hw,_,hl⟩:=hp;have hlen:l.length=1:=by simp at e;omega
 match l,hlen with
 | [x],_=>{
 simp at hl;subst hl;exact hw.1}}
 · unfold vR at e;rw[qH hc]at e;cases e}
 {
 intro e;rw[aDT h hv hu (h.edge e)];rfl}
theorem bBZ{w:World}{pf g n:Nat}{E:Nat->Nat->Prop}{key:Nat->Int}(h:LM w pf g n E key)(a b:Int):
    Calls Tryz.prog 138 #[.pointer (some ⟨pf,0,none⟩),.int .i64 a,.int .i64 b] w fun e w' =>e=.returned (.int .i64 (iC n E a b))/\LM w' pf g n (aBM n E a b) key/\Fr [pf,g] w w' :=by
 have H:=qB h;have hfrs:=qB (LG.frs h);obtain⟨hp1,hg1,hn1⟩:=LG.lts h;obtain⟨cap,σ,F,par,d,rt,hL,hF,hE,hk⟩:=h;clear hF hE hk;have hLa:aC (w.alloc (.cells #[.int .i64 a,.int .i64 b] 3)) pf g (n+1) cap σ ((n:Int)-nc n E):=hL.below ((Below.refl _ w).alloc (qS _) _) hp1 hg1;have hblk:=Blk.new w [.int .i64 a,.int .i64 b] 3;have hFa:Fr [] w (w.alloc (.cells #[.int .i64 a,.int .i64 b] 3)):=(Fr.refl _ _).alloc _;have HMa:=qB (LG.fr H.out hFa (by simp) (by simp));have hCk:=aBK hLa w.heap.size 2 (fun k=>if k=0 then a else b) (by decide) (fun k hk=>by
   rw[hblk.cell];rcases(show k=0∨k=1 by omega) with rfl|rfl<;>rfl)
 have HCk:=qB hCk;clear hCk hblk;clear hLa hL;go_enter Tryz.func138,Tryz.ntmps138
 go_wp2_with fail
 refine HCk.out.mono ?_;rintro _ w1 ⟨hcode,rfl⟩;clear HCk;generalize w.alloc (.cells #[.int .i64 a,.int .i64 b] 3)=w1 at *;rcases hcode with⟨rfl,hall⟩|⟨rfl,k,hk,hbad⟩
 {
 have va:inV n a=true:=hall 0 (by decide);have vb:inV n b=true:=hall 1 (by decide);clear hall;obtain⟨v,rfl,hv⟩:=cL va;obtain⟨u,rfl,hu⟩:=cL vb;have hd1:=aOZ (n:=n) hfrs.out hv hu;go_wp2_with fail
 refine(aYZ HMa.out (v:Int) (u:Int)).mono ?_;rintro _ w2 ⟨rfl,hM2,hF2⟩;by_cases he:E v u
 {
 have hlc:iC n E v u=0:=by unfold iC;rw[qI ⟨va,vb⟩,zM,zM,qI he]
 have hle:aBM n E v u=jX E v u:=by unfold aBM;rw[hlc,qI rfl,zM,zM]
 have Hlc:=qB (zR hlc hle);clear hlc hle;have Hd:=qB (hd1.2 he);rw[Hd.out];have He:=qB he;clear va vb hd1;obtain⟨cap2,σ2,F2,par2,d2,rt2,hL2,hLF2,hE2,hk2⟩:=hM2;have hrt:rt2 (v+1)=rt2 (u+1):=(gJ hLF2.rtd hE2).1 (dC hfrs.out he);have HF2:=qB hLF2;clear hLF2;have HE2:=qB hE2;clear hE2;have HK2:=qB hk2;clear hk2;clear he;have hN:=hL2.le;go_wp2_with fail
 refine(aGS hL2 HF2.out v u hv hu).mono ?_;rintro _ w3 ⟨rfl,τ,l,R,par', d', rt', hL3,hP,hF3⟩;obtain⟨p,hp1', hp2', _⟩:=hP.at HE2.out hrt;have hpe:p=[v,u]:=hfrs.out.unique hp1' (hfrs.out.edge He.out);have hls:l.seq=[v+1]:=by {
 rw[hpe]at hp2';simp only[List.map_cons,List.map_nil]at hp2';have e:[v+1]++[u+1]=l.seq++[u+1]:=hp2';exact(List.append_cancel_right e).symm};have HCt:=qB (hP.lf.cut hls);have HPk:=qB (zR hP.key hP.adj);clear hP hp1' hp2' hpe hls hrt;have d3:=hL3.hd.cell 1;simp only[zS,zT]at d3;have hfz3:=hL3.nodes.frozen;have a2:=hL3.nodes.c2 (v+1) (by omega);obtain⟨hL4,hF4⟩:aC (w3.setCell ⟨g,(v+1)*9+2,none⟩ (.int .i64 0)) pf g (n+1) cap2 (τ.upd (v+1) { τ (v+1) with up:=0 }) ((n:Int)-nc n E)/\Fr [g] w3 (w3.setCell ⟨g,(v+1)*9+2,none⟩ (.int .i64 0)):=hL3.st2 (Fr.refl [g] w3) (i:=v+1) (by omega) 0;have hv2:((v+1:Nat):Int)<((n+1:Nat):Int):=by omega
 have hu2:((u+1:Nat):Int)<((n+1:Nat):Int):=by omega
 have d4:=hL4.hd.cell 1;simp only[zS,zT]at d4;have hfz4:=hL4.nodes.frozen;have b0:=hL4.nodes.c0 (u+1) (by omega);obtain⟨hL5,hF5⟩:=hL4.st0 hF4 (i:=u+1) (by omega) 0;have HL5:Hid (aC ((w3.setCell ⟨g,(v+1)*9+2,none⟩ (.int .i64 0)).setCell ⟨g,(u+1)*9,none⟩ (.int .i64 0)) pf g (n+1) cap2 (jO τ (v+1) (u+1)) ((n:Int)-nc n E)/\Fr [g] w3 ((w3.setCell ⟨g,(v+1)*9+2,none⟩ (.int .i64 0)).setCell ⟨g,(u+1)*9,none⟩ (.int .i64 0))):=qB (zR hL5 hF5);clear hL5 hF5 hL4 hF4;go_wp2_with fail
 refine(nP HL5.out.1 u hu HCt.out.2.2.2.2 HCt.out.2.2.1 HCt.out.2.2.2.1).mono ?_;rintro _ w6 ⟨rfl,hL6,hF6⟩;have hF36:Fr [g] w3 w6:=HL5.out.2.then hF6;clear HL5 d3 hfz3 a2 d4 hfz4 b0;have c6:=hL6.hd.cell 2;simp only[zS,zT]at c6;have hfz6:=hL6.hd.frozen 2;obtain⟨par3,d3', rt3,F3,q1,q2⟩:=HCt.out.1;have hDE:∀x y,jX E v u x y↔Adj par3 (x+1) (y+1):=by {
 intro x y;rw[q2,HPk.out.2];unfold jX;rw[HE2.out x y];simp only[Nat.add_right_cancel_iff]};have hcnt:=aYS (n:=n) hfrs.out ⟨par3,d3', rt3,q1.rtd,hDE⟩ He.out hv hu;have hnc1:=aOP n (jX E v u);obtain⟨hL8,hF8⟩:=hL6.edges (hF2.then (hF3.then hF36)) ((n:Int)-nc n (jX E v u));have Hfin:=qB (show LM _ pf g n (jX E v u) key from⟨cap2,_,F3,par3,d3', rt3,hL8,q1,hDE,fun x hx=>by rw[HCt.out.2.1,HPk.out.1];exact HK2.out x hx⟩);have he2:(n:Int)-nc n E-1=(n:Int)-nc n (jX E v u):=by omega
 have He2:=qB he2;clear hL8 q1 q2 hDE hcnt he2 HCt;have hncE:=aOP n E;generalize nc n E=z1 at *;generalize nc n (jX E v u)=z2 at *;go_wp2
 go_ret;rw[Hlc.out.1,Hlc.out.2,He2.out];exact⟨rfl,Hfin.out,(hFa.mono (S' :=[pf,g]) (by simp)).trans hF8 (fun q hq=>.inl hq)⟩}
 {
 have hlc:iC n E v u=5:=by unfold iC;rw[qI ⟨va,vb⟩,zM,zM,qH he]
 have hle:aBM n E v u=E:=by unfold aBM;rw[hlc];simp
 have Hlc:=qB (zR hlc hle);clear hlc hle;have hne:(vR n E v u != 1)=true:=bne_iff_ne.2 (fun e=>he (hd1.1 e));have HM2:=qB hM2;clear va vb hd1 he hM2;go_wp2
 go_ret;rw[Hlc.out.1,Hlc.out.2];exact⟨rfl,HM2.out,(hFa.mono (S' :=[pf,g]) (by simp)).trans hF2 (fun q hq=>.inl (by simp at hq;simp[hq]))⟩}}
 {
 have hlc:iC n E a b=3:=by {
 unfold iC;rw[qH];rintro⟨h1,h2⟩;rcases(show k=0∨k=1 by omega) with rfl|rfl
 · have hbad:inV n a=false:=hbad;rw[h1]at hbad;cases hbad
 · have hbad:inV n b=false:=hbad;rw[h2]at hbad;cases hbad};have hle:aBM n E a b=E:=by unfold aBM;rw[hlc];simp
 have Hlc:=qB (zR hlc hle);clear hlc hle hbad;go_wp2
 go_ret;rw[Hlc.out.1,Hlc.out.2];exact⟨rfl,HMa.out,hFa.mono (by simp)⟩}
end Go.Proofs.YtgmnemndjjmgkaaGreat
namespace Go.Proofs.YtgmnemndjjmgkaaGreat
open Classical
def TE(S:Nat)(G:bG)(T:Nat->Prop)(v u:Nat):Prop:=
  ∃s a b x,G s=some (a,b,x)/\T s/\((v=s/\(u=S+a∨u=S+b))∨(u=s/\(v=S+a∨v=S+b)))
section
variable {S:Nat} {G:bG} {T W:Nat->Prop} {a b:Nat} {p:List Nat}
theorem aTS{v u:Nat}(h:TE S G T v u):TE S G T u v:=by
 obtain⟨s,a,b,x,h1,h2,h3⟩:=h;exact⟨s,a,b,x,h1,h2,h3.symm⟩
theorem aBN{T' :Nat->Prop}(ht:∀s,T s->T' s){v u:Nat}(h:TE S G T v u):TE S G T' v u:=by
 obtain⟨s,a,b,x,h1,h2,h3⟩:=h;exact⟨s,a,b,x,h1,ht s h2,h3⟩
theorem aDU(hS:∀s e,G s=some e->s<S):∀{l:List Nat} {v:Nat},Wk (TE S G T) v l->(∀y∈v::l,y<S->W y) ->
    ((S<=v->Cx G (fun t=>T t/\W t) a (v-S))/\(v<S->∃c d x,G v=some (c,d,x)/\Cx G (fun t=>T t/\W t) a c/\Cx G (fun t=>T t/\W t) a d)) ->
    ∀y∈v::l,(S<=y->Cx G (fun t=>T t/\W t) a (y-S))/\(y<S->∃c d x,G y=some (c,d,x)/\Cx G (fun t=>T t/\W t) a c/\Cx G (fun t=>T t/\W t) a d)
  | [],v,_,_,hv,y,hy=>by simp at hy;subst hy;exact hv
  | z::l,v,⟨h1,h2⟩,hW,hv,y,hy=>by
    rcases qF.1 hy with rfl|hy
    · exact hv
    refine aDU hS h2 (fun y hy=>hW y (by simp at hy ⊢;exact .inr hy)) ?_ y hy;obtain⟨s,c,d,x,hg,ht,h3⟩:=h1;have hs:=hS s _ hg;rcases h3 with⟨rfl,h3⟩|⟨rfl,h3⟩
    · obtain ⟨c', d', x', hg', h4, h5⟩ := hv.2 hs
      rw[hg]at hg'; simp only[qQ,zN]at hg';obtain⟨rfl,rfl,rfl⟩:=hg';rcases h3 with rfl|rfl
      · exact⟨fun _=>by rw[Nat.add_sub_cancel_left];exact h4,fun e=>by omega⟩
      · exact⟨fun _=>by rw[Nat.add_sub_cancel_left];exact h5,fun e=>by omega⟩
    · have hw := hW z (by simp) hs
      have ed:Cx G (fun t=>T t/\W t) c d:=Cx.edge (s:=z) ⟨ht,hw⟩ hg;refine⟨fun e=>by omega,fun _=>⟨c,d,x,hg,?_⟩⟩;rcases h3 with rfl|rfl
      · have h4 := hv.1 (by omega)
        rw[Nat.add_sub_cancel_left]at h4;exact⟨h4,h4.trans ed⟩
      · have h4 := hv.1 (by omega)
        rw[Nat.add_sub_cancel_left]at h4;exact⟨h4.trans ed.symm,h4⟩
theorem aIN(hS:∀s e,G s=some e->s<S)(hp:bS (TE S G T) (S+a) (S+b) p)(hW:∀y∈p,y<S->W y):Cx G (fun t=>T t/\W t) a b:=by
 obtain⟨l,rfl,h2,_,h4⟩:=hp;have hb:S+b∈(S+a)::l:=List.mem_of_getLast? h4;have:=(aDU hS h2 hW ⟨fun _=>by rw[Nat.add_sub_cancel_left];exact .refl a,fun e=>by omega⟩ _ hb).1 (by omega);rw[Nat.add_sub_cancel_left]at this;exact this
theorem vT(_hS:∀s e,G s=some e->s<S)(hp:bS (TE S G T) (S+a) (S+b) p){m:Nat}(hm:m∈p)(hms:m<S):∃c d x,G m=some (c,d,x)/\T m:=by
 obtain⟨l,rfl,h2,_,h4⟩:=hp;have key:∀{l:List Nat} {v:Nat},Wk (TE S G T) v l->m∈l->∃c d x,G m=some (c,d,x)/\T m:=by {
 intro l;induction l with
 | nil=>intro v _ h;simp at h
 | cons z l ih=>{
 intro v ⟨h1,h2⟩ hm;rcases qF.1 hm with rfl|hm
 {
 obtain⟨s,c,d,x,hg,ht,h3⟩:=h1;rcases h3 with⟨_,h3⟩|⟨rfl,_⟩
 · omega
 · exact⟨c,d,x,hg,ht⟩}
 · exact ih h2 hm}};rcases qF.1 hm with rfl|hm
 · omega
 · exact key h2 hm
theorem aZA(hp:bS (TE S G T) (S+a) (S+b) p)(hS:∀s e,G s=some e->s<S)(hab:a≠b):∃s,s∈p/\s<S:=by
 obtain⟨l,rfl,h2,_,h4⟩:=hp;cases l with
 | nil=>simp at h4;exact absurd h4 hab
 | cons z l=>{
 refine⟨z,by simp,?_⟩;obtain⟨s,c,d,x,hg,_,h3⟩:=h2.1;have:=hS s _ hg;rcases h3 with⟨h3,_⟩|⟨rfl,_⟩
 · omega
 · exact this}
theorem tU(hf:Frs (TE S G T))(h:Cx G T a b):bV (TE S G T) (S+a) (S+b):=by
 induction h with
 | refl=>exact bV.refl _ _
 | @step c d s x _ h1 h2 ih=>{
 refine hf.ctrans ih ?_;rcases h2 with h2|h2
 · exact hf.ctrans (dC hf ⟨s,c,d,x,h2,h1,.inr ⟨rfl,.inl rfl⟩⟩) (dC hf ⟨s,c,d,x,h2,h1,.inl ⟨rfl,.inr rfl⟩⟩)
 · exact hf.ctrans (dC hf ⟨s,d,c,x,h2,h1,.inr ⟨rfl,.inr rfl⟩⟩) (dC hf ⟨s,d,c,x,h2,h1,.inl ⟨rfl,.inl rfl⟩⟩)}
theorem vU(hS:∀s e,G s=some e->s<S)(hf:Frs (TE S G T)):bV (TE S G T) (S+a) (S+b)↔Cx G T a b:=
  ⟨fun⟨_,hp⟩=>(aIN (W:=fun _=>True) hS hp (fun _ _ _=>trivial)).mono (fun _ _ h _=>h.1),tU hf⟩
theorem aPA(hf:Frs (TE S G T)){m:Nat}(hf' :Frs (TE S G (fun t=>T t/\t≠m)))(hp:bS (TE S G T) (S+a) (S+b) p)(hm:m∈p)(hms:m<S):¬Cx G (fun t=>T t/\t≠m) a b:=by
 intro h;obtain⟨q,hq⟩:=tU hf' h;have e:=hf.unique hp (hq.mono (fun x y=>aBN (fun s h=>h.1)));rw[e]at hm;obtain⟨l,rfl,h2,_,_⟩:=hq;have key:∀{l:List Nat} {v:Nat},Wk (TE S G (fun t=>T t/\t≠m)) v l->m∈l->False:=by {
 intro l;induction l with
 | nil=>intro v _ h;simp at h
 | cons z l ih=>{
 intro v ⟨h1,h2⟩ hm;rcases qF.1 hm with rfl|hm
 {
 obtain⟨s,c,d,x,hg,ht,h3⟩:=h1;rcases h3 with⟨_,h3⟩|⟨rfl,_⟩
 · omega
 · exact ht.2 rfl}
 · exact ih h2 hm}};rcases qF.1 hm with rfl|hm
 · omega
 · exact key h2 hm
theorem aZB{s:Nat}{x:Int}(hg:G s=some (a,b,x)):eP (eP (TE S G T) s (S+a)) s (S+b)=TE S G (fun t=>T t∨t=s):=by
 refine yQ fun v u=>?_;unfold eP;constructor
 {
 rintro((h|⟨rfl,rfl⟩|⟨rfl,rfl⟩)|⟨rfl,rfl⟩|⟨rfl,rfl⟩)
 · exact aBN (fun _=>.inl) h
 · exact⟨v,a,b,x,hg,.inr rfl,.inl ⟨rfl,.inl rfl⟩⟩
 · exact⟨u,a,b,x,hg,.inr rfl,.inr ⟨rfl,.inl rfl⟩⟩
 · exact⟨v,a,b,x,hg,.inr rfl,.inl ⟨rfl,.inr rfl⟩⟩
 · exact⟨u,a,b,x,hg,.inr rfl,.inr ⟨rfl,.inr rfl⟩⟩}
 {
 rintro⟨t,c,d,y,h1,h2|rfl,h3⟩
 · exact .inl (.inl ⟨t,c,d,y,h1,h2,h3⟩)
 {
 rw[hg]at h1;simp only[qQ,zN]at h1;obtain⟨rfl,rfl,rfl⟩:=h1;rcases h3 with⟨rfl,rfl|rfl⟩|⟨rfl,rfl|rfl⟩<;>simp}}
theorem aZC(hS:∀s e,G s=some e->s<S){s:Nat}{x:Int}(hg:G s=some (a,b,x)):jX (jX (TE S G T) s (S+a)) s (S+b)=TE S G (fun t=>T t/\t≠s):=by
 have hs:=hS s _ hg;refine yQ fun v u=>?_;unfold jX;constructor
 {
 rintro⟨⟨⟨t,c,d,y,h1,h2,h3⟩,n1,n2⟩,n3,n4⟩;refine⟨t,c,d,y,h1,⟨h2,?_⟩,h3⟩;rintro rfl;rw[hg]at h1;simp only[qQ,zN]at h1;obtain⟨rfl,rfl,rfl⟩:=h1;rcases h3 with⟨rfl,rfl|rfl⟩|⟨rfl,rfl|rfl⟩
 · exact n1 ⟨rfl,rfl⟩
 · exact n3 ⟨rfl,rfl⟩
 · exact n2 ⟨rfl,rfl⟩
 · exact n4 ⟨rfl,rfl⟩}
 {
 rintro⟨t,c,d,y,h1,⟨h2,hne⟩,h3⟩;have ht:=hS t _ h1;exact⟨⟨⟨t,c,d,y,h1,h2,h3⟩,by omega,by omega⟩,by omega,by omega⟩}
theorem vV{G' :bG}{T' :Nat->Prop}(h1:∀s,T s↔T' s)(h2:∀s,T s->G s=G' s):TE S G T=TE S G' T' :=by
 refine yQ fun v u=>?_;constructor
 {
 rintro⟨t,c,d,y,e1,e2,e3⟩;exact⟨t,c,d,y,by rw[<-h2 t e2];exact e1,(h1 t).1 e2,e3⟩}
 {
 rintro⟨t,c,d,y,e1,e2,e3⟩;have:=(h1 t).2 e2;exact⟨t,c,d,y,by rw[h2 t this];exact e1,this,e3⟩}
theorem aZD{s v:Nat}(hT:¬T s)(hs:s<S):¬TE S G T v s:=by
 rintro⟨t,c,d,y,h1,h2,⟨_,h3⟩|⟨rfl,_⟩⟩
 · omega
 · exact hT h2
theorem aDV{s v:Nat}(hT:¬T s)(hs:s<S)(hv:v≠s)(hf:Frs (TE S G T)):¬bV (TE S G T) s v:=by
 intro h;obtain⟨x,hx⟩:=aIM (hf.csymm h) (fun e=>hv e);exact aZD hT hs hx
theorem aTT:TE S (fun _=>none) T=fun _ _=>False:=by
 refine yQ fun v u=>?_;simp[TE]
end
structure GW (S V:Nat) (G:bG):Prop where
  slot:∀s e,G s=some e->s<S
  ends : ∀ s a b x, G s = some (a, b, x) -> a < V /\ b < V /\ a ≠ b
  rng:∀s a b x,G s=some (a,b,x)-> -9223372036854775808<=x/\x<=9223372036854775807
structure aXS (S V:Nat) (G:bG) (T:Nat->Prop) (key:Nat->Int):Prop where
  slot:∀s a b x,G s=some (a,b,x)->T s->key s=x
  vert:∀v,v<V->key (S+v)=9223372036854775807
section
variable {S V:Nat} {G:bG} {a b m:Nat} {p:List Nat} {key:Nat->Int}
theorem GW.no(S V:Nat):GW S V (fun _=>none):=⟨fun _ _ h=>(by cases h),fun _ _ _ _ h=>(by cases h),fun _ _ _ _ h=>(by cases h)⟩
theorem GW.put(h:GW S V G){s:Nat}{x:Int}(hs:s<S)(ha:a<V)(hb:b<V)(hab:a≠b)(hx:-9223372036854775808<=x/\x<=9223372036854775807):GW S V (bW G s (some (a,b,x))):=by
 have key:∀t e,bW G s (some (a,b,x)) t=some e->(t=s/\e=(a,b,x))∨G t=some e:=by {
 intro t e ht;by_cases h1:t=s
 · subst h1;rw[bE]at ht;cases ht;exact .inl ⟨rfl,rfl⟩
 · rw[aG h1]at ht;exact .inr ht};refine⟨fun t e ht=>?_,fun t c d y ht=>?_,fun t c d y ht=>?_⟩
 {
 rcases key _ _ ht with⟨rfl,_⟩|h1
 · exact hs
 · exact h.slot _ _ h1}
 {
 rcases key _ _ ht with⟨rfl,e⟩|h1
 · cases e;exact⟨ha,hb,hab⟩
 · exact h.ends _ _ _ _ h1}
 {
 rcases key _ _ ht with⟨rfl,e⟩|h1
 · cases e;exact hx
 · exact h.rng _ _ _ _ h1}
theorem GW.del(h:GW S V G)(s:Nat):GW S V (bW G s none):=by
 have key:∀t e,bW G s none t=some e->G t=some e:=by {
 intro t e ht;by_cases h1:t=s
 · subst h1;rw[bE]at ht;cases ht
 · rw[aG h1]at ht;exact ht};exact⟨fun t e ht=>h.slot _ _ (key _ _ ht),fun t c d y ht=>h.ends _ _ _ _ (key _ _ ht),fun t c d y ht=>h.rng _ _ _ _ (key _ _ ht)⟩
theorem vW(h:GW S V G)(hk:aXS S V G (aA G) key)(hp:bS (TE S G (aA G)) (S+a) (S+b) p)(hab:a≠b)(hf:tT key p m)(hn:∀x∈p,x<S+V):
    ∃ma mb y,m<S/\G m=some (ma,mb,y)/\aA G m/\Cx G (fun t=>aA G t/\(t=m∨Aft G m y t)) a b:=by
 have hms:m<S:=by {
 apply qZ;intro hms;obtain⟨s,hs,hsS⟩:=aZA hp h.slot hab;obtain⟨c,d,x,hg,ht⟩:=vT h.slot hp hs hsS;have h1:=hk.slot s c d x hg ht;have h2:=hk.vert (m-S) (by have:=hn m hf.1;omega);rw[show S+(m-S)=m by omega]at h2;have h3:=h.rng s c d x hg;rcases hf.2 s hs (by omega) with e|⟨_,e⟩<;>omega};obtain⟨ma,mb,y,hg,ht⟩:=vT h.slot hp hf.1 hms;refine⟨ma,mb,y,hms,hg,ht,aIN h.slot hp fun t htp htS=>?_⟩;by_cases e:t=m
 · exact .inl e
 obtain⟨c,d,x,hg', ht'⟩:=vT h.slot hp htp htS;have h1:=hk.slot t c d x hg' ht';have h2:=hk.slot m ma mb y hg ht;refine .inr ⟨c,d,x,hg', ?_⟩;rw[<-h1,<-h2];rcases hf.2 t htp e with e1|⟨e1,e2⟩
 · exact .inl e1
 · exact .inr ⟨e1,e2⟩
end
noncomputable def bL(S:Nat)(T:Nat->Prop):Nat:=((List.range S).filter fun s=>decide (T s)).length
theorem nQ(S:Nat)(T:Nat->Prop):bL S T<=S:=by
 unfold bL;have:=List.length_filter_le (fun s=>decide (T s)) (List.range S);simpa using this
theorem bX{S:Nat}{T T' :Nat->Prop}(h:∀s,T s↔T' s):bL S T=bL S T' :=by
 have:T=T' :=funext fun s=>propext (h s);rw[this]
theorem pY{S:Nat}{T T' :Nat->Prop}{m:Nat}(hm:m<S)(ht:T m)(hn:¬T' m)(h:∀x,x≠m->(T' x↔T x)):bL S T' + 1=bL S T:=by
 unfold bL;exact iL (P:=fun s=>decide (T s)) (P' :=fun s=>decide (T' s)) (m:=m) List.nodup_range (List.mem_range.2 hm) (by simp[ht]) (by simp[hn]) (fun x _ hx=>by simp[h x hx])
theorem gW{S:Nat}{T:Nat->Prop}{m:Nat}(hm:m<S)(ht:T m):bL S (fun t=>T t/\t≠m)+1=bL S T:=
  pY hm ht (fun h=>h.2 rfl) (fun _ hx=>⟨fun h=>h.1,fun h=>⟨h,hx⟩⟩)
theorem aDW{S:Nat}{T:Nat->Prop}{m:Nat}(hm:m<S)(ht:¬T m):bL S (fun t=>T t∨t=m)=bL S T+1:=by
 have:=gW (T:=fun t=>T t∨t=m) hm (.inr rfl);rw[<-this,bX (T:=fun t=>(T t∨t=m)/\t≠m) (T' :=T)];intro s;constructor
 {
 rintro⟨h|h,h2⟩
 · exact h
 · exact absurd h h2}
 {
 intro h;exact⟨.inl h,by rintro rfl;exact ht h⟩}
theorem jC(S:Nat):bL S (fun _=>False)=0:=by simp[bL]
def vX(G:bG)(T:Nat->Prop):Prop:=∀m c d x,T m->G m=some (c,d,x)->¬Cx G (fun t=>T t/\t≠m) c d
section
variable {S V:Nat} {G:bG} {T T' U:Nat->Prop} {a b c d m:Nat} {x y:Int}
theorem vX.sub(h:vX G T)(hs:∀t,T' t->T t):vX G T' :=fun m c d x h1 h2 h3=>
  h m c d x (hs m h1) h2 (h3.mono fun t _ ht _=>⟨hs t ht.1,ht.2⟩)
theorem aLF{P Q:Nat->Prop}(S:Nat)(h:∀s,P s->Q s):bL S P<=bL S Q:=by
 unfold bL;generalize List.range S=l;induction l with
 | nil=>simp
 | cons v l ih=>{
 by_cases h1:P v
 {
 have h2:=h v h1;simp[h1,h2];exact ih}
 {
 by_cases h2:Q v
 · simp[h1,h2];omega
 · simp[h1,h2];exact ih}}
theorem kP{P:Nat->Prop}{S:Nat}(h:bL S P=0):∀s,s<S->¬P s:=by
 intro s hs hp;unfold bL at h;have h1:s∈(List.range S).filter fun s=>decide (P s):=zJ.2 ⟨List.mem_range.2 hs,by simp[hp]⟩;rw[List.length_eq_zero_iff.1 h]at h1;simp at h1
theorem aDX(hS:∀s e,G s=some e->s<S):∀(k:Nat) (P:Nat->Prop),bL S P<=k->(∀s,P s->∃e,G s=some e)->(∃s,P s)->∃s a b x,P s/\G s=some (a,b,x)/\∀t,P t->t≠s->Aft G s x t:=by
 intro k;induction k with
 | zero=>{
 rintro P hk hg ⟨s,hs⟩;obtain⟨e,he⟩:=hg s hs;exact absurd hs (kP (by omega) s (hS s e he))}
 | succ k ih=>{
 rintro P hk hg ⟨s,hs⟩;obtain⟨⟨a,b,x⟩,he⟩:=hg s hs;by_cases hne:∃t,P t/\t≠s
 {
 have hd:=gW (T:=P) (hS s _ he) hs;obtain⟨u,c,d,y,⟨hu,hus⟩,hgu,hall⟩:=ih (fun t=>P t/\t≠s) (by omega) (fun t ht=>hg t ht.1) hne;by_cases hb:bef x s y u
 {
 refine⟨s,a,b,x,hs,he,fun t ht hts=>?_⟩;by_cases htu:t=u
 · subst htu;exact⟨c,d,y,hgu,hb⟩
 {
 obtain⟨e1,e2,z,h1,h2⟩:=hall t ⟨ht,hts⟩ htu;exact⟨e1,e2,z,h1,fX hb h2⟩}}
 {
 refine⟨u,c,d,y,hu,hgu,fun t ht htu=>?_⟩;by_cases hts:t=s
 · subst hts;exact⟨a,b,x,he,aBF (fun e=>htu e) hb⟩
 · exact hall t ⟨ht,hts⟩ htu}}
 · refine⟨s,a,b,x,hs,he,fun t ht hts=>absurd ⟨t,ht,hts⟩ hne⟩}
theorem aLG(hS:∀s e,G s=some e->s<S):∀(k:Nat) (T:Nat->Prop),bL S T<=k->(∀t,T t->aA G t)->vX G T:=by
 intro k;induction k with
 | zero=>{
 intro T hk hT m c d x hm hg _;exact kP (by omega) m (hS m _ hg) hm}
 | succ k ih=>{
 intro T hk hT m c d x hm hg hc;obtain⟨s,a,b,z,hs,hgs,hall⟩:=aDX hS (k+1) T hk (fun t ht=>by obtain⟨_,_,_,h,_⟩:=hT t ht;exact⟨_,h⟩) ⟨m,hm⟩;have hd:=gW (T:=T) (hS s _ hgs) hs;have I:=ih (fun t=>T t/\t≠s) (by omega) (fun t ht=>hT t ht.1);obtain⟨a', b', z', hgs', hnc⟩:=hT s hs;rw[hgs]at hgs'; simp only[qQ,zN]at hgs';obtain⟨rfl,rfl,rfl⟩:=hgs';have lift:∀{p q:Nat},Cx G (fun t=>T t/\t≠s) p q->Cx G (Aft G s z) p q:=fun h=>h.mono fun t _ ht _=>hall t ht.1 ht.2;by_cases hms:m=s
 {
 subst hms;rw[hg]at hgs;simp only[qQ,zN]at hgs;obtain⟨rfl,rfl,rfl⟩:=hgs;exact hnc (lift hc)}
 {
 have ed:Cx G (fun t=>T t/\t≠s) c d:=Cx.edge (s:=m) ⟨hm,hms⟩ hg;have wk:∀{p q:Nat},Cx G (fun t=>(T t/\t≠s)/\t≠m) p q->Cx G (fun t=>T t/\t≠s) p q:=fun h=>h.mono fun t _ ht _=>ht.1;rcases hc.more (U' :=fun t=>(T t/\t≠s)/\t≠m) (s:=s) (fun u hu=>if e:u=s then .inr e else .inl ⟨⟨hu.1,e⟩,hu.2⟩) hgs with h|⟨h1,h2⟩|⟨h1,h2⟩
 · exact I m c d x ⟨hm,hms⟩ hg h
 · exact hnc (lift (((wk h1).symm.trans ed).trans (wk h2).symm))
 · exact hnc (lift (((wk h2).trans ed.symm).trans (wk h1)))}}
theorem vY(hS:∀s e,G s=some e->s<S):vX G (aA G):=aLG hS _ _ (qS _) (fun _ h=>h)
noncomputable def cxs(V:Nat)(G:bG)(T:Nat->Prop)(a:Nat):Nat:=bL V fun v=>Cx G T a v
def aPB(G:bG)(T:Nat->Prop)(a:Nat)(s:Nat):Prop:=T s/\∃c d x,G s=some (c,d,x)/\Cx G T a c
noncomputable def sls(S:Nat)(G:bG)(T:Nat->Prop)(a:Nat):Nat:=bL S (aPB G T a)
theorem sF{P Q R:Nat->Prop}(n:Nat)(h1:∀s,P s↔Q s∨R s)(h2:∀s,¬(Q s/\R s)):bL n P=bL n Q+bL n R:=by
 unfold bL;generalize List.range n=l;induction l with
 | nil=>simp
 | cons v l ih=>{
 by_cases hq:Q v
 {
 have hr:¬R v:=fun h=>h2 v ⟨hq,h⟩;have hp:P v:=(h1 v).2 (.inl hq);simp only[List.filter_cons,hp,hq,hr,decide_true,decide_false,if_true,Bool.false_eq_true,if_false,zI];omega}
 {
 by_cases hr:R v
 {
 have hp:P v:=(h1 v).2 (.inr hr);simp only[List.filter_cons,hp,hq,hr,decide_true,decide_false,if_true,Bool.false_eq_true,if_false,zI];omega}
 {
 have hp:¬P v:=fun h=>((h1 v).1 h).elim hq hr;simp only[List.filter_cons,hp,hq,hr,decide_false,Bool.false_eq_true,if_false];exact ih}}}
theorem aIO{n m:Nat}(hm:m<n):bL n (fun s=>s=m)=1:=by
 have:=aDW (S:=n) (T:=fun _=>False) (m:=m) hm (fun h=>h);rw[jC]at this;rw[show bL n (fun s=>s=m)=bL n (fun t=>False∨t=m) from bX fun s=>by simp,this]
theorem aIP(hg:G m=some (c,d,x))(hm:T m)(p q:Nat):Cx G T p q↔Cx G (fun t=>T t/\t≠m) p q∨(Cx G (fun t=>T t/\t≠m) p c/\Cx G (fun t=>T t/\t≠m) d q)∨(Cx G (fun t=>T t/\t≠m) p d/\Cx G (fun t=>T t/\t≠m) c q):=by
 constructor
 {
 intro h;exact h.more (fun u hu=>if e:u=m then .inr e else .inl ⟨hu,e⟩) hg}
 {
 have wk:∀{p q:Nat},Cx G (fun t=>T t/\t≠m) p q->Cx G T p q:=fun h=>h.mono fun t _ ht _=>ht.1;have ed:Cx G T c d:=Cx.edge (s:=m) hm hg;rintro(h|⟨h1,h2⟩|⟨h1,h2⟩)
 · exact wk h
 · exact((wk h1).trans ed).trans (wk h2)
 · exact((wk h1).trans ed.symm).trans (wk h2)}
theorem aTU(hG:GW S V G):∀(k:Nat) (T:Nat->Prop),bL S T<=k->(∀t,T t->∃e,G t=some e)->vX G T->∀a,a<V->sls S G T a+1=cxs V G T a:=by
  intro k;induction k with
  | zero=>
    intro T hk hT hI a ha;have h0:∀s,¬T s:=fun s hs=>by obtain⟨e,he⟩:=hT s hs;exact kP (by omega) s (hG.slot s e he) hs
    have e1:sls S G T a=0:=by
      unfold sls;rw[bX (T' :=fun _=>False) (fun s=>⟨fun h=>h0 s h.1,fun h=>h.elim⟩),jC]
    have e2:cxs V G T a=1:=by
      unfold cxs;rw[bX (T' :=fun s=>s=a) (fun s=>⟨fun h=>?_,fun h=>by rw[h];exact .refl a⟩),aIO ha];cases h with
      | refl=>rfl
      | step s x _ h1 _=>exact absurd h1 (h0 s)
    omega
  | succ k ih=>
    intro T hk hT hI a ha;by_cases hm:∃m,T m
    · obtain ⟨m, hm⟩ := hm
      obtain⟨⟨c,d,x⟩,hg⟩:=hT m hm;have hms:=hG.slot m _ hg;have hen:=hG.ends m c d x hg;have hd:=gW (T:=T) hms hm;have I:=ih (fun t=>T t/\t≠m) (by omega) (fun t ht=>hT t ht.1) (hI.sub fun t ht=>ht.1);have hn:=hI m c d x hm hg;have hcx:=fun p q=>aIP hg hm p q;have key:∀(p q:Nat),q<V->Cx G (fun t=>T t/\t≠m) a p->(∀v,Cx G T a v↔Cx G (fun t=>T t/\t≠m) a v∨Cx G (fun t=>T t/\t≠m) q v)->¬Cx G (fun t=>T t/\t≠m) p q->Cx G T a c->sls S G T a+1=cxs V G T a:=by
        intro p q hq hap hv hpq hac;have e1:cxs V G T a=cxs V G (fun t=>T t/\t≠m) a+cxs V G (fun t=>T t/\t≠m) q:=sF V hv fun v h=>hpq ((hap.symm.trans h.1).trans h.2.symm);have e2:sls S G T a=bL S (fun s=>s=m)+bL S (fun s=>aPB G (fun t=>T t/\t≠m) a s∨aPB G (fun t=>T t/\t≠m) q s):=by
          refine sF S (fun s=>⟨fun h=>?_,fun h=>?_⟩) (fun s h=>?_)
          · by_cases e : s = m
            · exact .inl e
            · obtain ⟨h1, e1, e2, z, h2, h3⟩ := h
              rcases(hv e1).1 h3 with h4|h4
              · exact .inr (.inl ⟨⟨h1,e⟩,e1,e2,z,h2,h4⟩)
              · exact .inr (.inr ⟨⟨h1,e⟩,e1,e2,z,h2,h4⟩)
          · rcases h with rfl | ⟨h1, e1, e2, z, h2, h3⟩ | ⟨h1, e1, e2, z, h2, h3⟩
            · exact⟨hm,c,d,x,hg,hac⟩
            · exact⟨h1.1,e1,e2,z,h2,(hv e1).2 (.inl h3)⟩
            · exact⟨h1.1,e1,e2,z,h2,(hv e1).2 (.inr h3)⟩
          · obtain ⟨rfl, h⟩ := h
            rcases h with h|h
            · exact h.1.2 rfl
            · exact h.1.2 rfl
        have e3:bL S (fun s=>aPB G (fun t=>T t/\t≠m) a s∨aPB G (fun t=>T t/\t≠m) q s)=sls S G (fun t=>T t/\t≠m) a+sls S G (fun t=>T t/\t≠m) q:=by
          refine sF S (fun s=>Iff.rfl) (fun s h=>?_);obtain⟨⟨_,e1,e2,z,h1,h2⟩,⟨_,e1', e2', z', h1', h2'⟩⟩:=h;rw[h1]at h1'; simp only[qQ,zN]at h1';obtain⟨rfl,rfl,rfl⟩:=h1';exact hpq ((hap.symm.trans h2).trans h2'.symm)
        rw[aIO hms]at e2;have i1:=I a ha;have i2:=I q hq;omega
      by_cases h1:Cx G (fun t=>T t/\t≠m) a c
      · refine key c d hen.2.1 h1 (fun v => ⟨fun h => ?_, fun h => ?_⟩) hn ((hcx a c).2 (.inl h1))
        · rcases (hcx a v).1 h with h | ⟨_, h⟩ | ⟨h2, _⟩
          · exact .inl h
          · exact .inr h
          · exact absurd (h1.symm.trans h2) hn
        · rcases h with h | h
          · exact(hcx a v).2 (.inl h)
          · exact(hcx a v).2 (.inr (.inl ⟨h1,h⟩))
      · by_cases h2 : Cx G (fun t => T t /\ t ≠ m) a d
        · refine key d c hen.1 h2 (fun v => ⟨fun h => ?_, fun h => ?_⟩) (fun h => hn h.symm) ((hcx a c).2 (.inr (.inr ⟨h2, .refl c⟩)))
          · rcases (hcx a v).1 h with h | ⟨h3, _⟩ | ⟨_, h⟩
            · exact .inl h
            · exact absurd h3 h1
            · exact .inr h
          · rcases h with h | h
            · exact(hcx a v).2 (.inl h)
            · exact(hcx a v).2 (.inr (.inr ⟨h2,h⟩))
        · have hv:∀v,Cx G T a v↔Cx G (fun t=>T t/\t≠m) a v:=fun v=>by
            rw[hcx a v];exact⟨fun h=>h.elim id (fun h=>h.elim (fun h=>absurd h.1 h1) (fun h=>absurd h.1 h2)),.inl⟩
          have e1:cxs V G T a=cxs V G (fun t=>T t/\t≠m) a:=bX hv;have e2:sls S G T a=sls S G (fun t=>T t/\t≠m) a:=bX fun s=>⟨fun h=>by
              obtain⟨h3,e1,e2,z,h4,h5⟩:=h;have e:s≠m:=by
                rintro rfl;rw[hg]at h4;simp only[qQ,zN]at h4;obtain⟨rfl,rfl,rfl⟩:=h4;exact h1 ((hv c).1 h5)
              exact⟨⟨h3,e⟩,e1,e2,z,h4,(hv e1).1 h5⟩,
            fun⟨h3,e1,e2,z,h4,h5⟩=>⟨h3.1,e1,e2,z,h4,(hv e1).2 h5⟩⟩
          rw[e1,e2];exact I a ha
    · exact(by
        have h0:∀s,¬T s:=fun s hs=>hm ⟨s,hs⟩;exact ih T (by rw[bX (T' :=fun _=>False) (fun s=>⟨fun h=>h0 s h,fun h=>h.elim⟩),jC];omega) hT hI a ha)
def pZ(G:bG)(T:Nat->Prop)(v:Nat):Prop:=∀u,u<v->¬Cx G T v u
theorem aLH(hc:c<V)(hd:d<V)(hg:G m=some (c,d,x))(hm:T m)(hn:¬Cx G (fun t=>T t/\t≠m) c d):bL V (pZ G T)+1=bL V (pZ G fun t=>T t/\t≠m):=by
 have hcx:=fun p q=>aIP hg hm p q;generalize hR:(fun p q=>Cx G (fun t=>T t/\t≠m) p q)=R at *;have tr:∀{p q r},R p q->R q r->R p r:=by rw[<-hR];intro p q r h1 h2;exact Cx.trans h1 h2
 have sy:∀{p q},R p q->R q p:=by rw[<-hR];intro p q h1;exact Cx.symm h1
 have rf:∀p,R p p:=by rw[<-hR];intro p;exact .refl p
 have eR:∀p q,Cx G (fun t=>T t/\t≠m) p q↔R p q:=by rw[<-hR];intro p q;exact Iff.rfl
 simp only[eR]at hcx hn;have eL:bL V (pZ G fun t=>T t/\t≠m)=bL V (fun v=>∀u,u<v->¬R v u):=bX fun v=>by unfold pZ;simp only[eR]
 have eL' :bL V (pZ G T)=bL V (fun v=>∀u,u<v->¬(R v u∨(R v c/\R d u)∨(R v d/\R c u))):=bX fun v=>by unfold pZ;simp only[hcx]
 rw[eL,eL'];clear eL eL' eR hcx hR;have key:∀{a b fa fb:Nat},fa<fb->R a fa->R b fb->(∀u,u<fa->¬R fa u)->(∀u,u<fb->¬R fb u)->b<V->fb<=b->bL V (fun v=>∀u,u<v->¬(R v u∨(R v a/\R b u)∨(R v b/\R a u)))+1=bL V (fun v=>∀u,u<v->¬R v u):=by {
 intro a b fa fb hlt hca hcb hfa hfb hbn hfbb;refine pY (m:=fb) (by omega) hfb ?_ ?_
 {
 intro hf;exact hf fa hlt (.inr (.inr ⟨sy hcb,hca⟩))}
 {
 intro v hv;refine⟨fun hf u hu hc=>hf u hu (.inl hc),fun hf u hu hc=>?_⟩;rcases hc with e|⟨e1,e2⟩|⟨e1,e2⟩
 · exact hf u hu e
 {
 have hxfa:R v fa:=tr e1 hca;have h1:v=fa:=by {
 rcases Nat.lt_trichotomy v fa with q|q|q
 · exact absurd (sy hxfa) (hfa v q)
 · exact q
 · exact absurd hxfa (hf fa q)};have:¬u<fb:=fun q=>hfb u q (tr (sy hcb) e2);omega}
 {
 have hxfb:R v fb:=tr e1 hcb;rcases Nat.lt_trichotomy v fb with q|q|q
 · exact absurd (sy hxfb) (hfb v q)
 · exact absurd q hv
 · exact absurd hxfb (hf fb q)}}};obtain⟨fa,ha1,ha2,ha3⟩:=pW (P:=fun k=>R c k) (rf c);obtain⟨fb,hb1,hb2,hb3⟩:=pW (P:=fun k=>R d k) (rf d);have hne:fa≠fb:=by rintro rfl;exact hn (tr ha2 (sy hb2))
 have hfa:∀u,u<fa->¬R fa u:=fun k hk hc=>ha3 k hk (tr ha2 hc);have hfb:∀u,u<fb->¬R fb u:=fun k hk hc=>hb3 k hk (tr hb2 hc);rcases Nat.lt_or_gt_of_ne hne with q|q
 · exact key q ha2 hb2 hfa hfb hd hb1
 {
 rw[<-key q hb2 ha2 hfb hfa hc ha1];congr 1
 exact bX fun v=>⟨fun h u hu e=>h u hu (e.elim .inl (fun e=>e.elim (fun e=>.inr (.inr e)) (fun e=>.inr (.inl e)))),fun h u hu e=>h u hu (e.elim .inl (fun e=>e.elim (fun e=>.inr (.inr e)) (fun e=>.inr (.inl e))))⟩}
theorem aPC(hG:GW S V G):∀(k:Nat) (T:Nat->Prop),bL S T<=k->(∀t,T t->∃e,G t=some e)->vX G T->bL V (pZ G T)+bL S T=V:=by
 have all:bL V (fun _=>True)=V:=by {
 unfold bL;rw[List.filter_eq_self.2 (fun _ _=>by simp),List.length_range]};intro k;induction k with
 | zero=>{
 intro T hk hT hI;have h0:∀s,¬T s:=fun s hs=>by obtain⟨e,he⟩:=hT s hs;exact kP (by omega) s (hG.slot s e he) hs
 have:bL V (pZ G T)=V:=by {
 refine(bX (T' :=fun _=>True) (fun v=>⟨fun _=>trivial,fun _ u hu hc=>?_⟩)).trans all;cases hc with
 | refl=>exact absurd hu (Nat.lt_irrefl _)
 | step s x _ h1 _=>exact h0 s h1};omega}
 | succ k ih=>{
 intro T hk hT hI;by_cases hm:∃m,T m
 {
 obtain⟨m,hm⟩:=hm;obtain⟨⟨c,d,x⟩,hg⟩:=hT m hm;have hd:=gW (T:=T) (hG.slot m _ hg) hm;have hen:=hG.ends m c d x hg;have:=aLH hen.1 hen.2.1 hg hm (hI m c d x hm hg);have:=ih (fun t=>T t/\t≠m) (by omega) (fun t ht=>hT t ht.1) (hI.sub fun t ht=>ht.1);omega}
 {
 have h0:∀s,¬T s:=fun s hs=>hm ⟨s,hs⟩;exact ih T (by rw[bX (T' :=fun _=>False) (fun s=>⟨fun h=>h0 s h,fun h=>h.elim⟩),jC];omega) hT hI}}
theorem aLI(hG:GW S V G):bL V (pZ G (aA G))+bL S (aA G)=V:=
  aPC hG _ _ (qS _) (fun _t ⟨_a,_b,_x,h,_⟩=>⟨_,h⟩) (vY hG.slot)
theorem Frs.sub{E E' :Nat->Nat->Prop}(h:Frs E)(hs:∀v u,E' v u->E v u)(sy:∀v u,E' v u->E' u v):Frs E' :=by
 obtain⟨par,d,rt,hR,hE⟩:=h;have hp:∀x,(if x≠0/\par x≠0/\E' (x-1) (par x-1) then par x else 0)≠0->(if x≠0/\par x≠0/\E' (x-1) (par x-1) then par x else 0)=par x/\par x≠0/\E' (x-1) (par x-1):=by {
 intro x hx;by_cases h:x≠0/\par x≠0/\E' (x-1) (par x-1)
 · exact⟨qI h,h.2.1,h.2.2⟩
 · exact absurd (qH h) hx};obtain⟨rt', hR'⟩:=aXM (par:=fun x=>if x≠0/\par x≠0/\E' (x-1) (par x-1) then par x else 0) (d:=d) (fun x hx=>by
   have:=hp x hx;show d (if x≠0/\par x≠0/\E' (x-1) (par x-1) then par x else 0)<d x
   rw[this.1];exact hR.dep x this.2.1)
 refine⟨_,d,rt', hR', fun v u=>⟨fun e=>?_,fun e=>?_⟩⟩
 {
 obtain⟨h1,h2,h3⟩:=(hE v u).1 (hs v u e);refine⟨h1,h2,h3.imp (fun q=>?_) (fun q=>?_)⟩
 {
 show(if v+1≠0/\par (v+1)≠0/\E' (v+1-1) (par (v+1)-1) then par (v+1) else 0)=u+1
 rw[q,qI ⟨by omega,by omega,by simpa using e⟩]}
 {
 show(if u+1≠0/\par (u+1)≠0/\E' (u+1-1) (par (u+1)-1) then par (u+1) else 0)=v+1
 rw[q,qI ⟨by omega,by omega,by simpa using sy _ _ e⟩]}}
 {
 obtain⟨h1,h2,h3⟩:=e;rcases h3 with q|q
 {
 have:=hp (v+1) (by show(if v+1≠0/\par (v+1)≠0/\E' (v+1-1) (par (v+1)-1) then par (v+1) else 0)≠0;rw[show(if v+1≠0/\par (v+1)≠0/\E' (v+1-1) (par (v+1)-1) then par (v+1) else 0)=u+1 from q];omega);have e1:par (v+1)=u+1:=this.1.symm.trans q;have:=this.2.2;rw[e1]at this;simpa using this}
 {
 have:=hp (u+1) (by show(if u+1≠0/\par (u+1)≠0/\E' (u+1-1) (par (u+1)-1) then par (u+1) else 0)≠0;rw[show(if u+1≠0/\par (u+1)≠0/\E' (u+1-1) (par (u+1)-1) then par (u+1) else 0)=v+1 from q];omega);have e1:par (u+1)=v+1:=this.1.symm.trans q;have:=this.2.2;rw[e1]at this;exact sy _ _ (by simpa using this)}}
theorem aPD(h:Frs (TE S G T))(hs:∀t,T' t->T t):Frs (TE S G T'):=h.sub (fun _ _=>aBN hs) (fun _ _=>aTS)
def lJ(G:bG)(r:Int)(t:Nat):Prop:=∃a b x,G t=some (a,b,x)/\r<=x
def pB(G:bG)(r:Int)(t:Nat):Prop:=∃a b x,G t=some (a,b,x)/\r<x
def dU(G:bG)(a b:Nat)(r:Int):Prop:=Cx G (lJ G r) a b/\¬Cx G (pB G r) a b
theorem aLJ{r r' :Int}(h:dU G a b r)(h' :dU G a b r'):r=r' :=by
 have key:∀{r r' :Int},dU G a b r->dU G a b r' -> ¬r<r' :=fun h h' hlt=>
   h.2 (h'.1.mono fun t _ ⟨c,d,x,h1,h2⟩ _=>⟨c,d,x,h1,by omega⟩)
 have:=key h h';have:=key h' h;omega
theorem aDY{ma mb:Nat}(hS:∀s e,G s=some e->s<S)(hm:G m=some (ma,mb,y))(hc:Cx G (fun t=>aA G t/\(t=m∨Aft G m y t)) a b)(hn:¬Cx G (fun t=>aA G t/\t≠m) a b):dU G a b y:=by
 refine⟨hc.mono fun t _ ht _=>?_,fun h=>?_⟩
 {
 rcases ht.2 with rfl|⟨c,d,z,h1,h2⟩
 · exact⟨ma,mb,y,hm,Int.le_refl _⟩
 · exact⟨c,d,z,h1,by unfold bef at h2;omega⟩}
 {
 have hu:Upw G (pB G y):=by {
 rintro t c d z u ⟨c', d', z', h1,h2⟩ h3 ⟨e,f,v,h4,h5⟩;rw[h3]at h1;simp only[qQ,zN]at h1;obtain⟨_,_,rfl⟩:=h1;exact⟨e,f,v,h4,by unfold bef at h5;omega⟩};refine hn ((kru hS hu h).mono fun t _ ht _=>⟨ht.2,?_⟩);rintro rfl;obtain⟨_,_,z,h1,h2⟩:=ht.1;rw[hm]at h1;simp only[qQ,zN]at h1;omega}
noncomputable def vZ(G:bG)(a b:Nat):Int:=if h:∃r,dU G a b r then Classical.choose h else 0
theorem sG{r:Int}(h:dU G a b r):vZ G a b=r:=by
 have hx:∃r,dU G a b r:=⟨r,h⟩;unfold vZ;rw[dif_pos hx];exact aLJ (Classical.choose_spec hx) h
def yT(G:bG)(m:Nat):Prop:=∃a b x,G m=some (a,b,x)/\∀t c d z,G t=some (c,d,z)->¬bef z t x m
theorem aTV{m' :Nat}(h:yT G m)(h' :yT G m'):m=m' :=by
 obtain⟨a,b,x,h1,h2⟩:=h;obtain⟨a', b', x', h1', h2'⟩:=h';have:=h2 m' a' b' x' h1';have:=h2' m a b x h1;unfold bef at *;omega
noncomputable def rA(G:bG):Option Nat:=if h:∃m,yT G m then some (Classical.choose h) else none
theorem aIQ(h:yT G m):rA G=some m:=by
 have hx:∃m,yT G m:=⟨m,h⟩;unfold rA;rw[dif_pos hx];exact congrArg some (aTV (Classical.choose_spec hx) h)
theorem aLK(h:∀s,G s=none):rA G=none:=by
 unfold rA;rw[dif_neg];rintro⟨m,a,b,x,h1,_⟩;rw[h m]at h1;cases h1
noncomputable def xP(G:bG):bG:=match rA G with
  | none=>G
  | some m=>bW G m none
theorem aPE(hG:GW S V G)(hf:Frs (TE S G (aA G)))(ha:a<V):csize (S+V) (TE S G (aA G)) (S+a)+1=2*cxs V G (aA G) a:=by
 have h1:=aTU hG _ _ (qS _) (fun t ⟨a,b,x,h,_⟩=>⟨_,h⟩) (vY hG.slot) a ha;have h2:csize (S+V) (TE S G (aA G)) (S+a)=sls S G (aA G) a+cxs V G (aA G) a:=by {
 unfold csize sls cxs bL;rw[show List.range (S+V)=List.range S++(List.range V).map (S+·) from List.range_add,List.filter_append,zO];congr 1
 {
 congr 1
 refine List.filter_congr fun s hs=>decide_eq_decide.2 ?_;have hs:=List.mem_range.1 hs;constructor
 {
 intro h;have hx:=aIM (E:=TE S G (aA G)) h (by omega);obtain⟨v,hx⟩:=hx;obtain⟨t,c,d,x,e1,e2,⟨_,e3⟩|⟨rfl,e3⟩⟩:=hx
 · omega
 · refine⟨e2,c,d,x,e1,(vU hG.slot hf).1 (hf.ctrans h (dC hf ⟨s,c,d,x,e1,e2,.inl ⟨rfl,.inl rfl⟩⟩))⟩}
 {
 rintro⟨e2,c,d,x,e1,e3⟩;exact hf.ctrans ((vU hG.slot hf).2 e3) (dC hf ⟨s,c,d,x,e1,e2,.inr ⟨rfl,.inl rfl⟩⟩)}}
 {
 rw[List.filter_map,List.length_map];congr 1
 exact List.filter_congr fun v _=>decide_eq_decide.2 (vU hG.slot hf)}};omega
end
end Go.Proofs.YtgmnemndjjmgkaaGreat
namespace Go.Proofs.YtgmnemndjjmgkaaGreat
open Go.RowKit
section
variable {s:Sm} {Q:Nat->Option Int} {G:Nat->Option (Nat×Nat×Int)} {i:Nat} {x:Int}
theorem aTW(hl:Lk s Q G)(hok:s.Ok)(hq:Q i=some x)(hm:∀j y,Q j=some y->¬(y<x∨(y=x/\j<i))):yT G i:=by
 obtain⟨e,he,hs,hx⟩:=(hl.q i x).1 hq;obtain⟨a,ha⟩:=zE.1 (gG hok he (x:=e.u) (by simp[Lv.at]));obtain⟨b,hb⟩:=zE.1 (gG hok he (x:=e.v) (by simp[Lv.at]));refine⟨a,b,x,(hl.g i a b x).2 ⟨e,he,hs,ha,hb,hx⟩,fun t c d z ht hbef=>?_⟩;obtain⟨e', he', hs', _,_,hx'⟩:=(hl.g t c d z).1 ht;exact hm t z ((hl.q t z).2 ⟨e', he', hs', hx'⟩) hbef
theorem aTX(hl:Lk s Q G)(hok:s.Ok)(hq:Q i=some x)(hm:∀j y,Q j=some y->¬(y<x∨(y=x/\j<i))):rA G=some i/\xP G=fun j=>if j=i then none else G j:=by
 have h1:=aIQ (aTW hl hok hq hm);refine⟨h1,?_⟩;unfold xP;rw[h1];rfl
end
end Go.Proofs.YtgmnemndjjmgkaaGreat
namespace Go.Proofs.YtgmnemndjjmgkaaGreat
def elt(a b:Nat×Int):Prop:=a.2<b.2∨(a.2=b.2/\a.1<b.1)
instance (a b:Nat×Int):Decidable (elt a b):=by unfold elt;exact inferInstance
theorem lK(a:Nat×Int):¬elt a a:=by unfold elt;omega
theorem sH{a b c:Nat×Int}(h:elt a b)(k:elt b c):elt a c:=by unfold elt at *;omega
theorem pC{a b c:Nat×Int}(h:¬elt a b)(k:¬elt b c):¬elt a c:=by unfold elt at *;omega
theorem sI{a b:Nat×Int}(h:elt a b):¬elt b a:=by unfold elt at *;omega
def iM(e:Nat->Nat×Int)(p q:Nat):Nat->Nat×Int:=fun x=>if x=p then e q else if x=q then e p else e x
theorem fR(e:Nat->Nat×Int)(p q:Nat):iM e p q p=e q:=by simp[iM]
theorem lL(e:Nat->Nat×Int)(p q:Nat):iM e p q q=e p:=by
 unfold iM;split
 · rename_i h;rw[h]
 · simp
theorem eY{e:Nat->Nat×Int}{p q x:Nat}(h1:x≠p)(h2:x≠q):iM e p q x=e x:=by simp[iM,h1,h2]
theorem aPF{e:Nat->Nat×Int}{n p q:Nat}(hp:p<n)(hq:q<n)(y:Nat×Int):(∃x,x<n/\iM e p q x=y)↔∃x,x<n/\e x=y:=by
 constructor
 {
 rintro⟨x,hx,rfl⟩;by_cases h1:x=p
 · exact⟨q,hq,by rw[h1,fR]⟩
 {
 by_cases h2:x=q
 · exact⟨p,hp,by rw[h2,lL]⟩
 · exact⟨x,hx,by rw[eY h1 h2]⟩}}
 {
 rintro⟨x,hx,rfl⟩;by_cases h1:x=p
 · exact⟨q,hq,by rw[h1,lL]⟩
 {
 by_cases h2:x=q
 · exact⟨p,hp,by rw[h2,fR]⟩
 · exact⟨x,hx,eY h1 h2⟩}}
def mW(e:Nat->Nat×Int)(n:Nat)(x:Nat×Int):Nat->Nat×Int:=fun k=>if k=n then x else e k
theorem fY(e:Nat->Nat×Int)(n:Nat)(x:Nat×Int):mW e n x n=x:=by simp[mW]
theorem dQ{e:Nat->Nat×Int}{n k:Nat}{x:Nat×Int}(h:k≠n):mW e n x k=e k:=by simp[mW,h]
section
variable {n p:Nat} {e:Nat->Nat×Int}
def Hp(n:Nat)(e:Nat->Nat×Int):Prop:=∀k,0<k->k<n->¬elt (e k) (e ((k-1)/2))
def UpI(n:Nat)(e:Nat->Nat×Int)(p:Nat):Prop:=
  (∀k,0<k->k<n->k≠p->¬elt (e k) (e ((k-1)/2)))/\(0<p->∀c,0<c->c<n->(c-1)/2=p->¬elt (e c) (e ((p-1)/2)))
def DnI(n:Nat)(e:Nat->Nat×Int)(p:Nat):Prop:=
  (∀k,0<k->k<n->(k-1)/2≠p->¬elt (e k) (e ((k-1)/2)))/\(0<p->∀c,0<c->c<n->(c-1)/2=p->¬elt (e c) (e ((p-1)/2)))
theorem aTY(h:UpI n e p)(hd:¬(0<p/\elt (e p) (e ((p-1)/2)))):Hp n e:=by
 intro k h0 hk;by_cases hkp:k=p
 · subst hkp;exact fun he=>hd ⟨h0,he⟩
 · exact h.1 k h0 hk hkp
theorem aTZ(h:UpI n e p)(h0:0<p)(hp:p<n)(he:elt (e p) (e ((p-1)/2))):UpI n (iM e p ((p-1)/2)) ((p-1)/2):=by
 obtain⟨q,hq⟩:∃q,q=(p-1)/2:=⟨_,rfl⟩;rw[<-hq]at he ⊢;have hqp:q<p:=by omega
 constructor
 {
 intro k hk0 hk hkq;by_cases hkp:k=p
 {
 subst hkp;rw[<-hq,fR,lL];exact sI he}
 {
 rw[eY hkp hkq];by_cases e1:(k-1)/2=p
 {
 rw[e1,fR];have:=h.2 h0 k hk0 hk e1;rw[<-hq]at this;exact this}
 {
 by_cases e2:(k-1)/2=q
 {
 rw[e2,lL];have h1:=h.1 k hk0 hk hkp;rw[e2]at h1;exact fun hl=>h1 (sH hl he)}
 · rw[eY e1 e2];exact h.1 k hk0 hk hkp}}}
 {
 intro hq0 c hc0 hc hcq;have hn:(q-1)/2≠p:=by omega
 have hn2:(q-1)/2≠q:=by omega
 rw[eY hn hn2];have hqq:=h.1 q hq0 (by omega) (by omega);by_cases hcp:c=p
 · subst hcp;rw[fR];exact hqq
 {
 rw[eY hcp (by omega)];have h1:=h.1 c hc0 hc hcp;rw[hcq]at h1;exact pC h1 hqq}}
theorem aUA(h:Hp n e)(x:Nat×Int):UpI (n+1) (mW e n x) n:=by
 constructor
 {
 intro k h0 hk hkn;rw[dQ hkn,dQ (by omega)];exact h k h0 (by omega)}
 {
 intro _ c hc0 hc hcn;omega}
def aDZ(n:Nat)(e:Nat->Nat×Int)(p:Nat):Nat:=if 2*p+1<n/\elt (e (2*p+1)) (e p) then 2*p+1 else p
def blw(n:Nat)(e:Nat->Nat×Int)(p:Nat):Nat:=if 2*p+2<n/\elt (e (2*p+2)) (e (aDZ n e p)) then 2*p+2 else aDZ n e p
theorem yU(n:Nat)(e:Nat->Nat×Int)(p:Nat):blw n e p=p∨(blw n e p<n/\(blw n e p=2*p+1∨blw n e p=2*p+2)/\elt (e (blw n e p)) (e p)):=by
 unfold blw aDZ;by_cases h1:2*p+1<n/\elt (e (2*p+1)) (e p)
 {
 rw[qI h1];by_cases h2:2*p+2<n/\elt (e (2*p+2)) (e (2*p+1))
 · rw[qI h2];exact .inr ⟨h2.1,.inr rfl,sH h2.2 h1.2⟩
 · rw[qH h2];exact .inr ⟨h1.1,.inl rfl,h1.2⟩}
 {
 rw[qH h1];by_cases h2:2*p+2<n/\elt (e (2*p+2)) (e p)
 · rw[qI h2];exact .inr ⟨h2.1,.inr rfl,h2.2⟩
 · rw[qH h2];exact .inl rfl}
theorem yV(n:Nat)(e:Nat->Nat×Int)(p:Nat){c:Nat}(hc:c<n)(h:c=2*p+1∨c=2*p+2):¬elt (e c) (e (blw n e p)):=by
 unfold blw aDZ;by_cases h1:2*p+1<n/\elt (e (2*p+1)) (e p)
 {
 rw[qI h1];by_cases h2:2*p+2<n/\elt (e (2*p+2)) (e (2*p+1))
 {
 rw[qI h2];rcases h with rfl|rfl
 · exact sI h2.2
 · exact lK _}
 {
 rw[qH h2];rcases h with rfl|rfl
 · exact lK _
 · exact fun hl=>h2 ⟨hc,hl⟩}}
 {
 rw[qH h1];by_cases h2:2*p+2<n/\elt (e (2*p+2)) (e p)
 {
 rw[qI h2];rcases h with rfl|rfl
 · exact fun hl=>h1 ⟨hc,sH hl h2.2⟩
 · exact lK _}
 {
 rw[qH h2];rcases h with rfl|rfl
 · exact fun hl=>h1 ⟨hc,hl⟩
 · exact fun hl=>h2 ⟨hc,hl⟩}}
theorem aUB(h:DnI n e p)(hd:blw n e p=p):Hp n e:=by
 intro k h0 hk;by_cases hkp:(k-1)/2=p
 {
 have:=yV n e p hk (by omega);rw[hd]at this;rw[hkp];exact this}
 · exact h.1 k h0 hk hkp
theorem aUC(h:DnI n e p)(hd:blw n e p≠p):DnI n (iM e p (blw n e p)) (blw n e p)/\p<blw n e p/\blw n e p<n:=by
 obtain⟨hbn,hb2,hbe⟩:=(yU n e p).resolve_left hd;have hl:=fun {c:Nat} (hc:c<n) (hh:c=2*p+1∨c=2*p+2)=>yV n e p hc hh;generalize blw n e p=b at *;refine⟨⟨?_,?_⟩,by omega,hbn⟩
 {
 intro k hk0 hk hkb;by_cases hkp:k=p
 {
 subst hkp;rw[fR,eY (by omega) (by omega)];exact h.2 hk0 b (by omega) hbn (by omega)}
 {
 by_cases hkb2:k=b
 {
 subst hkb2;rw[lL,show(k-1)/2=p by omega,fR];exact sI hbe}
 {
 rw[eY hkp hkb2];by_cases e1:(k-1)/2=p
 · rw[e1,fR];exact hl hk (by omega)
 · rw[eY e1 hkb];exact h.1 k hk0 hk e1}}}
 {
 intro _ c hc0 hc hcb;rw[eY (by omega) (by omega),show(b-1)/2=p by omega,fR];have:=h.1 c hc0 hc (by omega);rw[hcb]at this;exact this}
theorem aZE(h:Hp (n+1) e):DnI n (iM e 0 n) 0:=by
 refine⟨fun k hk0 hk hkp=>?_,fun h0=>absurd h0 (Nat.lt_irrefl _)⟩;rw[eY (by omega) (by omega),eY hkp (by omega)];exact h k hk0 (by omega)
theorem aPG(h:Hp n e):∀k,k<n->¬elt (e k) (e 0):=by
 intro k;induction k using Nat.strongRecOn with
 | _ k ih=>{
 intro hk;by_cases h0:k=0
 · subst h0;exact lK _
 · exact pC (h k (by omega) hk) (ih ((k-1)/2) (by omega) (by omega))}
end
structure lM (slots n:Nat) (e:Nat->Nat×Int) (pl:Nat->Nat):Prop where
  lt:∀p,p<n->(e p).1<slots
  at_:∀p,p<n->pl (e p).1=p+1
  inv:∀i,pl i≠0->∃p,p<n/\(e p).1=i
section
variable {slots n p q:Nat} {e:Nat->Nat×Int} {pl:Nat->Nat}
def lN(pl:Nat->Nat)(i x:Nat):Nat->Nat:=fun k=>if k=i then x else pl k
theorem kQ(pl:Nat->Nat)(i x:Nat):lN pl i x i=x:=by simp[lN]
theorem cY{pl:Nat->Nat}{i x k:Nat}(h:k≠i):lN pl i x k=pl k:=by simp[lN,h]
theorem lM.inj(h:lM slots n e pl)(hp:p<n)(hq:q<n)(he:(e p).1=(e q).1):p=q:=by
 have h1:=h.at_ p hp;have h2:=h.at_ q hq;rw[he,h2]at h1;omega
theorem lM.le(h:lM slots n e pl):n<=slots:=by
 have hnd:((List.range n).map fun p=>(e p).1).Nodup:=by {
 rw[List.nodup_iff_pairwise_ne,List.pairwise_map];refine(List.nodup_range (n:=n)).imp_of_mem (fun {a b} ha hb hne he=>hne ?_);exact h.inj (by simpa using ha) (by simpa using hb) he};have hp:((List.range slots).filter fun i=>decide (i∈(List.range n).map fun p=>(e p).1)).Perm ((List.range n).map fun p=>(e p).1):=by {
 rw[List.perm_ext_iff_of_nodup (List.filter_sublist.nodup List.nodup_range) hnd];intro i;simp only[zJ,List.mem_range,decide_eq_true_eq,and_iff_right_iff_imp,zF];rintro⟨p,hp,rfl⟩;exact h.lt p hp};have h1:=hp.length_eq;have h2:=List.length_filter_le (fun i=>decide (i∈(List.range n).map fun p=>(e p).1)) (List.range slots);simp at h1 h2;omega
theorem lM.swap(h:lM slots n e pl)(hp:p<n)(hq:q<n):lM slots n (iM e p q) (lN (lN pl (e q).1 (p+1)) (e p).1 (q+1)):=by
 refine⟨fun x hx=>?_,fun x hx=>?_,fun i hi=>?_⟩
 {
 by_cases h1:x=p
 · rw[h1,fR];exact h.lt q hq
 {
 by_cases h2:x=q
 · rw[h2,lL];exact h.lt p hp
 · rw[eY h1 h2];exact h.lt x hx}}
 {
 by_cases h2:x=q
 · rw[h2,lL,kQ]
 {
 by_cases h1:x=p
 {
 subst h1;rw[fR,cY (fun e1=>h2 (h.inj hx hq e1.symm)),kQ]}
 {
 rw[eY h1 h2,cY (fun e1=>h1 (h.inj hx hp e1)),cY (fun e1=>h2 (h.inj hx hq e1))];exact h.at_ x hx}}}
 {
 by_cases h1:i=(e p).1
 · exact⟨q,hq,by rw[lL,h1]⟩
 {
 rw[cY h1]at hi;by_cases h2:i=(e q).1
 · exact⟨p,hp,by rw[fR,h2]⟩
 {
 rw[cY h2]at hi;obtain⟨x,hx,rfl⟩:=h.inv i hi;refine⟨x,hx,?_⟩;rw[eY (fun e1=>h1 (by rw[e1])) (fun e1=>h2 (by rw[e1]))]}}}
theorem lM.push(h:lM slots n e pl){i:Nat}{k:Int}(hi:i<slots)(h0:pl i=0):lM slots (n+1) (mW e n (i,k)) (lN pl i (n+1)):=by
 refine⟨fun x hx=>?_,fun x hx=>?_,fun j hj=>?_⟩
 {
 by_cases h1:x=n
 · rw[h1,fY];exact hi
 · rw[dQ h1];exact h.lt x (by omega)}
 {
 by_cases h1:x=n
 · rw[h1,fY,kQ]
 {
 rw[dQ h1];have hx' :=h.at_ x (by omega);rw[cY (fun e1=>by rw[e1,h0]at hx'; omega)];exact hx'}}
 {
 by_cases h1:j=i
 · exact⟨n,by omega,by rw[fY,h1]⟩
 {
 rw[cY h1]at hj;obtain⟨x,hx,rfl⟩:=h.inv j hj;exact⟨x,by omega,by rw[dQ (by omega)]⟩}}
theorem lM.pop(h:lM slots (n+1) e pl):lM slots n e (lN pl (e n).1 0):=by
 refine⟨fun x hx=>h.lt x (by omega),fun x hx=>?_,fun j hj=>?_⟩
 {
 rw[cY (fun e1=>by have:=h.inj (by omega:x<n+1) (by omega:n<n+1) e1;omega)];exact h.at_ x (by omega)}
 {
 by_cases h1:j=(e n).1
 · rw[h1,kQ]at hj;exact absurd rfl hj
 {
 rw[cY h1]at hj;obtain⟨x,hx,rfl⟩:=h.inv j hj;refine⟨x,?_,rfl⟩;by_cases e1:x=n
 · subst e1;exact absurd rfl h1
 · omega}}
end
end Go.Proofs.YtgmnemndjjmgkaaGreat
namespace Go.Proofs.YtgmnemndjjmgkaaGreat
open Go.RowKit
abbrev aL(b:Nat):Value:=.pointer (some ⟨b,0,none⟩)
def gK(o:Option Nat):Value:=.pointer (o.map fun b=>⟨b,0,none⟩)
def jH(n:Nat)(e:Nat->Nat×Int):List Value:=(List.range n).flatMap fun p=>[.int .i64 (e p).1,.int .i64 (e p).2]
theorem entC_succ' (n:Nat)(e:Nat->Nat×Int):jH (n+1) e=jH n e++[.int .i64 (e n).1,.int .i64 (e n).2]:=by simp[jH,List.range_succ]
theorem kR(n:Nat)(e:Nat->Nat×Int):(jH n e).length=n*2:=by
 induction n with
 | zero=>rfl
 | succ n ih=>rw[entC_succ', zO,ih];simp;omega
theorem tV(e:Nat->Nat×Int):∀{n p:Nat},p<n->(jH n e)[p*2]? =some (.int .i64 ((e p).1:Int))/\(jH n e)[p*2+1]? =some (.int .i64 (e p).2):=by
 intro n;induction n with
 | zero=>intro p h;omega
 | succ n ih=>{
 intro p hp;rw[entC_succ'];have hl:=kR n e;by_cases h:p<n
 · rw[List.getElem?_append_left (by omega),List.getElem?_append_left (by omega)];exact ih h
 {
 obtain rfl:p=n:=by omega
 rw[List.getElem?_append_right (by omega),List.getElem?_append_right (by omega),hl];simp}}
theorem aGU{n:Nat}{e e' :Nat->Nat×Int}(h:∀p,p<n->e p=e' p):jH n e=jH n e' :=by
 induction n with
 | zero=>rfl
 | succ n ih=>rw[entC_succ', entC_succ', ih (fun p hp=>h p (by omega)),h n (by omega)]
theorem aLL(n:Nat)(e:Nat->Nat×Int)(x:Nat×Int):jH n e++[.int .i64 x.1,.int .i64 x.2]=jH (n+1) (mW e n x):=by
 rw[entC_succ', fY,aGU (n:=n) (e:=mW e n x) (e' :=e) (fun p hp=>dQ (by omega))]
theorem aPH{n p:Nat}(hp:p<n)(e:Nat->Nat×Int)(x:Nat×Int):((jH n e).set (p*2) (.int .i64 x.1)).set (p*2+1) (.int .i64 x.2)=jH n (mW e p x):=by
 apply List.ext_getElem?;intro j;have hl:=kR n e;have hl' :=kR n (mW e p x);by_cases hj:j<n*2
 {
 have hj2:j/2<n:=by omega
 have h0:=tV (mW e p x) hj2;have h1:=tV e hj2;rcases(show j=j/2*2∨j=j/2*2+1 by omega) with e1|e1
 {
 generalize j/2=k at *;subst e1;rw[h0.1,List.getElem?_set_ne (by omega)];by_cases hk:k=p
 · subst hk;rw[List.getElem?_set_self (by omega),fY]
 · rw[List.getElem?_set_ne (by omega),h1.1,dQ hk]}
 {
 generalize j/2=k at *;subst e1;rw[h0.2];by_cases hk:k=p
 · subst hk;rw[List.getElem?_set_self (by simp;omega),fY]
 · rw[List.getElem?_set_ne (by omega),List.getElem?_set_ne (by omega),h1.2,dQ hk]}}
 · rw[zK (by simp;omega),zK (by omega)]
theorem iN{w:World}{v:Value}{n:Nat}{e:Nat->Nat×Int}(h:w.ownsRow 0 136 2 v n (jH n e)){p:Nat}(hp:p<n):∃b cap,v=.slice (some ⟨b,0,none⟩) n cap/\n<=cap/\b<w.heap.size /\
    w.cell? ⟨b,p*2,none⟩=some (.int .i64 ((e p).1:Int))/\w.cell? ⟨b,p*2+1,none⟩=some (.int .i64 (e p).2)/\∀j,w.frozen? ⟨b,j,none⟩=false:=by
 obtain⟨h1,h2⟩:=h;rcases h2 with⟨rfl,h0⟩|⟨g,cap,cur,rfl,_,hh,hn,hm,hsz,hxs⟩
 · omega
 {
 refine⟨g,cap,rfl,hn,(qU.1 hh).1,?_,?_,fun j=>by simp[World.frozen?,hh]⟩
 all_goals
  have key:∀j,j<2->cur[p*2+j]? =(jH n e)[p*2+j]? :=by {
  intro j hj;rw[<-hxs,List.getElem?_take,qI (by omega)];simp};simp only[World.cell?,hh];simp
 · have:=key 0 (by omega);simp at this;rw[this];exact(tV e hp).1
 · rw[key 1 (by omega)];exact(tV e hp).2}
theorem rB{w:World}{e:TypeId}{size g n cap i:Nat}{xs:List Value}(h:w.ownsRow 0 e size (.slice (some ⟨g,0,none⟩) n cap) n xs)(u:Value):
    (w.setCell ⟨g,i,none⟩ u).ownsRow 0 e size (.slice (some ⟨g,0,none⟩) n cap) n (xs.set i u):=by
 obtain⟨h1,h2⟩:=h;refine⟨by simpa using h1,?_⟩;rcases h2 with⟨h2,_⟩|⟨g', cap', cur,e1,_,hh,hn,hm,hsz,hxs⟩
 · cases h2
 {
 simp only[qY,qQ,Addr.mk.injEq,and_true,true_and]at e1;obtain⟨rfl,rfl⟩:=e1;refine .inr ⟨g,cap,cur.setIfInBounds i u,rfl,zB _,?_,hn,hm,by simpa using hsz,?_⟩
 {
 simp only[World.setCell,Array.getElem?_modify];simp[hh]}
 · rw[<-hxs,Array.toList_setIfInBounds,List.take_set]}
def jY(pl:Nat->Nat)(k:Nat):List Value:=(List.range 64).map fun j=>.int .i64 ((pl (k*64+j):Nat):Int)
theorem nR(pl:Nat->Nat)(k:Nat){j:Nat}(hj:j<64):(jY pl k)[j]? =some (.int .i64 ((pl (k*64+j):Nat):Int)):=by simp[jY,hj]
theorem aGV{pl pl' :Nat->Nat}{k:Nat}(h:∀j,j<64->pl (k*64+j)=pl' (k*64+j)):jY pl k=jY pl' k:=by
 apply List.map_congr_left;intro j hj;rw[h j (by simpa using hj)]
theorem aPI(pl:Nat->Nat)(k x:Nat){j:Nat}(hj:j<64):(jY pl k).set j (.int .i64 (x:Int))=jY (lN pl (k*64+j) x) k:=by
 apply List.ext_getElem?;intro i;by_cases hi:i<64
 {
 rw[nR _ k hi];by_cases e:i=j
 · subst e;rw[List.getElem?_set_self (by simp[jY,hi]),kQ]
 · rw[List.getElem?_set_ne (by omega),nR _ k hi,cY (by omega)]}
 · rw[zK (by simp[jY];omega),zK (by simp[jY];omega)]
structure HM (w:World) (ph slots n:Nat) (e:Nat->Nat×Int) (pl:Nat->Nat) (v:Value) (gp cp:Nat) (bs:Nat->Option Nat):Prop where
  hd:Blk w ph 217 [aL ph,.int .i64 slots,v,.slice (some ⟨gp,0,none⟩) ((slots+63)/64) cp]
  items:w.ownsRow 0 136 2 v n (jH n e)
  dir:Blk w gp 219 ((List.range ((slots+63)/64)).map fun k=>gK (bs k))
  some_:∀k b,k<(slots+63)/64->bs k=some b->Blk w b 221 (jY pl k)
  none_:∀k,k<(slots+63)/64->bs k=none->∀j,j<64->pl (k*64+j)=0
  le:slots<=65536
  nb:n<=65536
  pb:∀i,pl i<=65536
  ap1:ph≠gp
  ap2:v.ownBlock≠some ph
  ap3:v.ownBlock≠some gp
  ap4:∀k b,k<(slots+63)/64->bs k=some b->b≠ph/\b≠gp/\v.ownBlock≠some b
  ap5:∀k k' b,k<(slots+63)/64->k' < (slots+63)/64->bs k=some b->bs k' =some b->k=k'
def hB(slots ph:Nat)(v:Value)(gp:Nat)(bs:Nat->Option Nat):List Nat:=ph::gp::(v.ownBlock.toList++(List.range ((slots+63)/64)).filterMap bs)
theorem dX{slots ph:Nat}{v:Value}{gp:Nat}{bs:Nat->Option Nat}{b:Nat}:b∈hB slots ph v gp bs↔b=ph∨b=gp∨v.ownBlock=some b∨∃k,k<(slots+63)/64/\bs k=some b:=by
 simp[hB]
section
variable {w w' :World} {ph slots n:Nat} {e:Nat->Nat×Int} {pl:Nat->Nat} {v:Value} {gp cp:Nat} {bs:Nat->Option Nat}
theorem HM.fr{S:List Nat}(h:HM w ph slots n e pl v gp cp bs)(hf:Fr S w w')(hs:∀b∈hB slots ph v gp bs,b∉S):HM w' ph slots n e pl v gp cp bs:=
  ⟨hf.blk h.hd (hs _ (by simp[hB])),aI h.items (fun q hq=>hf.keep q (h.items.lt q hq).2 (hs q (dX.2 (.inr (.inr (.inl hq)))))),hf.blk h.dir (hs _ (by simp[hB])),
    fun k b hk hb=>hf.blk (h.some_ k b hk hb) (hs b (dX.2 (.inr (.inr (.inr ⟨k,hk,hb⟩))))),h.none_,h.le,h.nb,h.pb,h.ap1,h.ap2,h.ap3,h.ap4,h.ap5⟩
theorem HM.fr0(h:HM w ph slots n e pl v gp cp bs)(hf:Fr [] w w'):HM w' ph slots n e pl v gp cp bs:=h.fr hf (by simp)
theorem HM.lt(h:HM w ph slots n e pl v gp cp bs):∀b∈hB slots ph v gp bs,b<w.heap.size:=by
 intro b hb;rcases dX.1 hb with rfl|rfl|hb|⟨k,hk,hb⟩
 · exact h.hd.lt
 · exact h.dir.lt
 · exact(h.items.lt b hb).2
 · exact(h.some_ k b hk hb).lt
def gX(x y:Int):Int:=if x<y then -1 else if y<x then 1 else 0
def wC(a b:Nat×Int):Int:=if gX a.2 b.2=0 then gX a.1 b.1 else gX a.2 b.2
theorem aIR(a b:Nat×Int):wC a b<0↔elt a b:=by
 unfold wC gX elt;split<;>split<;>(try split)<;>(try split)<;>omega
theorem aBO(x:Int)(w:World):Calls Tryz.prog 233 #[.int .i64 x] w fun e w' =>e=.returned (.bool false)/\w' =w:=by
 have hb:(x != x)=false:=by simp
 go_enter Tryz.func233,Tryz.ntmps233
 go_wp2
 go_ret;exact⟨rfl,rfl⟩
theorem aPJ(x:Int)(w:World):Calls Tryz.prog 234 #[.int .i64 x] w fun e w' =>e=.returned (.bool false)/\w' =w:=by
 have hb:(x != x)=false:=by simp
 go_enter Tryz.func234,Tryz.ntmps234
 go_wp2
 go_ret;exact⟨rfl,rfl⟩
theorem aUD(x y:Int)(w:World):Calls Tryz.prog 230 #[.int .i64 x,.int .i64 y] w fun e w' =>e=.returned (.int .i64 (gX x y))/\w' =w:=by
 by_cases h1:x<y
 {
 have e1:gX x y=-1:=by unfold gX;rw[qI h1]
 rw[e1];clear e1;go_enter Tryz.func230,Tryz.ntmps230
 go_wp2_with (go_at_call 233;refine(aBO _ _).mono ?_;rintro e w' ⟨rfl,rfl⟩)
 go_ret;exact⟨rfl,rfl⟩}
 {
 by_cases h2:y<x
 {
 have e1:gX x y=1:=by unfold gX;rw[qH h1,qI h2]
 rw[e1];clear e1;go_enter Tryz.func230,Tryz.ntmps230
 go_wp2_with (go_at_call 233;refine(aBO _ _).mono ?_;rintro e w' ⟨rfl,rfl⟩)
 go_ret;exact⟨rfl,rfl⟩}
 {
 have e1:gX x y=0:=by unfold gX;rw[qH h1,qH h2]
 rw[e1];clear e1;go_enter Tryz.func230,Tryz.ntmps230
 go_wp2_with (go_at_call 233;refine(aBO _ _).mono ?_;rintro e w' ⟨rfl,rfl⟩)
 go_ret;exact⟨rfl,rfl⟩}}
theorem bCA(x y:Nat)(w:World):Calls Tryz.prog 231 #[.int .i64 x,.int .i64 y] w fun e w' =>e=.returned (.int .i64 (gX x y))/\w' =w:=by
 by_cases h1:x<y
 {
 have e1:gX x y=-1:=by unfold gX;rw[qI (by omega)]
 rw[e1];clear e1;go_enter Tryz.func231,Tryz.ntmps231
 go_wp2_with (go_at_call 234;refine(aPJ _ _).mono ?_;rintro e w' ⟨rfl,rfl⟩)
 go_ret;exact⟨rfl,rfl⟩}
 {
 by_cases h2:y<x
 {
 have e1:gX x y=1:=by unfold gX;rw[qH (by omega),qI (by omega)]
 rw[e1];clear e1;go_enter Tryz.func231,Tryz.ntmps231
 go_wp2_with (go_at_call 234;refine(aPJ _ _).mono ?_;rintro e w' ⟨rfl,rfl⟩)
 go_ret;exact⟨rfl,rfl⟩}
 {
 have e1:gX x y=0:=by unfold gX;rw[qH (by omega),qH (by omega)]
 rw[e1];clear e1;go_enter Tryz.func231,Tryz.ntmps231
 go_wp2_with (go_at_call 234;refine(aPJ _ _).mono ?_;rintro e w' ⟨rfl,rfl⟩)
 go_ret;exact⟨rfl,rfl⟩}}
theorem or_w(b:Nat)(x y:Int)(w:World)(h:Blk w b 3 [.int .i64 x,.int .i64 y]):Calls Tryz.prog 229 #[.slice (some ⟨b,0,none⟩) 2 2] w fun e w' =>e=.returned (.int .i64 (if x=0 then y else x))/\w' =w:=by
 have c0:=h.cell 0;have c1:=h.cell 1;simp only[zS,zT]at c0 c1;generalize hr:(if x=0 then y else x)=r;have HR:=qB hr;clear hr;go_enter Tryz.func229,Tryz.ntmps229
 go_wp2
 go_loop [8] (fun s=>∃k:Nat,k<=2/\s=.int .i64 k/\Hid ((1<=k->x=0)/\(2<=k->y=0))) (fun s=>2-(intOf s).toNat)
 case atStart=>exact⟨0,by omega,rfl,qB ⟨by omega,by omega⟩⟩
 case round=>
  obtain⟨k,hk,rfl,HK⟩:=hrel;rcases(show k=0∨k=1∨k=2 by omega) with rfl|rfl|rfl
  {
  by_cases hx:x=0
  {
  subst hx;go_wp2
  go_round
  case rel=>exact⟨1,by omega,by go_num,qB ⟨by simp,by omega⟩⟩
  case measure=>simp[intOf]}
  {
  have hb:(x != 0)=true:=by simp[hx]
  have hR2:r=x:=by rw[<-HR.out,qH hx]
  have HR2:=qB hR2;clear hR2 hx;go_wp2
  go_ret;exact⟨by rw[HR2.out];rfl,rfl⟩}}
  {
  have hx:=HK.out.1 (by omega);by_cases hy:y=0
  {
  subst hy;have Hx:=qB hx;clear hx;go_wp2
  go_round
  case rel=>exact⟨2,by omega,by go_num,qB ⟨fun _=>Hx.out,by simp⟩⟩
  case measure=>simp[intOf]}
  {
  have hb:(y != 0)=true:=by simp[hy]
  have hR2:r=y:=by rw[<-HR.out,qI hx]
  have HR2:=qB hR2;clear hR2 hx hy;go_wp2
  go_ret;exact⟨by rw[HR2.out];rfl,rfl⟩}}
  {
  have hx:=HK.out.1 (by omega);have hy:=HK.out.2 (by omega);have hR2:r=0:=by rw[<-HR.out,qI hx,hy]
  have HR2:=qB hR2;clear hR2 hx hy;go_wp2
  go_ret;exact⟨by rw[HR2.out];rfl,rfl⟩}
theorem aIS(a b:Nat×Int)(w:World):Calls Tryz.prog 224 #[.agg #[.int .i64 a.1,.int .i64 a.2],.agg #[.int .i64 b.1,.int .i64 b.2]] w fun e w' =>e=.returned (.int .i64 (wC a b))/\Fr [] w w' :=by
 obtain⟨a1,a2⟩:=a;obtain⟨b1,b2⟩:=b;have hr:(if gX a2 b2=0 then gX a1 b1 else gX a2 b2)=wC (a1,a2) (b1,b2):=rfl;have HO:=qB (fun(W:World) (n:Nat) (h:Blk W n 3 [.int .i64 (gX a2 b2),.int .i64 (gX a1 b1)])=>or_w n (gX a2 b2) (gX a1 b1) W h);rw[hr]at HO;have HC1:=qB (fun w=>aUD a2 b2 w);have HC2:=qB (fun w=>bCA a1 b1 w);clear hr;generalize wC (a1,a2) (b1,b2)=r at *;generalize gX a2 b2=x at *;generalize gX a1 b1=y at *;have e1:=Blk.new w [.int .i64 a1,.int .i64 a2] 136;have e2:=Blk.new (w.alloc (.cells [.int .i64 a1,.int .i64 a2].toArray 136)) [.int .i64 b1,.int .i64 b2] 136;have e1' :=e1.alloc (.cells [.int .i64 b1,.int .i64 b2].toArray 136);simp only[World.size_alloc]at e2;have hF:Fr [] w ((w.alloc (.cells [.int .i64 a1,.int .i64 a2].toArray 136)).alloc (.cells [.int .i64 b1,.int .i64 b2].toArray 136)):=((Fr.refl _ _).alloc _).alloc _;have x0:=e1'.cell 0;have x1:=e1'.cell 1;have y0:=e2.cell 0;have y1:=e2.cell 1;simp only[zS,zT]at x0 x1 y0 y1;clear e1 e2 e1';have HF:=qB hF;clear hF;go_enter Tryz.func224,Tryz.ntmps224
 go_wp2
 generalize hw0:((w.alloc (.cells #[.int .i64 a1,.int .i64 a2] 136)).alloc (.cells #[.int .i64 b1,.int .i64 b2] 136))=w0 at *;clear hw0
 go_region_held3 (fun w' => w'.cell? ⟨w.heap.size, 0, none⟩ = some (.int .i64 a1) /\ w'.cell? ⟨w.heap.size, 1, none⟩ = some (.int .i64 a2) /\ w'.cell? ⟨w.heap.size + 1, 0, none⟩ = some (.int .i64 b1) /\ w'.cell? ⟨w.heap.size + 1, 1, none⟩ = some (.int .i64 b2))
   (first|go_keep)
   (first
     | (go_at_call 230;refine(HC1.out _).mono ?_;rintro e w' ⟨rfl,rfl⟩)
     | (go_at_call 231;refine(HC2.out _).mono ?_;rintro e w' ⟨rfl,rfl⟩)
     | (go_at_call 229;refine(HO.out _ _ ((Blk.new w0 _ _).drew)).mono ?_;rintro e w' ⟨rfl,rfl⟩))
 go_wp2
 go_ret;exact⟨rfl,(HF.out.alloc _).drew⟩
@[go_sem] theorem bCB(w:World)(a:Addr):(binOp .eql 122 (.pointer (some a)) (.pointer (some a))).run Tryz.prog w=.ok (.bool true) w:=by
 obtain⟨j,hj⟩:=zE.1 (show(Tryz.prog.info? 217).isSome=true by kernel_rfl);exact run_eql_ptr_same w a Tryz.underlying122 hj
theorem mX(h:HM w ph slots n e pl v gp cp bs):Calls Tryz.prog 150 #[.pointer (some ⟨ph,0,none⟩)] w fun e' w' =>e' =.returned (.bool true)/\w' =w:=by
 have c0:w.cell? ⟨ph,0,none⟩=some (.pointer (some ⟨ph,0,none⟩)):=h.hd.cell 0;clear h;go_enter Tryz.func150,Tryz.ntmps150
 go_wp2
 go_ret;exact⟨rfl,rfl⟩
theorem aPK(h:HM w ph slots n e pl v gp cp bs){i:Nat}(hi:i<slots):Calls Tryz.prog 195 #[aL ph,.int .i64 i] w fun e' w' =>e' =.returned (.bool true)/\w' =w:=by
 have c1:=h.hd.cell 1;simp only[zS,zT]at c1;have t1:decide (i<slots)=true:=qO hi;have hi' :(i:Int)<slots:=by omega
 have hi0:(0:Int)<=i:=by omega
 clear h;go_enter Tryz.func195,Tryz.ntmps195
 go_wp2
 go_ret;exact⟨rfl,rfl⟩
end
section
variable {w w' :World} {ph slots n:Nat} {e:Nat->Nat×Int} {pl:Nat->Nat} {v:Value} {gp cp:Nat} {bs:Nat->Option Nat}
theorem HM.dirAt(h:HM w ph slots n e pl v gp cp bs){k:Nat}(hk:k<(slots+63)/64):w.cell? ⟨gp,k,none⟩=some (gK (bs k)):=by
 rw[h.dir.cell];simp[hk]
theorem aIT(h:HM w ph slots n e pl v gp cp bs){i:Nat}(hi:i<slots):
    Calls Tryz.prog 196 #[aL ph,.int .i64 i] w fun e w' =>e=.returned (.int .i64 ((pl i:Int)-1))/\w' =w:=by
 have hle:=h.le;have hk:i/64<(slots+63)/64:=by omega
 have c3:=h.hd.cell 3;simp only[zS,zT]at c3;have hd:=h.dirAt hk;have hm:i=i/64*64+i%64:=by omega
 have hi6:i<65536:=by omega
 cases hb:bs (i/64) with
 | none=>{
 rw[hb]at hd;have h0:=h.none_ _ hk hb (i%64) (by omega);rw[<-hm]at h0;rw[h0];simp only[gK,Option.map_none]at hd;clear hm h0 h hb hle;generalize (slots+63)/64=m at *;go_enter Tryz.func196,Tryz.ntmps196
 go_wp2
 go_ret;exact⟨rfl,rfl⟩}
 | some b=>{
 rw[hb]at hd;have h0:=(h.some_ _ _ hk hb).cell (i%64);rw[nR pl (i/64) (by omega),<-hm]at h0;simp only[gK,Option.map_some]at hd;have hpl:(0:Int)<=pl i:=by omega
 have hx:=h.pb i;clear hm h hb hle;generalize (slots+63)/64=m at *;generalize pl i=x at *;go_enter Tryz.func196,Tryz.ntmps196
 go_wp2
 go_ret;exact⟨rfl,rfl⟩}
theorem yW{pl:Nat->Nat}{k:Nat}(h:∀j,j<64->pl (k*64+j)=0):jY pl k=List.replicate 64 (.int .i64 0):=by
 apply List.ext_getElem?;intro j;by_cases hj:j<64
 · rw[nR pl k hj,h j hj,List.getElem?_replicate,qI hj];rfl
 · rw[zK (by simp[jY];omega),zK (by rw[List.length_replicate];omega)]
def aBP(bs:Nat->Option Nat)(k b:Nat):Nat->Option Nat:=fun x=>if x=k then some b else bs x
theorem cK(bs:Nat->Option Nat)(k b:Nat):aBP bs k b k=some b:=by simp[aBP]
theorem cE{bs:Nat->Option Nat}{k b x:Nat}(h:x≠k):aBP bs k b x=bs x:=by simp[aBP,h]
theorem HM.note(h:HM w ph slots n e pl v gp cp bs){i x b:Nat}(hi:i<slots)(hb:bs (i/64)=some b)(hx:x<=65536):
    HM (w.setCell ⟨b,i%64,none⟩ (.int .i64 (x:Int))) ph slots n e (lN pl i x) v gp cp bs:=by
 have hk:i/64<(slots+63)/64:=by omega
 have hm:i=i/64*64+i%64:=by omega
 obtain⟨a1,a2,a3⟩:=h.ap4 _ _ hk hb;refine⟨h.hd.other _ _ (fun e=>a1 e.symm),bQ h.items _ _ a3,h.dir.other _ _ (fun e=>a2 e.symm),fun k b' hk' hb' =>?_,fun k hk' hb' j hj=>?_,h.le,h.nb,fun j=>?_,h.ap1,h.ap2,h.ap3,h.ap4,h.ap5⟩
 {
 by_cases e1:k=i/64
 {
 subst e1;rw[hb]at hb'; cases hb';have:=(h.some_ _ _ hk hb).set (i%64) (.int .i64 (x:Int));rw[aPI pl (i/64) x (by omega),<-hm]at this;exact this}
 {
 have:=(h.some_ _ _ hk' hb').other ⟨b,i%64,none⟩ (.int .i64 (x:Int)) (fun e=>e1 (h.ap5 _ _ _ hk' hk hb' (by rw[hb];exact congrArg some e.symm)));rw[aGV (pl:=pl) (pl' :=lN pl i x) (k:=k) (fun j hj=>(cY (by omega)).symm)]at this;exact this}}
 {
 have e1:k≠i/64:=by rintro rfl;rw[hb]at hb'; cases hb'
 rw[cY (by omega)];exact h.none_ k hk' hb' j hj}
 {
 unfold lN;split
 · exact hx
 · exact h.pb j}
theorem HM.more(h:HM w ph slots n e pl v gp cp bs){k b:Nat}(hk:k<(slots+63)/64)(hb:bs k=none)(hw:w.heap.size=b):
    HM ((w.alloc (.cells #[.int .i64 0,.int .i64 0,.int .i64 0,.int .i64 0,.int .i64 0,.int .i64 0,.int .i64 0,.int .i64 0,.int .i64 0,.int .i64 0,.int .i64 0,.int .i64 0,.int .i64 0,.int .i64 0,.int .i64 0,.int .i64 0,.int .i64 0,.int .i64 0,.int .i64 0,.int .i64 0,.int .i64 0,.int .i64 0,.int .i64 0,.int .i64 0,.int .i64 0,.int .i64 0,.int .i64 0,.int .i64 0,.int .i64 0,.int .i64 0,.int .i64 0,.int .i64 0,.int .i64 0,.int .i64 0,.int .i64 0,.int .i64 0,.int .i64 0,.int .i64 0,.int .i64 0,.int .i64 0,.int .i64 0,.int .i64 0,.int .i64 0,.int .i64 0,.int .i64 0,.int .i64 0,.int .i64 0,.int .i64 0,.int .i64 0,.int .i64 0,.int .i64 0,.int .i64 0,.int .i64 0,.int .i64 0,.int .i64 0,.int .i64 0,.int .i64 0,.int .i64 0,.int .i64 0,.int .i64 0,.int .i64 0,.int .i64 0,.int .i64 0,.int .i64 0] 221)).setCell ⟨gp,k,none⟩ (aL b)) ph slots n e pl v gp cp (aBP bs k b):=by
 subst hw;have h1:=h.fr0 ((Fr.refl [] w).alloc (.cells #[.int .i64 0,.int .i64 0,.int .i64 0,.int .i64 0,.int .i64 0,.int .i64 0,.int .i64 0,.int .i64 0,.int .i64 0,.int .i64 0,.int .i64 0,.int .i64 0,.int .i64 0,.int .i64 0,.int .i64 0,.int .i64 0,.int .i64 0,.int .i64 0,.int .i64 0,.int .i64 0,.int .i64 0,.int .i64 0,.int .i64 0,.int .i64 0,.int .i64 0,.int .i64 0,.int .i64 0,.int .i64 0,.int .i64 0,.int .i64 0,.int .i64 0,.int .i64 0,.int .i64 0,.int .i64 0,.int .i64 0,.int .i64 0,.int .i64 0,.int .i64 0,.int .i64 0,.int .i64 0,.int .i64 0,.int .i64 0,.int .i64 0,.int .i64 0,.int .i64 0,.int .i64 0,.int .i64 0,.int .i64 0,.int .i64 0,.int .i64 0,.int .i64 0,.int .i64 0,.int .i64 0,.int .i64 0,.int .i64 0,.int .i64 0,.int .i64 0,.int .i64 0,.int .i64 0,.int .i64 0,.int .i64 0,.int .i64 0,.int .i64 0,.int .i64 0] 221));have hlt:=h.lt;have hnew:=Blk.new w (jY pl k) 221;rw[yW (h.none_ k hk hb)]at hnew;have e0:(List.replicate 64 (Value.int .i64 0)).toArray=(#[.int .i64 0,.int .i64 0,.int .i64 0,.int .i64 0,.int .i64 0,.int .i64 0,.int .i64 0,.int .i64 0,.int .i64 0,.int .i64 0,.int .i64 0,.int .i64 0,.int .i64 0,.int .i64 0,.int .i64 0,.int .i64 0,.int .i64 0,.int .i64 0,.int .i64 0,.int .i64 0,.int .i64 0,.int .i64 0,.int .i64 0,.int .i64 0,.int .i64 0,.int .i64 0,.int .i64 0,.int .i64 0,.int .i64 0,.int .i64 0,.int .i64 0,.int .i64 0,.int .i64 0,.int .i64 0,.int .i64 0,.int .i64 0,.int .i64 0,.int .i64 0,.int .i64 0,.int .i64 0,.int .i64 0,.int .i64 0,.int .i64 0,.int .i64 0,.int .i64 0,.int .i64 0,.int .i64 0,.int .i64 0,.int .i64 0,.int .i64 0,.int .i64 0,.int .i64 0,.int .i64 0,.int .i64 0,.int .i64 0,.int .i64 0,.int .i64 0,.int .i64 0,.int .i64 0,.int .i64 0,.int .i64 0,.int .i64 0,.int .i64 0,.int .i64 0]:Array Value):=rfl;rw[e0]at hnew;have hgl:=h.dir.lt;have hpl:=h.hd.lt;refine⟨h1.hd.other _ _ h.ap1,bQ h1.items _ _ h.ap3,?_,fun j b' hj hb' =>?_,fun j hj hb' =>?_,h.le,h.nb,h.pb,h.ap1,h.ap2,h.ap3,fun j b' hj hb' =>?_,fun j j' b' hj hj' hb' hb2=>?_⟩
 {
 have:=h1.dir.set k (aL w.heap.size);have e1:((List.range ((slots+63)/64)).map fun x=>gK (bs x)).set k (aL w.heap.size)=(List.range ((slots+63)/64)).map fun x=>gK (aBP bs k w.heap.size x):=by {
 apply List.ext_getElem?;intro j;by_cases hj:j<(slots+63)/64
 {
 by_cases e2:j=k
 · subst e2;rw[List.getElem?_set_self (by simpa using hj)];simp[hj,cK,gK]
 · rw[List.getElem?_set_ne (by omega)];simp[hj,cE e2]}
 · rw[zK (by simp;omega),zK (by simp;omega)]};rw[e1]at this;exact this}
 {
 by_cases e2:j=k
 {
 subst e2;rw[cK]at hb'; cases hb';rw[yW (h.none_ j hk hb)];exact hnew.other _ _ (by simp;omega)}
 {
 rw[cE e2]at hb';exact(h1.some_ j b' hj hb').other _ _ (h.ap4 j b' hj hb').2.1}}
 {
 have e2:j≠k:=by rintro rfl;rw[cK]at hb'; cases hb'
 rw[cE e2]at hb';exact h.none_ j hj hb'}
 {
 by_cases e2:j=k
 {
 subst e2;rw[cK]at hb'; cases hb';refine⟨by omega,by omega,fun e3=>?_⟩;have:=(h.items.lt _ e3).2;omega}
 · rw[cE e2]at hb'; exact h.ap4 j b' hj hb'}
 {
 by_cases e2:j=k
 {
 by_cases e3:j' =k
 · omega
 {
 rw[cE e3]at hb2;subst e2;rw[cK]at hb'; cases hb';have:=(h.some_ j' _ hj' hb2).lt;omega}}
 {
 rw[cE e2]at hb';by_cases e3:j' =k
 {
 subst e3;rw[cK]at hb2;cases hb2;have:=(h.some_ j _ hj hb').lt;omega}
 {
 rw[cE e3]at hb2;exact h.ap5 j j' b' hj hj' hb' hb2}}}
theorem aUE{k b:Nat}:∀q∈hB slots ph v gp (aBP bs k b),q∈hB slots ph v gp bs∨q=b:=by
 intro q hq;rcases dX.1 hq with h|h|h|⟨j,hj,h⟩
 · exact .inl (dX.2 (.inl h))
 · exact .inl (dX.2 (.inr (.inl h)))
 · exact .inl (dX.2 (.inr (.inr (.inl h))))
 {
 by_cases e:j=k
 · subst e;rw[cK]at h;cases h;exact .inr rfl
 · rw[cE e]at h;exact .inl (dX.2 (.inr (.inr (.inr ⟨j,hj,h⟩))))}
theorem aIU(h:HM w ph slots n e pl v gp cp bs){i x:Nat}(hi:i<slots)(hx:x<=65536)(p:Int)(hp:p+1=x):
    Calls Tryz.prog 176 #[aL ph,.int .i64 i,.int .i64 p] w fun e' w' =>e' =.returned (.tuple #[])/\∃bs', HM w' ph slots n e (lN pl i x) v gp cp bs' /\ Fr (hB slots ph v gp bs) w w' /\ ∀q∈hB slots ph v gp bs', q∈hB slots ph v gp bs∨w.heap.size<=q:=by
 have hle:=h.le;have hk:i/64<(slots+63)/64:=by omega
 have c3:=h.hd.cell 3;simp only[zS,zT]at c3;have hd:=h.dirAt hk;have hi6:i<65536:=by omega
 have hgz:=h.dir.frozen (i/64);have HX:Hid (.int .i64 (p+1)=(.int .i64 (x:Int):Value)):=qB (by rw[hp]);have hp2:p<9223372036854775807:=by omega
 have hp1:-9223372036854775808<=p:=by omega
 clear hp;cases hb:bs (i/64) with
 | some b=>{
 rw[hb]at hd;simp only[gK,Option.map_some]at hd;have h0:=(h.some_ _ _ hk hb).cell (i%64);have hz:=(h.some_ _ _ hk hb).frozen (i%64);rw[nR pl (i/64) (by omega)]at h0;have HN:=qB (h.note hi hb hx);have HF:Hid (Fr (hB slots ph v gp bs) w (w.setCell ⟨b,i%64,none⟩ (.int .i64 (x:Int)))):=qB ((Fr.refl _ w).setCell _ _ (.inl (dX.2 (.inr (.inr (.inr ⟨_,hk,hb⟩))))));clear h hb hle;rw[<-HX.out]at HN HF;generalize (slots+63)/64=m at *;go_enter Tryz.func176,Tryz.ntmps176
 go_wp2
 go_end0
 exact⟨rfl,bs,HN.out,HF.out,fun q hq=>.inl hq⟩}
 | none=>{
 rw[hb]at hd;simp only[gK,Option.map_none]at hd;have hM:=h.more hk hb rfl;have c3' :=hM.hd.cell 3;simp only[zS,zT]at c3';have hd' :=hM.dirAt hk;rw[cK]at hd';simp only[gK,Option.map_some]at hd';have h0:=(hM.some_ _ _ hk (cK _ _ _)).cell (i%64);have hz:=(hM.some_ _ _ hk (cK _ _ _)).frozen (i%64);rw[nR pl (i/64) (by omega)]at h0;have HN:=qB (hM.note hi (cK _ _ _) hx);have hF1:Fr (hB slots ph v gp bs) w ((w.alloc (.cells #[.int .i64 0,.int .i64 0,.int .i64 0,.int .i64 0,.int .i64 0,.int .i64 0,.int .i64 0,.int .i64 0,.int .i64 0,.int .i64 0,.int .i64 0,.int .i64 0,.int .i64 0,.int .i64 0,.int .i64 0,.int .i64 0,.int .i64 0,.int .i64 0,.int .i64 0,.int .i64 0,.int .i64 0,.int .i64 0,.int .i64 0,.int .i64 0,.int .i64 0,.int .i64 0,.int .i64 0,.int .i64 0,.int .i64 0,.int .i64 0,.int .i64 0,.int .i64 0,.int .i64 0,.int .i64 0,.int .i64 0,.int .i64 0,.int .i64 0,.int .i64 0,.int .i64 0,.int .i64 0,.int .i64 0,.int .i64 0,.int .i64 0,.int .i64 0,.int .i64 0,.int .i64 0,.int .i64 0,.int .i64 0,.int .i64 0,.int .i64 0,.int .i64 0,.int .i64 0,.int .i64 0,.int .i64 0,.int .i64 0,.int .i64 0,.int .i64 0,.int .i64 0,.int .i64 0,.int .i64 0,.int .i64 0,.int .i64 0,.int .i64 0,.int .i64 0] 221)).setCell ⟨gp,i/64,none⟩ (aL w.heap.size)):=((Fr.refl _ w).alloc _).setCell _ _ (.inl (by simp[hB]));have HF:Hid (Fr (hB slots ph v gp bs) w (((w.alloc (.cells #[.int .i64 0,.int .i64 0,.int .i64 0,.int .i64 0,.int .i64 0,.int .i64 0,.int .i64 0,.int .i64 0,.int .i64 0,.int .i64 0,.int .i64 0,.int .i64 0,.int .i64 0,.int .i64 0,.int .i64 0,.int .i64 0,.int .i64 0,.int .i64 0,.int .i64 0,.int .i64 0,.int .i64 0,.int .i64 0,.int .i64 0,.int .i64 0,.int .i64 0,.int .i64 0,.int .i64 0,.int .i64 0,.int .i64 0,.int .i64 0,.int .i64 0,.int .i64 0,.int .i64 0,.int .i64 0,.int .i64 0,.int .i64 0,.int .i64 0,.int .i64 0,.int .i64 0,.int .i64 0,.int .i64 0,.int .i64 0,.int .i64 0,.int .i64 0,.int .i64 0,.int .i64 0,.int .i64 0,.int .i64 0,.int .i64 0,.int .i64 0,.int .i64 0,.int .i64 0,.int .i64 0,.int .i64 0,.int .i64 0,.int .i64 0,.int .i64 0,.int .i64 0,.int .i64 0,.int .i64 0,.int .i64 0,.int .i64 0,.int .i64 0,.int .i64 0] 221)).setCell ⟨gp,i/64,none⟩ (aL w.heap.size)).setCell ⟨w.heap.size,i%64,none⟩ (.int .i64 (x:Int)))):=qB (hF1.setCell _ _ (.inr (qS _)));have c3a:(w.alloc (.cells #[.int .i64 0,.int .i64 0,.int .i64 0,.int .i64 0,.int .i64 0,.int .i64 0,.int .i64 0,.int .i64 0,.int .i64 0,.int .i64 0,.int .i64 0,.int .i64 0,.int .i64 0,.int .i64 0,.int .i64 0,.int .i64 0,.int .i64 0,.int .i64 0,.int .i64 0,.int .i64 0,.int .i64 0,.int .i64 0,.int .i64 0,.int .i64 0,.int .i64 0,.int .i64 0,.int .i64 0,.int .i64 0,.int .i64 0,.int .i64 0,.int .i64 0,.int .i64 0,.int .i64 0,.int .i64 0,.int .i64 0,.int .i64 0,.int .i64 0,.int .i64 0,.int .i64 0,.int .i64 0,.int .i64 0,.int .i64 0,.int .i64 0,.int .i64 0,.int .i64 0,.int .i64 0,.int .i64 0,.int .i64 0,.int .i64 0,.int .i64 0,.int .i64 0,.int .i64 0,.int .i64 0,.int .i64 0,.int .i64 0,.int .i64 0,.int .i64 0,.int .i64 0,.int .i64 0,.int .i64 0,.int .i64 0,.int .i64 0,.int .i64 0,.int .i64 0] 221)).cell? ⟨ph,3,none⟩=some (.slice (some ⟨gp,0,none⟩) ((slots+63)/64) cp):=((Fr.refl [] w).alloc _).cell c3 (by simp);have hda:(w.alloc (.cells #[.int .i64 0,.int .i64 0,.int .i64 0,.int .i64 0,.int .i64 0,.int .i64 0,.int .i64 0,.int .i64 0,.int .i64 0,.int .i64 0,.int .i64 0,.int .i64 0,.int .i64 0,.int .i64 0,.int .i64 0,.int .i64 0,.int .i64 0,.int .i64 0,.int .i64 0,.int .i64 0,.int .i64 0,.int .i64 0,.int .i64 0,.int .i64 0,.int .i64 0,.int .i64 0,.int .i64 0,.int .i64 0,.int .i64 0,.int .i64 0,.int .i64 0,.int .i64 0,.int .i64 0,.int .i64 0,.int .i64 0,.int .i64 0,.int .i64 0,.int .i64 0,.int .i64 0,.int .i64 0,.int .i64 0,.int .i64 0,.int .i64 0,.int .i64 0,.int .i64 0,.int .i64 0,.int .i64 0,.int .i64 0,.int .i64 0,.int .i64 0,.int .i64 0,.int .i64 0,.int .i64 0,.int .i64 0,.int .i64 0,.int .i64 0,.int .i64 0,.int .i64 0,.int .i64 0,.int .i64 0,.int .i64 0,.int .i64 0,.int .i64 0,.int .i64 0] 221)).cell? ⟨gp,i/64,none⟩=some (.pointer none):=((Fr.refl [] w).alloc _).cell hd (by simp);have hza:(w.alloc (.cells #[.int .i64 0,.int .i64 0,.int .i64 0,.int .i64 0,.int .i64 0,.int .i64 0,.int .i64 0,.int .i64 0,.int .i64 0,.int .i64 0,.int .i64 0,.int .i64 0,.int .i64 0,.int .i64 0,.int .i64 0,.int .i64 0,.int .i64 0,.int .i64 0,.int .i64 0,.int .i64 0,.int .i64 0,.int .i64 0,.int .i64 0,.int .i64 0,.int .i64 0,.int .i64 0,.int .i64 0,.int .i64 0,.int .i64 0,.int .i64 0,.int .i64 0,.int .i64 0,.int .i64 0,.int .i64 0,.int .i64 0,.int .i64 0,.int .i64 0,.int .i64 0,.int .i64 0,.int .i64 0,.int .i64 0,.int .i64 0,.int .i64 0,.int .i64 0,.int .i64 0,.int .i64 0,.int .i64 0,.int .i64 0,.int .i64 0,.int .i64 0,.int .i64 0,.int .i64 0,.int .i64 0,.int .i64 0,.int .i64 0,.int .i64 0,.int .i64 0,.int .i64 0,.int .i64 0,.int .i64 0,.int .i64 0,.int .i64 0,.int .i64 0,.int .i64 0] 221)).frozen? ⟨gp,i/64,none⟩=false:=(h.dir.alloc _).frozen (i/64);clear h hb hle hM hF1;rw[<-HX.out]at HN HF;generalize (slots+63)/64=m at *;go_enter Tryz.func176,Tryz.ntmps176
 go_wp2
 go_end0
 exact⟨rfl,_,HN.out,HF.out,fun q hq=>(aUE q hq).imp (fun h=>h) (fun h=>by omega)⟩}
end
end Go.Proofs.YtgmnemndjjmgkaaGreat
