/- The heap: place, put, swap. -/
import Derived.Test.YtgmnemndjjmgkaaGreatB5
import Derived.Test.YtgmnemndjjmgkaaGreatB4
import Derived.Test.YtgmnemndjjmgkaaGreatB1
import Derived.Deep.RegionHeld3
import Derived.StillTailTactics
import Derived.Deep.Upon
import Derived.Deep.RegionLaw
set_option linter.unusedSimpArgs false
set_option linter.unusedVariables false
/- lct: expose. -/
namespace Go.Proofs.YtgmnemndjjmgkaaGreat
open Go.RowKit
set_option maxRecDepth 10000
set_option maxHeartbeats 800000
theorem splay_f{w:World}{pf g N cap:Nat}{σ:Tbl}{ed:Int}(h:LctAt w pf g N cap σ ed){par d rt:Nat→Nat}{t:BT}{u:Nat}{R:Fst}(hF:LF N σ ((t,u)::R) par d rt)(i:Nat)(hi:i∈t.nodes):
    Calls Tryz.prog 173 #[.pointer (some ⟨pf,0,none⟩),.int .i64 i] w fun e w' =>e=.returned (.tuple #[]) ∧
      ∃σ' l' r', LctAt w' pf g N cap σ' ed∧Rep σ' (.node false l' i r') u∧(BT.node false l' i r').seq=t.seq∧(BT.node false l' i r').nodes.Perm t.nodes∧Rotated σ σ' t.nodes∧InR N σ' ∧ Fr [g] w w' :=by
 obtain⟨c,f,l,r,rfl⟩:=zip_ex hi;have hnd:=hF.nd;rw[fnodes_cons,qW]at hnd;exact splay_w h i hF.inR c f l r u (hF.rep (plug c (.node f l i r),u) (by simp)) hnd.1 hF.outs (fun x hx=>(hF.lt (p:=(plug c (.node f l i r),u)) (by simp) hx).2)
theorem expose_w{w:World}{pf g N cap:Nat}{σ:Tbl}{ed:Int}(h:LctAt w pf g N cap σ ed){par d rt:Nat→Nat}{F:Fst}(hF:LF N σ F par d rt)(i:Nat)(hi0:0<i)(hi:i<N):
    Calls Tryz.prog 134 #[.pointer (some ⟨pf,0,none⟩),.int .i64 i] w fun e w' =>∃m τ l R,e=.returned (.int .i64 (m:Nat))∧LctAt w' pf g N cap τ ed∧Exposed N σ F par d rt i m τ l R∧Fr [g] w w' :=by
 have hN:=h.le;have HX:=qB (XI.start hF hi hi0);clear hF;go_enter Tryz.func134,Tryz.ntmps134
 go_wp2
 go_loopg [5,6] (d i+1) (fun k a b wr=>∃(τ:Tbl) (B:BT) (j:Nat) (R:Fst),a=.int .i64 B.root∧b=.int .i64 j∧LctAt wr pf g N cap τ ed∧Fr [g] w wr∧Hid (XI N σ F par d rt i τ B j R)∧(j≠0→d j<k))
 case atStart=>exact⟨σ,.nil,i,F,rfl,rfl,h,Fr.refl _ _,HX,fun _=>Nat.lt_succ_self _⟩
 case round=>
  clear h HX;obtain⟨τ,B,j,R,rfl,rfl,hL,hFr,HX,hk⟩:=hrel;by_cases hj:j=0
  {
  subst hj;obtain⟨hiB,_⟩:=HX.out.done (by omega);go_wp2_with fail
  refine(splay_f hL HX.out.lf i hiB).mono ?_;rintro _ w2 ⟨rfl,τ2,l2,r2,hL2,q1,q2,q3,q4,q5,hF2⟩;have HE:=qB (HX.out.exposed (by omega) q1 q2 q3 q4);clear q1 q2 q3 q4 q5;go_wp2
  go_ret;exact⟨B.root,τ2,l2,R,rfl,hL2,HE.out,hFr.then hF2⟩}
  {
  obtain⟨t,u,R2,hR2,hjt⟩:=HX.out.split hj;have HR2:=qB hR2;clear hR2;have hb0:((j:Int) == 0)=false:=zA.2 (by omega);have hjN:j<N:=HX.out.lf.up (B,j) (by simp);have hj2:(j:Int)<N:=by omega
  have hbN:B.root<N:=by {
  by_cases e:B.root=0
  · rw[e];omega
  · exact(HX.out.lf.lt (p:=(B,j)) (by simp) (BT.root_mem e)).2};have hb2:(B.root:Int)<N:=by omega
  have Hk:=qB hk;clear hk;have Hj:=qB hj;clear hj;go_wp2_with fail
  refine(splay_f hL (HX.out.lf2 HR2.out) j hjt).mono ?_;rintro _ w2 ⟨rfl,τ2,l2,r2,hL2,q1,q2,q3,q4,q5,hF2⟩;have HE:=qB (HX.out.next Hj.out HR2.out hjt q1 q2 q3 q4);have HI:=qB q5;have hk1:=(q5 j hjN).2.1;have hk1' :((τ2 j).k1:Int)<N:=by omega
  clear q1 q2 q3 q4 q5;have a7:=hL2.nodes.c7 j hjN;have a1:=hL2.nodes.c1 j hjN;have a8:=hL2.nodes.c8 (τ2 j).k1 hk1;have b8:=hL2.nodes.c8 B.root hbN;have d1:=hL2.hd.cell 1;simp only[zS,zT]at d1;have hfz:=hL2.nodes.frozen;generalize hbr:B.root=br at *;have Hbr:=qB hbr;clear hbr;go_wp2
  refine region_one 28 (fun w' =>LctAt w' pf g N cap (xst1 τ2 j br) ed∧Fr [g] w2 w') (by kernel_rfl) (by kernel_rfl) (by kernel_rfl) ?_;iterate 28 (refine gWalk_pre (by decide) (fun K hK=>?_);go_simp;refine hK _ ?_;clear hK K)
  refine gWalk_write rfl undef (fun w' hw' =>?_) ?_
  {
  obtain⟨nq,rfl⟩:=hw';go_simp;rw[iw64,iw64];exact(hL2.eqv (Eqv.drewN w2 nq)).st7 ((Fr.refl [g] w2).drewN nq) hjN _};refine gWalk_nil ?_;rintro w3 ⟨hL3,hF3⟩;clear a7 a1 a8 b8 d1 hfz;have hk3:=hL3.nodes.c1 j hjN;have hfz3:=hL3.nodes.frozen;obtain⟨hL4,hF4⟩:=hL3.st1 (Fr.refl [g] w3) hjN br;have HL4:=qB (show LctAt (w3.setCell ⟨g,j*9+1,none⟩ (.int .i64 br)) pf g N cap (xst2 τ2 j br) ed from hL4);clear hL4;go_wp2_with fail
  refine(refresh_w HL4.out j hjN HE.out.2.1.2.2.2 HE.out.2.1.2.1 HE.out.2.1.2.2.1).mono ?_;rintro _ w5 ⟨rfl,hL5,hF5⟩;change LctAt w5 pf g N cap (xstep τ2 j br) ed at hL5;have e2:=hL5.nodes.c2 j hjN;rw[HE.out.2.2.2]at e2;have d5:=hL5.hd.cell 1;simp only[zS,zT]at d5;clear hfz3 hk3 HL4;go_wp2
  go_roundg (if u=0 then 0 else d u+1)
  case measure=>
   have:=Hk.out Hj.out;by_cases e:u=0
   · rw[qI e];omega
   · rw[qH e];have:=HE.out.2.2.1 e;omega
  case rel=>refine⟨_,_,u,_,rfl,rfl,hL5,hFr.then (hF2.then (hF3.then (hF4.then hF5))),qB HE.out.1,fun e=>by rw[qH e];exact Nat.lt_succ_self _⟩}
theorem lead_w{w:World}{pf g N cap:Nat}{σ:Tbl}{ed:Int}(h:LctAt w pf g N cap σ ed){par d rt:Nat→Nat}{F:Fst}(hF:LF N σ F par d rt)(i:Nat)(hi0:0<i)(hi:i<N):
    Calls Tryz.prog 172 #[.pointer (some ⟨pf,0,none⟩),.int .i64 i] w fun e w' =>e=.returned (.tuple #[])∧∃τ l R par' d' rt', LctAt w' pf g N cap τ ed∧LF N τ ((.node true l i .nil,0)::R) par' d' rt' ∧ (∀x,(τ x).key=(σ x).key) ∧
      (∀x y,Adj par' x y↔Adj par x y)∧(∀x y,rt' x=rt' y↔rt x=rt y)∧rt' i=i∧Fr [g] w w' :=by
 have hN:=h.le;have hi2:(i:Int)<N:=by omega
 go_enter Tryz.func172,Tryz.ntmps172
 go_wp2_with fail
 refine(expose_w h hF i hi0 hi).mono ?_;rintro _ w2 ⟨m,τ,l,R,rfl,hL2,hE,hF2⟩;obtain⟨par', d', rt', q1,q2,q3,q4,q5⟩:=hE.lf.lead;have HE:=qB hE.key;have Q:=qB (zR q1 (zR q2 (zR q3 q4)));clear q1 q2 q3 q4 q5 hE h hF;have d1:=hL2.hd.cell 1;simp only[zS,zT]at d1;have a3:=hL2.nodes.c3 i hi;have hfz:=hL2.nodes.frozen;obtain⟨hL3,hF3⟩:=hL2.st3 hF2 hi true;go_wp2
 go_end0
 refine⟨rfl,_,l,R,par', d', rt', hL3,Q.out.1,fun x=>?_,Q.out.2.1,Q.out.2.2.1,Q.out.2.2.2,hF3⟩;rw[←HE.out x];by_cases e:x=i
 · subst e;rw[upd_same]
 · rw[upd_other e]
structure Pathed (N:Nat) (σ:Tbl) (par rt:Nat→Nat) (i j:Nat) (τ:Tbl) (l:BT) (R:Fst) (par' d' rt' :Nat→Nat):Prop where
  lf:LF N τ ((.node false l j .nil,0)::R) par' d' rt'
  key:∀x,(τ x).key=(σ x).key
  adj:∀x y,Adj par' x y↔Adj par x y
  rts:∀x y,rt' x=rt' y↔rt x=rt y
  rti:rt' i=i
  path:rt i=rt j→IsPath (Adj par) i j (l.seq++[j])
theorem path_w{w:World}{pf g N cap:Nat}{σ:Tbl}{ed:Int}(h:LctAt w pf g N cap σ ed){par d rt:Nat→Nat}{F:Fst}(hF:LF N σ F par d rt)(i j:Nat)(hi0:0<i)(hi:i<N)(hj0:0<j)(hj:j<N):
    Calls Tryz.prog 132 #[.pointer (some ⟨pf,0,none⟩),.int .i64 i,.int .i64 j] w fun e w' =>e=.returned (.tuple #[])∧∃τ l R par' d' rt', LctAt w' pf g N cap τ ed∧Pathed N σ par rt i j τ l R par' d' rt' ∧ Fr [g] w w' :=by
 go_enter Tryz.func132,Tryz.ntmps132
 go_wp2_with fail
 refine(lead_w h hF i hi0 hi).mono ?_;rintro _ w2 ⟨rfl,τ,l,R,par', d', rt', hL2,hF', hkey,hadj,hrt,hri,hFr2⟩;have HF' :=qB hF'; clear hF';have Q:=qB (zR hkey (zR hadj (zR hrt hri)));clear hkey hadj hrt hri h hF;go_wp2_with fail
 refine(expose_w hL2 HF'.out j hj0 hj).mono ?_;rintro _ w3 ⟨m,τ3,l3,R3,rfl,hL3,hE,hFr3⟩;have HE:=qB hE;clear hE;go_wp2
 go_end0
 obtain⟨hkey,hadj,hrt,hri⟩:=Q.out;have hE:=HE.out;refine⟨rfl,τ3,l3,R3,par', d', rt', hL3,⟨hE.lf,fun x=>(hE.key x).trans (hkey x),hadj,hrt,hri,fun e=>?_⟩,hFr2.then hFr3⟩;obtain⟨hn,hz,hc⟩:=hE.lf.top_seq;have hjm:j∈l3.seq++[j]:=by simp
 have hl:(l3.seq++[j]).getLast? =some j:=last_snoc _ _;generalize l3.seq++[j]=s at *;cases s with
 | nil=>cases hjm
 | cons y s=>{
 have hy:y=i:=by rw[←ch_rt_head hE.lf.rt0 hE.lf.rt1 hc hz j hjm,(hrt j i).2 e.symm,hri]
 subst hy;have:IsPath (Adj par') y j (y::s):=⟨s,rfl,ch_wk (hz y (by simp)) (fun x hx=>hz x (by simp[hx])) hc.2,hn,hl⟩;exact this.mono (fun x y=>(hadj x y).1)}
def LG(w:World)(pf g n:Nat)(E:Nat→Nat→Prop)(key:Nat→Int)(ed:Int):Prop:=
  ∃cap σ F par d rt,LctAt w pf g (n+1) cap σ ed∧LF (n+1) σ F par d rt∧(∀v u,E v u↔Adj par (v+1) (u+1))∧∀v,v<n→(σ (v+1)).key=key v
theorem LG.frs{w:World}{pf g n:Nat}{E:Nat→Nat→Prop}{key:Nat→Int}{ed:Int}(h:LG w pf g n E key ed):Frs E:=by
 obtain⟨cap,σ,F,par,d,rt,_,h2,h3,_⟩:=h;exact⟨par,d,rt,h2.rtd,h3⟩
theorem LG.lts{w:World}{pf g n:Nat}{E:Nat→Nat→Prop}{key:Nat→Int}{ed:Int}(h:LG w pf g n E key ed):pf<w.heap.size∧g<w.heap.size∧n≤65536:=by
 obtain⟨cap,σ,F,par,d,rt,h1,_⟩:=h;have:=h1.le;exact⟨h1.lts.1,h1.lts.2,by omega⟩
theorem LG.fr{w w' :World}{pf g n:Nat}{E:Nat→Nat→Prop}{key:Nat→Int}{ed:Int}{S:List Nat}(h:LG w pf g n E key ed)(hf:Fr S w w')(hp:pf∉S)(hg:g∉S):LG w' pf g n E key ed:=by
 obtain⟨cap,σ,F,par,d,rt,h1,h2⟩:=h;exact⟨cap,σ,F,par,d,rt,⟨hf.blk h1.hd hp,h1.nodes.same (hf.keep g h1.nodes.lt hg),h1.ne,h1.le,h1.cap⟩,h2⟩
@[go_sem] theorem eq_lct(a:Addr)(w:World):(binOp .eql 119 (.pointer (some a)) (.pointer (some a))).run Tryz.prog w=.ok (.bool true) w:=by
 obtain⟨j,hj⟩:=zE.1 (show(Tryz.prog.info? 194).isSome=true by kernel_rfl);exact run_eql_ptr_same w a Tryz.underlying119 hj
theorem valid_w{w:World}{pf:Nat}(hc:w.cell? ⟨pf,0,none⟩=some (.pointer (some ⟨pf,0,none⟩))):
    Calls Tryz.prog 152 #[.pointer (some ⟨pf,0,none⟩)] w fun e w' =>e=.returned (.bool true)∧w' =w:=by
 go_enter Tryz.func152,Tryz.ntmps152
 go_wp2
 go_ret;exact⟨rfl,rfl⟩
def inV(n:Nat)(v:Int):Bool:=decide (0≤v)&&decide (v<n)
theorem has_w{w:World}{pf g n cap:Nat}{σ:Tbl}{ed:Int}(h:LctAt w pf g (n+1) cap σ ed)(v:Int):
    Calls Tryz.prog 133 #[.pointer (some ⟨pf,0,none⟩),.int .i64 v] w fun e w' =>e=.returned (.bool (inV n v))∧w' =w:=by
 have c0:=h.hd.cell 0;have c1:=h.hd.cell 1;have hN:=h.le;simp only[zS,zT]at c0 c1;have hV:=qB (valid_w c0);by_cases h1:0≤v
 {
 by_cases h2:v<n
 {
 have e:inV n v=true:=by simp[inV,h1,h2]
 rw[e];clear e;go_enter Tryz.func133,Tryz.ntmps133
 go_wp2_with (go_at_call 152;refine hV.out.mono ?_;rintro e w' ⟨rfl,rfl⟩)
 go_ret;exact⟨rfl,rfl⟩}
 {
 have e:inV n v=false:=by simp[inV,h2]
 rw[e];clear e;have d2:decide (v<(n:Int))=false:=qK h2;go_enter Tryz.func133,Tryz.ntmps133
 go_wp2_with (go_at_call 152;refine hV.out.mono ?_;rintro e w' ⟨rfl,rfl⟩)
 go_ret;exact⟨rfl,rfl⟩}}
 {
 have e:inV n v=false:=by simp[inV,h1]
 rw[e];clear e;go_enter Tryz.func133,Tryz.ntmps133
 go_wp2_with (go_at_call 152;refine hV.out.mono ?_;rintro e w' ⟨rfl,rfl⟩)
 go_ret;exact⟨rfl,rfl⟩}
theorem inV_nat{n:Nat}{v:Int}(h:inV n v=true):∃k:Nat,v=k∧k<n:=by
 simp only[inV,zG,decide_eq_true_eq]at h;exact⟨v.toNat,by omega,by omega⟩
def ConnI(n:Nat)(E:Nat→Nat→Prop)(a b:Int):Prop:=inV n a=true∧inV n b=true∧Conn E a.toNat b.toNat
theorem top_up{N:Nat}{σ:Tbl}{F:Fst}{par d rt:Nat→Nat}(h:LF N σ F par d rt){t:BT}{b:Nat}(hm:(t,0)∈F)(hb:t.root=b)(hb0:b≠0){a:Nat}(ha:0<a)(haN:a<N)(hne:a≠b)(hr:rt a=rt b):(σ a).up≠0:=by
 intro e0;obtain⟨p,hp,hap⟩:=mem_fnodes.1 ((h.mem a).2 ⟨ha,haN⟩);have hk:=(h.rep p hp).kids hap;have hbt:b∈t.nodes:=hb▸BT.root_mem (by rw[hb];exact hb0);by_cases hpt:b∈p.1.nodes
 {
 -- the same tree: a is no root
 rcases hk.2.2.1 with e|e
 {
 obtain⟨R,hR⟩:=mem_split_perm hm;have h' :=h.perm hR;have hp' :=hR.mem_iff.1 hp;rcases qF.1 hp' with e2|e2
 · rw[e2]at e;exact hne (e.trans hb)
 · exact h'.disj e2 b hbt hpt}
 · rw[e0]at e;have:=(h.lt hp e).1;omega}
 {
 rcases hk.2.2.1 with e|e
 {
 have hu:p.2=0:=(hk.2.2.2.1 e).symm.trans e0;have c1:=h.ch _ hm;have c2:=h.ch _ hp;rw[hu]at c2;have z1:=h.seq0 hm;have z2:=h.seq0 hp;have sx:=seq_mem.2 hbt;have sy:=seq_mem.2 hap;dsimp only at c1 z1
 cases hs1:t.seq with
 | nil=>rw[hs1]at sx;cases sx
 | cons x s1=>{
 cases hs2:p.1.seq with
 | nil=>rw[hs2]at sy;cases sy
 | cons y s2=>{
 have mx:x∈t.nodes:=seq_mem.1 (by rw[hs1];simp);have my:y∈p.1.nodes:=seq_mem.1 (by rw[hs2];simp);rw[hs1]at c1 z1 sx;rw[hs2]at c2 z2 sy;have ra:=ch_rt_head h.rt0 h.rt1 c1 z1 b sx;have rb:=ch_rt_head h.rt0 h.rt1 c2 z2 a sy;have hxy:x=y:=by rw[←ra,←hr,rb]
 obtain⟨R,hR⟩:=mem_split_perm hm;have h' :=h.perm hR;rcases qF.1 (hR.mem_iff.1 hp) with e2|e2
 · rw[e2]at hpt;exact hpt hbt
 · exact h'.disj e2 x mx (hxy▸my)}}}
 · rw[e0]at e;have:=(h.lt hp e).1;omega}
theorem expose_v{w:World}{pf g n cap:Nat}{σ:Tbl}{ed:Int}(h:LctAt w pf g (n+1) cap σ ed){par d rt:Nat→Nat}{F:Fst}(hF:LF (n+1) σ F par d rt)(v:Nat)(hv:v<n):
    Calls Tryz.prog 134 #[.pointer (some ⟨pf,0,none⟩),.int .i64 ((v:Int)+1)] w fun e w' =>∃m τ l R,e=.returned (.int .i64 (m:Nat))∧LctAt w' pf g (n+1) cap τ ed∧Exposed (n+1) σ F par d rt (v+1) m τ l R∧Fr [g] w w' :=
  expose_w h hF (v+1) (by omega) (by omega)
theorem connected_w{w:World}{pf g n:Nat}{E:Nat→Nat→Prop}{key:Nat→Int}{ed:Int}(h:LG w pf g n E key ed)(a b:Int):
    Calls Tryz.prog 83 #[.pointer (some ⟨pf,0,none⟩),.int .i64 a,.int .i64 b] w fun e w' =>∃r:Bool,e=.returned (.bool r)∧(r=true↔ConnI n E a b)∧LG w' pf g n E key ed∧Fr [g] w w' :=by
 have H:=qB h;obtain⟨cap,σ,F,par,d,rt,hL,hF,hE,hk⟩:=h;have HF:=qB hF;clear hF;have HE:=qB hE;clear hE;have HK:=qB hk;clear hk;have hN:=hL.le;cases hva:inV n a with
 | false=>{
 have HR:=qB (show ¬ConnI n E a b from fun e=>by rw[e.1]at hva;cases hva);have A1:=has_w hL a;rw[hva]at A1;have HA:=qB A1;clear A1 hva;go_enter Tryz.func83,Tryz.ntmps83
 go_wp2_with fail
 refine HA.out.mono ?_;rintro _ w ⟨rfl,rfl⟩;go_wp2
 go_ret;exact⟨false,rfl,by simp[HR.out],H.out,Fr.refl _ _⟩}
 | true=>{
 have A1:=has_w hL a;rw[hva]at A1;have HA:=qB A1;clear A1;cases hvb:inV n b with
 | false=>{
 have HR:=qB (show ¬ConnI n E a b from fun e=>by rw[e.2.1]at hvb;cases hvb);have B1:=has_w hL b;rw[hvb]at B1;have HB:=qB B1;clear B1 hva hvb;go_enter Tryz.func83,Tryz.ntmps83
 go_wp2_with fail
 refine HA.out.mono ?_;rintro _ w ⟨rfl,rfl⟩;go_wp2_with fail
 refine HB.out.mono ?_;rintro _ w ⟨rfl,rfl⟩;go_wp2
 go_ret;exact⟨false,rfl,by simp[HR.out],H.out,Fr.refl _ _⟩}
 | true=>{
 have B1:=has_w hL b;rw[hvb]at B1;have HB:=qB B1;clear B1;obtain⟨v,rfl,hv⟩:=inV_nat hva;obtain⟨u,rfl,hu⟩:=inV_nat hvb;have HC:=qB (show ConnI n E v u↔Conn E v u from⟨fun e=>e.2.2,fun e=>⟨hva,hvb,e⟩⟩);clear hva hvb;by_cases hvu:v=u
 {
 subst hvu;go_enter Tryz.func83,Tryz.ntmps83
 go_wp2_with fail
 refine HA.out.mono ?_;rintro _ w ⟨rfl,rfl⟩;go_wp2_with fail
 refine HB.out.mono ?_;rintro _ w ⟨rfl,rfl⟩;go_wp2
 go_ret;refine⟨true,rfl,?_,H.out,Fr.refl _ _⟩;simp only[true_iff];exact HC.out.2 (Conn.refl E v)}
 {
 have hb:((v:Int) == (u:Int))=false:=zA.2 (by omega);have Hne:=qB hvu;clear hvu;go_enter Tryz.func83,Tryz.ntmps83
 go_wp2_with fail
 refine HA.out.mono ?_;rintro _ w ⟨rfl,rfl⟩;go_wp2_with fail
 refine HB.out.mono ?_;rintro _ w ⟨rfl,rfl⟩;go_wp2_with fail
 refine(expose_v hL HF.out v (by omega)).mono ?_;rintro _ w2 ⟨m1,τ1,l1,R1,rfl,hL1,hE1,hF1⟩;have HE1:=qB hE1;clear hE1;go_wp2_with fail
 refine(expose_v hL1 HE1.out.lf u (by omega)).mono ?_;rintro _ w3 ⟨m2,τ2,l2,R2,rfl,hL2,hE2,hF2⟩;have HE2:=qB hE2;clear hE2;have a2:=hL2.nodes.c2 (v+1) (by omega);have d1:=hL2.hd.cell 1;simp only[zS,zT]at d1;have hv2:((v+1:Nat):Int)<((n+1:Nat):Int):=by omega
 have hres:((τ2 (v+1)).up≠0)↔Conn E v u:=by {
 rw[conn_rt HF.out.rtd HE.out];constructor
 {
 intro e;apply qZ;intro hc;have h1:=HE2.out.frame (v+1) hc;rw[h1,(HE1.out.lf.rep _ (List.mem_cons_self)).1.2.1]at e;exact e rfl}
 {
 intro e;exact top_up HE2.out.lf (List.mem_cons_self) rfl (by simp[BT.root]) (by omega) (by omega) (by simp only[BT.root];have:=Hne.out;omega) e}};have Hres:=qB hres;clear hres;have hFr:Fr [g] w w3:=hF1.then hF2;have hLG:LG w3 pf g n E key ed:=⟨cap,τ2,_,par,d,rt,hL2,HE2.out.lf,HE.out,fun x hx=>by rw[HE2.out.key,HE1.out.key];exact HK.out x hx⟩;have HLG:=qB hLG;clear hLG;by_cases hup:(τ2 (v+1)).up=0
 {
 rw[hup]at a2;have Hup:=qB hup;clear hup;go_wp2
 go_ret;exact⟨false,rfl,by simp only[Bool.false_eq_true,false_iff];exact fun e=>Hres.out.2 (HC.out.1 e) Hup.out,HLG.out,hFr⟩}
 {
 have hb0:(((τ2 (v+1)).up:Int) != 0)=true:=bne_iff_ne.2 (by omega);have Hup:=qB hup;clear hup;go_wp2
 go_ret;exact⟨true,rfl,by simp only[true_iff];exact HC.out.2 (Hres.out.1 Hup.out),HLG.out,hFr⟩}}}}
theorem path_v{w:World}{pf g n cap:Nat}{σ:Tbl}{ed:Int}(h:LctAt w pf g (n+1) cap σ ed){par d rt:Nat→Nat}{F:Fst}(hF:LF (n+1) σ F par d rt)(v u:Nat)(hv:v<n)(hu:u<n):
    Calls Tryz.prog 132 #[.pointer (some ⟨pf,0,none⟩),.int .i64 ((v:Int)+1),.int .i64 ((u:Int)+1)] w fun e w' =>e=.returned (.tuple #[])∧∃τ l R par' d' rt', LctAt w' pf g (n+1) cap τ ed∧Pathed (n+1) σ par rt (v+1) (u+1) τ l R par' d' rt' ∧ Fr [g] w w' :=
  path_w h hF (v+1) (u+1) (by omega) (by omega) (by omega) (by omega)
theorem Pathed.lg{w:World}{pf g n cap:Nat}{σ τ:Tbl}{E:Nat→Nat→Prop}{key:Nat→Int}{ed:Int}{par rt par' d' rt' :Nat→Nat}{i j:Nat}{l:BT}{R:Fst}(h:Pathed (n+1) σ par rt i j τ l R par' d' rt')(hL:LctAt w pf g (n+1) cap τ ed)
    (hE:∀v u,E v u↔Adj par (v+1) (u+1)) (hk:∀v,v<n→(σ (v+1)).key=key v):LG w pf g n E key ed:=
  ⟨cap,τ,_,par', d', rt', hL,h.lf,fun v u=>(hE v u).trans (h.adj _ _).symm,fun v hv=>by rw[h.key];exact hk v hv⟩
theorem Pathed.at{n:Nat}{σ τ:Tbl}{E:Nat→Nat→Prop}{par rt par' d' rt' :Nat→Nat}{v u:Nat}{l:BT}{R:Fst}(h:Pathed (n+1) σ par rt (v+1) (u+1) τ l R par' d' rt')
    (hE:∀v u,E v u↔Adj par (v+1) (u+1)) (hr:rt (v+1)=rt (u+1)):∃p,IsPath E v u p∧p.map (· + 1)=l.seq++[u+1]∧(∀x∈p,x<n):=by
 obtain⟨h1,h2⟩:=path_unshift hE (h.path hr);refine⟨_,h1,h2,fun x hx=>?_⟩;have:x+1∈l.seq++[u+1]:=by rw[←h2];exact zF.2 ⟨x,hx,rfl⟩
 have hm:x+1∈(BT.node false l (u+1) .nil).nodes:=by rw[←seq_mem];simpa[BT.seq] using this
 have:=(h.lf.lt (List.mem_cons_self) hm).2;omega
theorem size_w{w:World}{pf g n:Nat}{E:Nat→Nat→Prop}{key:Nat→Int}{ed:Int}(h:LG w pf g n E key ed)(a:Int):
    Calls Tryz.prog 116 #[.pointer (some ⟨pf,0,none⟩),.int .i64 a] w fun e w' =>e=.returned (.int .i64 (if inV n a then(csize n E a.toNat:Int) else 0))∧LG w' pf g n E key ed∧Fr [g] w w' :=by
 have H:=qB h;obtain⟨cap,σ,F,par,d,rt,hL,hF,hE,hk⟩:=h;have HF:=qB hF;clear hF;have HE:=qB hE;clear hE;have HK:=qB hk;clear hk;have hN:=hL.le;have A1:=has_w hL a;cases hva:inV n a with
 | false=>{
 rw[hva]at A1;have HA:=qB A1;clear A1 hva;go_enter Tryz.func116,Tryz.ntmps116
 go_wp2_with fail
 refine HA.out.mono ?_;rintro _ w ⟨rfl,rfl⟩;go_wp2
 go_ret;exact⟨rfl,H.out,Fr.refl _ _⟩}
 | true=>{
 rw[hva]at A1;have HA:=qB A1;clear A1;obtain⟨v,rfl,hv⟩:=inV_nat hva;clear hva;go_enter Tryz.func116,Tryz.ntmps116
 go_wp2_with fail
 refine HA.out.mono ?_;rintro _ w ⟨rfl,rfl⟩;go_wp2_with fail
 refine(expose_v hL HF.out v hv).mono ?_;rintro _ w2 ⟨m1,τ1,l1,R1,rfl,hL1,hE1,hF1⟩;have hres:(τ1 (v+1)).total=(csize n E v:Int):=by {
 have h1:=(hE1.lf.rep _ (List.mem_cons_self)).2.2.2.2.1;have h2:=hE1.lf.size (x:=v+1) (by simp[BT.nodes]);rw[h1,h2];have hp:(fnodes ((BT.node false l1 (v+1) BT.nil,0)::R1)).Perm ((List.range n).map (· + 1)):=by {
 refine(List.perm_ext_iff_of_nodup hE1.lf.nd (nodup_map_succ.2 List.nodup_range)).2 (fun x=>?_);rw[hE1.lf.mem];simp only[zF,List.mem_range];exact⟨fun h=>⟨x-1,by omega,by omega⟩,fun⟨y,hy,e⟩=>by omega⟩};have e:((fnodes ((BT.node false l1 (v+1) BT.nil,0)::R1)).filter (fun y=>decide (rt y=rt (v+1)))).length=csize n E v:=by {
 rw[(hp.filter _).length_eq,List.filter_map,List.length_map];unfold Proofs.YtgmnemndjjmgkaaGreat.csize;congr 1
 refine List.filter_congr (fun x _=>?_);show decide (rt (x+1)=rt (v+1))=_
 refine decide_eq_decide.2 ?_;rw[conn_rt HF.out.rtd HE.out];exact eq_comm};rw[e];have:=csize_le n E v;unfold wrap64;omega};have HE1:=qB hE1;clear hE1;have a8:=hL1.nodes.c8 (v+1) (by omega);rw[hres]at a8;clear hres;have d1:=hL1.hd.cell 1;simp only[zS,zT]at d1;have hv2:((v+1:Nat):Int)<((n+1:Nat):Int):=by omega
 go_wp2
 go_ret;exact⟨rfl,⟨cap,τ1,_,par,d,rt,hL1,HE1.out.lf,HE.out,fun x hx=>by rw[HE1.out.key];exact HK.out x hx⟩,hF1⟩}
def LM(w:World)(pf g n:Nat)(E:Nat→Nat→Prop)(key:Nat→Int):Prop:=LG w pf g n E key ((n:Int)-nc n E)
theorem dist_w{w:World}{pf g n:Nat}{E:Nat→Nat→Prop}{key:Nat→Int}{ed:Int}(h:LG w pf g n E key ed)(a b:Int):
    Calls Tryz.prog 179 #[.pointer (some ⟨pf,0,none⟩),.int .i64 a,.int .i64 b] w fun e w' =>∃x:Int,e=.returned (.int .i64 x)∧((¬ConnI n E a b∧x=-1)∨∃(v u:Nat) (p:List Nat),a=v∧b=u∧v<n∧u<n∧IsPath E v u p∧x=(p.length:Int)-1)∧LG w' pf g n E key ed∧Fr [g] w w' :=by
 go_enter Tryz.func179,Tryz.ntmps179
 go_wp2_with fail
 refine(connected_w h a b).mono ?_;rintro _ w2 ⟨r,rfl,hr,h2,hF2⟩;have HR:=qB hr;clear hr;cases r with
 | false=>{
 have H2:=qB h2;clear h2 h;go_wp2
 go_ret;exact⟨-1,rfl,.inl ⟨fun e=>(by have:=HR.out.2 e;cases this),rfl⟩,H2.out,hF2⟩}
 | true=>{
 obtain⟨va,vb,hc⟩:=HR.out.1 rfl;obtain⟨v,rfl,hv⟩:=inV_nat va;obtain⟨u,rfl,hu⟩:=inV_nat vb;clear va vb HR h;obtain⟨cap,σ,F,par,d,rt,hL,hF,hE,hk⟩:=h2;have hrt:=(conn_rt hF.rtd hE).1 hc;have HF:=qB hF;clear hF;have HE:=qB hE;clear hE;have HK:=qB hk;clear hk;have hN:=hL.le;go_wp2_with fail
 refine(path_v hL HF.out v u hv hu).mono ?_;rintro _ w3 ⟨rfl,τ,l,R,par', d', rt', hL3,hP,hF3⟩;obtain⟨p,hp1,hp2,hp3⟩:=hP.at HE.out hrt;have hpl:(τ (u+1)).size=(p.length:Int)∧p.length≤n∧0<p.length:=by {
 have h1:=(hP.lf.rep _ (List.mem_cons_self)).2.2.2.1;have h2:(BT.node false l (u+1) .nil).nodes.length=p.length:=by {
 rw[←(BT.seq_perm _).length_eq];have:=congrArg List.length hp2;simpa[BT.seq] using this.symm};have h3:=nodup_le hp1.nd hp3;have h4:0<p.length:=List.length_pos_iff.2 hp1.ne;refine⟨?_,h3,h4⟩;rw[h1,h2];unfold wrap64;omega};obtain⟨q1,q2,q3⟩:=hpl;have a5:=hL3.nodes.c5 (u+1) (by omega);rw[q1]at a5;have HP:=qB hP;clear hP;have Hp:=qB hp1;clear hp1 hp2 hp3 q1;have d1:=hL3.hd.cell 1;simp only[zS,zT]at d1;have hu2:((u+1:Nat):Int)<((n+1:Nat):Int):=by omega
 go_wp2
 go_ret;exact⟨_,rfl,.inr ⟨v,u,p,rfl,rfl,hv,hu,Hp.out,rfl⟩,HP.out.lg hL3 HE.out HK.out,hF2.then hF3⟩}
def FirstOf(key:Nat→Int)(p:List Nat)(m:Nat):Prop:=m∈p∧∀x∈p,x≠m→key m<key x∨(key m=key x∧m<x)
theorem min_w{w:World}{pf g n:Nat}{E:Nat→Nat→Prop}{key:Nat→Int}{ed:Int}(h:LG w pf g n E key ed)(a b:Int):Calls Tryz.prog 82 #[.pointer (some ⟨pf,0,none⟩),.int .i64 a,.int .i64 b] w fun e w' =>((¬ConnI n E a b∧e=.returned (.tuple #[.int .i64 0,.bool false]))∨∃(v u:Nat) (p:List Nat) (m:Nat),a=v∧b=u∧v<n∧u<n∧IsPath E v u p∧(∀x∈p,x<n)∧FirstOf key p m∧e=.returned (.tuple #[.int .i64 m,.bool true]))∧LG w' pf g n E key ed∧Fr [g] w w' :=by
 go_enter Tryz.func82,Tryz.ntmps82
 go_wp2_with fail
 refine(connected_w h a b).mono ?_;rintro _ w2 ⟨r,rfl,hr,h2,hF2⟩;have HR:=qB hr;clear hr;cases r with
 | false=>{
 have H2:=qB h2;clear h2 h;go_wp2
 go_ret2;exact⟨.inl ⟨fun e=>(by have:=HR.out.2 e;cases this),rfl⟩,H2.out,hF2⟩}
 | true=>{
 obtain⟨va,vb,hc⟩:=HR.out.1 rfl;obtain⟨v,rfl,hv⟩:=inV_nat va;obtain⟨u,rfl,hu⟩:=inV_nat vb;clear va vb HR h;obtain⟨cap,σ,F,par,d,rt,hL,hF,hE,hk⟩:=h2;have hrt:=(conn_rt hF.rtd hE).1 hc;have HF:=qB hF;clear hF;have HE:=qB hE;clear hE;have HK:=qB hk;clear hk;have hN:=hL.le;go_wp2_with fail
 refine(path_v hL HF.out v u hv hu).mono ?_;rintro _ w3 ⟨rfl,τ,l,R,par', d', rt', hL3,hP,hF3⟩;obtain⟨p,hp1,hp2,hp3⟩:=hP.at HE.out hrt;have hbest:∃m,(τ (u+1)).first=m+1∧m<n∧FirstOf key p m:=by {
 have h1:=(hP.lf.rep _ (List.mem_cons_self)).2.2.2.2.2;have hmem:∀x,x∈(BT.node false l (u+1) .nil).nodes↔x∈p.map (· + 1):=by intro x;rw[←seq_mem,hp2];simp[BT.seq]
 have hkey:∀x,x<n→(τ (x+1)).key=key x:=fun x hx=>by rw[hP.key];exact HK.out x hx
 obtain⟨m,hm,e⟩:=zF.1 ((hmem _).1 h1.1);refine⟨m,e.symm,hp3 m hm,hm,fun x hx hne=>?_⟩;have:=h1.2 (x+1) ((hmem _).2 (zF.2 ⟨x,hx,rfl⟩)) (by rw[←e];omega);rw[←e]at this;unfold beforeB at this;rw[hkey m (hp3 m hm),hkey x (hp3 x hx)]at this;simp only[Bool.or_eq_true,zG,decide_eq_true_eq]at this;omega};obtain⟨m,q1,q2,q3⟩:=hbest;have a6:=hL3.nodes.c6 (u+1) (by omega);rw[q1]at a6;have HP:=qB hP;clear hP;have Hp:=qB (zR hp1 (zR hp3 q3));clear hp1 hp2 hp3 q1 q3;have d1:=hL3.hd.cell 1;simp only[zS,zT]at d1;have hu2:((u+1:Nat):Int)<((n+1:Nat):Int):=by omega
 have hw1:((m+1:Nat):Int)-1=m:=by omega
 go_wp2
 go_ret2;exact⟨.inr ⟨v,u,p,m,rfl,rfl,hv,hu,Hp.out.1,Hp.out.2.1,Hp.out.2.2,rfl⟩,HP.out.lg hL3 HE.out HK.out,hF2.then hF3⟩}
end Go.Proofs.YtgmnemndjjmgkaaGreat
namespace Go.Proofs.YtgmnemndjjmgkaaGreat
open Go.RowKit Classical
set_option maxRecDepth 10000
set_option maxHeartbeats 800000
theorem check_w{w:World}{pf g n cap:Nat}{σ:Tbl}{ed:Int}(h:LctAt w pf g (n+1) cap σ ed)(b m:Nat)(f:Nat→Int)(hm:m≤100)(hb:∀k,k<m→w.cell? ⟨b,k,none⟩=some (.int .i64 (f k))):
    Calls Tryz.prog 178 #[.pointer (some ⟨pf,0,none⟩),.slice (some ⟨b,0,none⟩) m m] w fun e w' =>((e=.returned (.int .i64 0)∧∀k,k<m→inV n (f k)=true)∨(e=.returned (.int .i64 3)∧∃k,k<m∧inV n (f k)=false))∧w' =w:=by
 have c0:=h.hd.cell 0;simp only[zS]at c0;have hV:=qB (valid_w c0);clear c0;have HB:=qB hb;clear hb;go_enter Tryz.func178,Tryz.ntmps178
 go_wp2_with fail
 refine hV.out.mono ?_;rintro _ w ⟨rfl,rfl⟩;go_wp2
 go_loopw [12] (fun x wr=>∃k:Nat,k≤m∧x=.int .i64 k∧wr=w∧∀j,j<k→inV n (f j)=true) (fun x _=>m-(intOf x).toNat)
 case atStart=>exact⟨0,zB _,rfl,rfl,fun j hj=>by omega⟩
 case round=>
  obtain⟨k,hk,rfl,rfl,hall⟩:=hrel;have Hall:=qB hall;clear hall;by_cases hlt:k<m
  {
  have hc:=HB.out k hlt;have hA:=has_w h (f k);cases hv:inV n (f k) with
  | true=>{
  rw[hv]at hA;have HA:=qB hA;clear hA;have Hv:=qB hv;clear hv;go_wp2_with fail
  refine HA.out.mono ?_;rintro _ w0 ⟨rfl,rfl⟩;go_wp2
  exact⟨⟨k+1,by omega,by go_num,trivial,fun j hj=>by
    by_cases e:j=k
    · rw[e];exact Hv.out
    · exact Hall.out j (by omega)⟩,by simp[intOf];omega⟩}
  | false=>{
  rw[hv]at hA;have HA:=qB hA;clear hA;have Hv:=qB hv;clear hv;go_wp2_with fail
  refine HA.out.mono ?_;rintro _ w0 ⟨rfl,rfl⟩;go_wp2
  go_ret;exact⟨.inr ⟨rfl,k,hlt,Hv.out⟩,rfl⟩}}
  {
  go_wp2
  go_ret;exact⟨.inl ⟨rfl,fun j hj=>Hall.out j (by omega)⟩,rfl⟩}
theorem lead_v{w:World}{pf g n cap:Nat}{σ:Tbl}{ed:Int}(h:LctAt w pf g (n+1) cap σ ed){par d rt:Nat→Nat}{F:Fst}(hF:LF (n+1) σ F par d rt)(v:Nat)(hv:v<n):
    Calls Tryz.prog 172 #[.pointer (some ⟨pf,0,none⟩),.int .i64 ((v:Int)+1)] w fun e w' =>e=.returned (.tuple #[])∧∃τ l R par' d' rt', LctAt w' pf g (n+1) cap τ ed∧LF (n+1) τ ((.node true l (v+1) .nil,0)::R) par' d' rt' ∧ (∀x,(τ x).key=(σ x).key) ∧
      (∀x y,Adj par' x y↔Adj par x y)∧(∀x y,rt' x=rt' y↔rt x=rt y)∧rt' (v+1)=v+1∧Fr [g] w w' :=lead_w h hF (v+1) (by omega) (by omega)
theorem refresh_v{w:World}{pf g n cap:Nat}{σ:Tbl}{ed:Int}(h:LctAt w pf g (n+1) cap σ ed)(v:Nat)(hv:v<n)(hR:InR (n+1) σ)(h0:(σ (v+1)).k0≠v+1)(h1:(σ (v+1)).k1≠v+1):
    Calls Tryz.prog 174 #[.pointer (some ⟨pf,0,none⟩),.int .i64 ((v:Int)+1)] w fun e w' =>e=.returned (.tuple #[])∧LctAt w' pf g (n+1) cap (refresh σ (v+1)) ed∧Fr [g] w w' :=refresh_w h (v+1) (by omega) hR h0 h1
theorem LctAt.edges{w w0:World}{pf g N cap:Nat}{σ:Tbl}{ed:Int}(h:LctAt w pf g N cap σ ed)(hF:Fr [g] w0 w)(e:Int):
    LctAt (w.setCell ⟨pf,2,none⟩ (.int .i64 e)) pf g N cap σ e∧Fr [pf,g] w0 (w.setCell ⟨pf,2,none⟩ (.int .i64 e)):=by
 refine⟨⟨?_,h.nodes.same (Below.heap_setCell _ _ _ _ (fun e=>h.ne e.symm)),h.ne,h.le,h.cap⟩,(hF.mono (S' :=[pf,g]) (fun b hb=>.inl (by simp at hb;simp[hb]))).setCell _ _ (.inl (by simp))⟩;have:=h.hd.set 2 (.int .i64 e);simpa using this
noncomputable def linkCode(n:Nat)(E:Nat→Nat→Prop)(a b:Int):Int:=
  if inV n a=true∧inV n b=true then(if a=b then 9 else if Conn E a.toNat b.toNat then 6 else 0) else 3
noncomputable def linkE(n:Nat)(E:Nat→Nat→Prop)(a b:Int):Nat→Nat→Prop:=if linkCode n E a b=0 then addE E a.toNat b.toNat else E
theorem link_w{w:World}{pf g n:Nat}{E:Nat→Nat→Prop}{key:Nat→Int}(h:LM w pf g n E key)(a b:Int):
    Calls Tryz.prog 197 #[.pointer (some ⟨pf,0,none⟩),.int .i64 a,.int .i64 b] w fun e w' =>e=.returned (.int .i64 (linkCode n E a b))∧LM w' pf g n (linkE n E a b) key∧Fr [pf,g] w w' :=by
  have H:=qB h;have hfrs:=qB (LG.frs h);obtain⟨hp1,hg1,hn1⟩:=LG.lts h;obtain⟨cap,σ,F,par,d,rt,hL,hF,hE,hk⟩:=h;clear hF hE hk;have hLa:LctAt (w.alloc (.cells #[.int .i64 a,.int .i64 b] 3)) pf g (n+1) cap σ ((n:Int)-nc n E):=hL.below ((Below.refl _ w).alloc (qS _) _) hp1 hg1;have hblk:=Blk.new w [.int .i64 a,.int .i64 b] 3;have hFa:Fr [] w (w.alloc (.cells #[.int .i64 a,.int .i64 b] 3)):=(Fr.refl _ _).alloc _;have HMa:=qB (LG.fr H.out hFa (by simp) (by simp));have hCk:=check_w hLa w.heap.size 2 (fun k=>if k=0 then a else b) (by decide) (fun k hk=>by
    rw[hblk.cell];rcases(show k=0∨k=1 by omega) with rfl|rfl<;>rfl)
  have HCk:=qB hCk;clear hCk hblk;clear hLa hL;go_enter Tryz.func197,Tryz.ntmps197
  go_wp2_with fail
  refine HCk.out.mono ?_;rintro _ w1 ⟨hcode,rfl⟩;clear HCk;generalize w.alloc (.cells #[.int .i64 a,.int .i64 b] 3)=w1 at *;rcases hcode with⟨rfl,hall⟩|⟨rfl,k,hk,hbad⟩
  · have va : inV n a = true := hall 0 (by decide)
    have vb:inV n b=true:=hall 1 (by decide);clear hall;by_cases hab:a=b
    · have hlc : linkCode n E a b = 9 := by unfold linkCode; rw [qI ⟨va, vb⟩, qI hab]
      have hle:linkE n E a b=E:=by unfold linkE;rw[hlc];simp
      have Hlc:=qB (zR hlc hle);clear hlc hle;have hb:(a == b)=true:=beq_iff_eq.2 hab;clear va vb hab;go_wp2
      go_ret;rw[Hlc.out.1,Hlc.out.2];exact⟨rfl,HMa.out,hFa.mono (by simp)⟩
    · have hb : (a == b) = false := zA.2 hab
      have HL0:=qB (zR va (zR vb hab));clear hab;go_wp2_with fail
      refine(connected_w HMa.out a b).mono ?_;rintro _ w2 ⟨r,rfl,hr,hM2,hF2⟩;cases r with
      | true=>
        obtain⟨_,_,hc⟩:=hr.1 rfl;have hlc:linkCode n E a b=6:=by unfold linkCode;rw[qI ⟨va,vb⟩,qH HL0.out.2.2,qI hc]
        have hle:linkE n E a b=E:=by unfold linkE;rw[hlc];simp
        have Hlc:=qB (zR hlc hle);clear hlc hle hr;have HM2:=qB hM2;clear hM2 va vb hc;go_wp2
        go_ret;rw[Hlc.out.1,Hlc.out.2];exact⟨rfl,HM2.out,(hFa.mono (S' :=[pf,g]) (by simp)).trans hF2 (fun q hq=>.inl (by simp at hq;simp[hq]))⟩
      | false=>
        have hnc:¬Conn E a.toNat b.toNat:=fun e=>by have:=hr.2 ⟨va,vb,e⟩;cases this
        have hlc:linkCode n E a b=0:=by unfold linkCode;rw[qI ⟨va,vb⟩,qH HL0.out.2.2,qH hnc]
        have hle:linkE n E a b=addE E a.toNat b.toNat:=by unfold linkE;rw[hlc];simp
        have Hlc:=qB (zR hlc hle);clear hlc hle hr;obtain⟨v,rfl,hv⟩:=inV_nat va;obtain⟨u,rfl,hu⟩:=inV_nat vb;simp only[zM]at hnc Hlc;have HN:=qB hnc;clear va vb HL0;obtain⟨cap2,σ2,F2,par2,d2,rt2,hL2,hLF2,hE2,hk2⟩:=hM2;have hrt:rt2 (v+1)≠rt2 (u+1):=fun e=>hnc ((conn_rt hLF2.rtd hE2).2 e);clear hnc;have HF2:=qB hLF2;clear hLF2;have HE2:=qB hE2;clear hE2;have HK2:=qB hk2;clear hk2;have HRt:=qB hrt;clear hrt;have hN:=hL2.le;go_wp2_with fail
        refine(lead_v hL2 HF2.out v hv).mono ?_;rintro _ w3 ⟨rfl,τ3,l3,R3,par3,d3,rt3,hL3,hLF3,hk3,hadj3,hrt3,hri3,hF3⟩;have HF3:=qB hLF3;clear hLF3;have HQ3:=qB (zR hk3 (zR hadj3 (zR hrt3 hri3)));clear hk3 hadj3 hrt3 hri3;go_wp2_with fail
        refine(expose_v hL3 HF3.out u hu).mono ?_;rintro _ w4 ⟨m4,τ4,l4,R4,rfl,hL4,hE4,hF4⟩;have key:(∃par' d' rt' F', LF (n+1) (refresh (lnk2 τ4 (v+1) (u+1)) (u+1)) F' par' d' rt' ∧ (∀x y,Adj par' x y↔Adj par2 x y∨(x=v+1∧y=u+1)∨(x=u+1∧y=v+1))) ∧
            (∀x,(refresh (lnk2 τ4 (v+1) (u+1)) (u+1) x).key=(σ2 x).key)∧(lnk2 τ4 (v+1) (u+1) (u+1)).k0≠u+1∧(lnk2 τ4 (v+1) (u+1) (u+1)).k1≠u+1∧InR (n+1) (lnk2 τ4 (v+1) (u+1)):=by
          obtain⟨hk3,hadj3,hrt3,hri3⟩:=HQ3.out;have hne3:rt3 (v+1)≠rt3 (u+1):=fun e=>HRt.out ((hrt3 _ _).1 e);have hin:=hE4.trees _ (List.mem_cons_self) ⟨v+1,by simp[BT.nodes],hne3⟩;obtain⟨R5,hR5⟩:=mem_split_perm hin;have hlf:=hE4.lf.perm ((List.Perm.cons _ hR5).trans (List.Perm.swap _ _ _));obtain⟨⟨par', d', rt', a1,a2⟩,a3,a4,a5,a6⟩:=hlf.link (a:=v+1) rfl (by omega) hri3 (fun e=>hne3 (by rw[hri3,e]));exact⟨⟨par', d', rt', _,a1,fun x y=>by rw[a2,hadj3]⟩,fun x=>by rw[a3,hE4.key,hk3],a4,a5,a6⟩
        have Key:=qB key;clear key hE4;have d4:=hL4.hd.cell 1;simp only[zS,zT]at d4;have hfz4:=hL4.nodes.frozen;have a2:=hL4.nodes.c2 (v+1) (by omega);obtain⟨hL5,hF5⟩:=hL4.st2 (Fr.refl [g] w4) (i:=v+1) (by omega) (u+1);have hL5' :LctAt (w4.setCell ⟨g,(v+1)*9+2,none⟩ (.int .i64 ((u:Int)+1))) pf g (n+1) cap2 (lnk1 τ4 (v+1) (u+1)) ((n:Int)-nc n E):=hL5;have hF5' :Fr [g] w4 (w4.setCell ⟨g,(v+1)*9+2,none⟩ (.int .i64 ((u:Int)+1))):=hF5;have HL5:=qB hL5'; clear hL5 hL5' hF5;have hv2:((v+1:Nat):Int)<((n+1:Nat):Int):=by omega
        have hu2:((u+1:Nat):Int)<((n+1:Nat):Int):=by omega
        go_wp2
        generalize w4.setCell ⟨g,(v+1)*9+2,none⟩ (.int .i64 ((u:Int)+1))=w5 at *;have hL5:=HL5.out;clear HL5 d4 hfz4 a2;have d5:=hL5.hd.cell 1;simp only[zS,zT]at d5;have hfz5:=hL5.nodes.frozen;have b7:=hL5.nodes.c7 (u+1) (by omega);have b8:=hL5.nodes.c8 (v+1) (by omega);have hwu:IntKind.i64.wrap ((u:Int)+1)=(u:Int)+1:=zP _ (by omega);have hwv:IntKind.i64.wrap ((v:Int)+1)=(v:Int)+1:=zP _ (by omega);have htu:((u:Int)+1).toNat=u+1:=by omega
        have htv:((v:Int)+1).toNat=v+1:=by omega
        have hcu:0≤(u:Int)+1:=by omega
        have hcv:0≤(v:Int)+1:=by omega
        have hcu2:(u:Int)+1<(n:Int)+1:=by omega
        have hcv2:(v:Int)+1<(n:Int)+1:=by omega
        refine region_one 21 (fun w' =>LctAt w' pf g (n+1) cap2 (lnk2 τ4 (v+1) (u+1)) ((n:Int)-nc n E)∧Fr [g] w5 w') (by kernel_rfl) (by kernel_rfl) (by kernel_rfl) ?_;iterate 21 (refine gWalk_pre (by decide) (fun K hK=>?_);go_simp;refine hK _ ?_;clear hK K)
        refine gWalk_write rfl undef (fun w' hw' =>?_) ?_
        · obtain ⟨nq, rfl⟩ := hw'
          go_simp;rw[iw64];exact(hL5.eqv (Eqv.drewN w5 nq)).st7 ((Fr.refl [g] w5).drewN nq) (i:=u+1) (by omega) _
        refine gWalk_nil ?_;rintro w6 ⟨hL6,hF6⟩;clear b7 b8 d5 hfz5;go_wp2_with fail
        refine(refresh_v hL6 u hu Key.out.2.2.2.2 Key.out.2.2.1 Key.out.2.2.2.1).mono ?_;rintro _ w7 ⟨rfl,hL7,hF7⟩;have c7:=hL7.hd.cell 2;simp only[zS,zT]at c7;have hfz7:=hL7.hd.frozen 2;obtain⟨par', d', rt', F', q1,q2⟩:=Key.out.1;have hAE:∀x y,addE E v u x y↔Adj par' (x+1) (y+1):=by
          intro x y;rw[q2];unfold addE;rw[HE2.out x y];simp only[Nat.add_right_cancel_iff]
        have hcnt:=nc_add (n:=n) hfrs.out ⟨par', d', rt', q1.rtd,hAE⟩ HN.out hv hu;have hnc1:=nc_le n (addE E v u);have hed:IntKind.i64.wrap ((n:Int)-nc n E+1)=(n:Int)-nc n (addE E v u):=by
          rw[show(n:Int)-nc n E+1=(n:Int)-nc n (addE E v u) by omega];exact zP _ (by omega)
        obtain⟨hL8,hF8⟩:=hL7.edges (hF2.then (hF3.then (hF4.then (hF5'.then (hF6.then hF7))))) ((n:Int)-nc n (addE E v u));have Hfin:=qB (show LM _ pf g n (addE E v u) key from⟨cap2,_,F', par', d', rt', hL8,q1,hAE,fun x hx=>by rw[Key.out.2.1];exact HK2.out x hx⟩);have hnq:nc n E=nc n (addE E v u)+1:=hcnt.symm;rw[hnq]at c7;have hed2:(n:Int)-((nc n (addE E v u)+1:Nat):Int)+1=(n:Int)-nc n (addE E v u):=by omega
        clear hL8 q1 q2 hAE hcnt hnq hed Key;generalize nc n (addE E v u)=z at *;go_wp2
        go_ret;rw[Hlc.out.1,Hlc.out.2];have e:(n:Int)-((z:Int)+1)+1=(n:Int)-z:=by omega
        rw[e];exact⟨rfl,Hfin.out,(hFa.mono (S' :=[pf,g]) (by simp)).trans hF8 (fun q hq=>.inl hq)⟩
  · have hlc:linkCode n E a b=3:=by
      unfold linkCode;rw[qH];rintro⟨h1,h2⟩;rcases(show k=0∨k=1 by omega) with rfl|rfl
      · have hbad:inV n a=false:=hbad;rw[h1]at hbad;cases hbad
      · have hbad:inV n b=false:=hbad;rw[h2]at hbad;cases hbad
    have hle:linkE n E a b=E:=by unfold linkE;rw[hlc];simp
    have Hlc:=qB (zR hlc hle);clear hlc hle hbad;go_wp2
    go_ret;rw[Hlc.out.1,Hlc.out.2];exact⟨rfl,HMa.out,hFa.mono (by simp)⟩
end Go.Proofs.YtgmnemndjjmgkaaGreat
namespace Go.Proofs.YtgmnemndjjmgkaaGreat
open Go.RowKit
set_option maxRecDepth 10000
set_option maxHeartbeats 800000
theorem new_no(n:Int)(w:World)(h:n<0∨65536<n):
    Calls Tryz.prog 166 #[.int .i64 n] w fun e w' =>e=.returned (.tuple #[.pointer none,.int .i64 2])∧w' =w:=by
 rcases h with h|h
 {
 go_enter Tryz.func166,Tryz.ntmps166
 go_wp2
 go_ret2;exact⟨rfl,rfl⟩}
 {
 have h0:¬n<0:=by omega
 go_enter Tryz.func166,Tryz.ntmps166
 go_wp2
 go_ret2;exact⟨rfl,rfl⟩}
def nd0:Nd:={ k0:=0,k1:=0,up:=0,flip:=false,key:=0,size:=0,first:=0,light:=0,total:=0 }
def ndv:Value:=.agg #[.int .i64 0,.int .i64 0,.int .i64 0,.bool false,.int .i64 0,.int .i64 0,.int .i64 0,.int .i64 0,.int .i64 0]
theorem Tryz.info191:(Tryz.prog.info? 191).map (fun i=>(i.zero,i.size,i.bytes))=some (some ndv,9,72):=by kernel_rfl
theorem ndv_cells:ndv.cells=#[.int .i64 0,.int .i64 0,.int .i64 0,.bool false,.int .i64 0,.int .i64 0,.int .i64 0,.int .i64 0,.int .i64 0]:=by kernel_rfl
theorem made_nodes(N i f:Nat)(hi:i<N)(hf:f<9):(madeCells ndv.cells (N*9))[i*9+f]? =some (fv nd0 f):=by
 rw[ndv_cells];unfold madeCells;have hlt:i*9+f<N*9:=by omega
 have:(i*9+f)%9=f:=by omega
 simp only[Array.getElem?_map,Array.getElem?_range,hlt,if_true,Option.map_some];show some (_[(i*9+f)%9]!)=_
 rw[this];match f,hf with
 | 0,_=>rfl
 | 1,_=>rfl
 | 2,_=>rfl
 | 3,_=>rfl
 | 4,_=>rfl
 | 5,_=>rfl
 | 6,_=>rfl
 | 7,_=>rfl
 | 8,_=>rfl
def zeroNodes(m:Nat):Array Value:=madeCells ndv.cells (m*9)
theorem run_make_nodes(n:Nat)(w:World)(hn:n≤1048576):(Instr.makeSlice 192 (.int .i64 n) (.int .i64 n)).run Tryz.prog w=.ok (.slice (some ⟨w.heap.size,0,none⟩) n n) (w.alloc (.cells (zeroNodes n) 191)):=by
 obtain⟨i0,hi,hz0,hz1,hz2⟩:=info_parts Tryz.info191;have h:=run_make (P:=Tryz.prog) w 192 191 i0 ndv Tryz.underlying192 hi hz0 .i64 .i64 n n (by omega) (by omega) (by rw[hz2];omega) (by omega);rw[hz1]at h;simp only[zM]at h;exact h
def newT(k:Nat):Tbl:=fun i=>if 0<i∧i≤k then { nd0 with size:=1,first:=i,total:=1 } else nd0
theorem newT_succ(k:Nat):refresh (newT k) (k+1)=newT (k+1):=by
 have h0:(newT k (k+1)).k0=0∧(newT k (k+1)).k1=0∧newT k (k+1)=nd0:=by {
 have:newT k (k+1)=nd0:=by unfold newT;rw[qH (by omega)]
 rw[this];exact⟨rfl,rfl,rfl⟩};have e:refresh (newT k) (k+1)=ref0 (newT k) (k+1):=by {
 show refKid (refKid (ref0 (newT k) (k+1)) (k+1) (newT k (k+1)).k0) (k+1) (newT k (k+1)).k1=_
 rw[h0.1,h0.2.1];rfl};rw[e];funext i
 unfold ref0;by_cases hi:i=k+1
 {
 subst hi;rw[upd_same,h0.2.2];unfold newT;rw[qI (by omega)];simp[nd0,wrap64]}
 {
 rw[upd_other hi];unfold newT;by_cases h1:0<i∧i≤k
 · rw[qI h1,qI (by omega)]
 · rw[qH h1,qH (by omega)]}
theorem newT_inR(k N:Nat)(_hk:k<N):InR N (newT k):=by
 intro i hi;unfold newT;split
 · exact⟨by show 0<N;omega,by show 0<N;omega,by show 0<N;omega,hi⟩
 · exact⟨by show 0<N;omega,by show 0<N;omega,by show 0<N;omega,by show 0<N;omega⟩
theorem new_w(n:Nat)(w:World)(h:n≤65536):
    Calls Tryz.prog 166 #[.int .i64 n] w fun e w' =>∃pf g,e=.returned (.tuple #[.pointer (some ⟨pf,0,none⟩),.int .i64 0])∧LM w' pf g n (fun _ _=>False) (fun _=>0)∧Fr [] w w' ∧ w.heap.size≤pf∧w.heap.size≤g:=by
 have hmk:∀W:World,(Instr.makeSlice 192 (.int .i64 ((n:Int)+1)) (.int .i64 ((n:Int)+1))).run Tryz.prog W=.ok (.slice (some ⟨W.heap.size,0,none⟩) (n+1) (n+1)) (W.alloc (.cells (zeroNodes (n+1)) 191)):=fun W=>run_make_nodes (n+1) W (by omega);have h0:¬((n:Int)<0):=by omega
 have h1:¬(65536<(n:Int)):=by omega
 go_enter Tryz.func166,Tryz.ntmps166
 go_wp2
 obtain⟨W0,hW0⟩:∃W0,(w.alloc (.cells (zeroNodes (n+1)) 191)).alloc (.cells #[.pointer (some ⟨w.heap.size+1,0,none⟩),.slice (some ⟨w.heap.size,0,none⟩) (n+1) (n+1),.int .i64 0] 194)=W0:=⟨_,rfl⟩;have hL0:LctAt W0 (w.heap.size+1) w.heap.size (n+1) (n+1) (newT 0) 0:=by {
 subst hW0;refine⟨?_,?_,by omega,by omega,qS _⟩
 {
 have:=Blk.new (w.alloc (.cells (zeroNodes (n+1)) 191)) [.pointer (some ⟨w.heap.size+1,0,none⟩),.slice (some ⟨w.heap.size,0,none⟩) (n+1) (n+1),.int .i64 0] 194;rw[World.size_alloc]at this;exact this}
 {
 refine⟨zeroNodes (n+1),?_,by simp[zeroNodes,size_madeCells],fun i hi f hf=>?_⟩
 · exact(Below.heap_alloc _ _ _ (by simp)).trans (World.alloc_heap_new w _)
 {
 have:newT 0 i=nd0:=by unfold newT;rw[qH (by omega)]
 rw[this];exact made_nodes (n+1) i f hi hf}}};have hF0:Fr [] w W0:=by subst hW0;exact((Fr.refl _ _).alloc _).alloc _
 rw[hW0];clear hW0 hmk;go_loopw [22] (fun x wr=>∃k:Nat,k≤n∧x=.int .i64 k∧LctAt wr (w.heap.size+1) w.heap.size (n+1) (n+1) (newT k) 0∧Fr [] w wr) (fun x _=>n-(intOf x).toNat)
 case atStart=>exact⟨0,zB _,rfl,hL0,hF0⟩
 case round=>
  clear hL0 hF0;obtain⟨k,hk,rfl,hL,hF⟩:=hrel;by_cases hlt:k<n
  {
  have hz:newT k (k+1)=nd0:=by unfold newT;rw[qH (by omega)]
  have HQ:=qB (show(newT k (k+1)).k0≠k+1∧(newT k (k+1)).k1≠k+1 by rw[hz];simp[nd0]);clear hz;go_wp2_with fail
  refine(refresh_v hL k hlt (newT_inR k (n+1) (by omega)) HQ.out.1 HQ.out.2).mono ?_;rintro _ w2 ⟨rfl,hL2,hF2⟩;rw[newT_succ]at hL2;go_wp2
  exact⟨⟨k+1,by omega,by go_num,hL2,hF.trans hF2 (fun b hb=>.inr (by simp at hb;omega))⟩,by simp[intOf];omega⟩}
  {
  obtain rfl:k=n:=by omega
  go_wp2
  go_ret2;have hv:∀x,0<x→x<k+1→newT k x={ nd0 with size:=1,first:=x,total:=1 }:=fun x h1 h2=>by unfold newT;rw[qI (by omega)]
  have h00:newT k 0=nd0:=by unfold newT;rw[qH (by omega)]
  have hlf:=LF.new k (newT k) (by rw[h00];simp[nd0]) (fun x h1 h2=>by rw[hv x h1 h2];simp[nd0]);refine⟨w.heap.size+1,w.heap.size,rfl,⟨k+1,newT k,_,_,_,_,?_,hlf,fun v u=>?_,fun v hv' =>?_⟩,hF,by omega,qS _⟩
  · rw[nc_none];simpa using hL
  · simp[Adj]
  · rw[hv (v+1) (by omega) (by omega)];rfl}
end Go.Proofs.YtgmnemndjjmgkaaGreat
namespace Go.Proofs.YtgmnemndjjmgkaaGreat
open Go.RowKit Classical
set_option maxRecDepth 10000
set_option maxHeartbeats 800000
noncomputable def connB(n:Nat)(E:Nat→Nat→Prop)(a b:Int):Bool:=decide (ConnI n E a b)
noncomputable def thePath(E:Nat→Nat→Prop)(a b:Nat):List Nat:=if h:Conn E a b then Classical.choose h else []
noncomputable def distI(n:Nat)(E:Nat→Nat→Prop)(a b:Int):Int:=if ConnI n E a b then((thePath E a.toNat b.toNat).length:Int)-1 else -1
section
variable {E:Nat→Nat→Prop} {a b c:Nat}
theorem thePath_eq(h:Frs E){p:List Nat}(hp:IsPath E a b p):thePath E a b=p:=by
 unfold thePath;have hc:Conn E a b:=⟨p,hp⟩;rw[dif_pos hc];exact h.unique (Classical.choose_spec hc) hp
theorem connB_iff{n:Nat}{a b:Int}:connB n E a b=true↔ConnI n E a b:=by unfold connB;exact decide_eq_true_iff
end
section
variable {w:World} {pf g n:Nat} {E:Nat→Nat→Prop} {key:Nat→Int} {ed:Int} (h:LG w pf g n E key ed)
include h
theorem connected_d(a b:Int):Calls Tryz.prog 83 #[.pointer (some ⟨pf,0,none⟩),.int .i64 a,.int .i64 b] w fun e w' =>e=.returned (.bool (connB n E a b))∧LG w' pf g n E key ed∧Fr [g] w w' :=by
 refine(connected_w h a b).mono ?_;rintro e w' ⟨r,rfl,hr,h2,h3⟩;have:r=connB n E a b:=by {
 have:=(connB_iff (n:=n) (E:=E) (a:=a) (b:=b));cases r<;>cases hc:connB n E a b<;>simp_all};rw[this];exact⟨rfl,h2,h3⟩
theorem dist_d(a b:Int):Calls Tryz.prog 179 #[.pointer (some ⟨pf,0,none⟩),.int .i64 a,.int .i64 b] w fun e w' =>e=.returned (.int .i64 (distI n E a b))∧LG w' pf g n E key ed∧Fr [g] w w' :=by
 have hf:=h.frs;refine(dist_w h a b).mono ?_;rintro e w' ⟨x,rfl,hr,h2,h3⟩;refine⟨?_,h2,h3⟩;unfold distI;rcases hr with⟨hn,rfl⟩|⟨v,u,p,rfl,rfl,hv,hu,hp,rfl⟩
 · rw[qH hn]
 {
 have hc:ConnI n E v u:=⟨by simp[inV];omega,by simp[inV];omega,p,hp⟩;rw[qI hc,zM,zM,thePath_eq hf hp]}
end
theorem dist_nat{n:Nat}{E:Nat→Nat→Prop}(h:Frs E){a b:Nat}(ha:a<n)(hb:b<n){p:List Nat}(hp:IsPath E a b p):distI n E a b=(p.length:Int)-1:=by
 unfold distI;rw[qI ⟨by simp[inV];omega,by simp[inV];omega,p,hp⟩,zM,zM,thePath_eq h hp]
theorem conn_in{E:Nat→Nat→Prop}{a b:Nat}(h:Conn E a b)(hne:a≠b):∃x,E x b:=by
 obtain⟨p,l,rfl,hw,_,hl⟩:=h;rcases List.eq_nil_or_concat l with rfl|⟨S,x,rfl⟩
 · simp at hl;exact absurd hl hne
 {
 rw[List.concat_eq_append]at *;rw[←zL,last_snoc]at hl;cases hl;rcases List.eq_nil_or_concat S with rfl|⟨S', y,rfl⟩
 · exact⟨a,hw.1⟩
 {
 rw[List.concat_eq_append,List.append_assoc]at hw;exact⟨y,(wk_append.1 hw).2.1⟩}}
theorem linkCode_new{n:Nat}{E:Nat→Nat→Prop}{a b:Nat}(ha:a<n)(hb:b<n)(hne:a≠b)(hc:¬Conn E a b):linkCode n E a b=0:=by
 unfold linkCode;rw[qI ⟨by simp[inV];omega,by simp[inV];omega⟩,qH (by omega),zM,zM,qH hc]
theorem linkE_new{n:Nat}{E:Nat→Nat→Prop}{a b:Nat}(ha:a<n)(hb:b<n)(hne:a≠b)(hc:¬Conn E a b):linkE n E a b=addE E a b:=by
 unfold linkE;rw[linkCode_new ha hb hne hc];simp
theorem link_ok{w:World}{pf g n:Nat}{E:Nat→Nat→Prop}{key:Nat→Int}(h:LM w pf g n E key)(a b:Nat)(ha:a<n)(hb:b<n)(hne:a≠b)(hc:¬Conn E a b):
    Calls Tryz.prog 197 #[.pointer (some ⟨pf,0,none⟩),.int .i64 a,.int .i64 b] w fun e w' =>e=.returned (.int .i64 0)∧LM w' pf g n (addE E a b) key∧Fr [pf,g] w w' :=by
 have:=link_w h a b;rw[linkCode_new ha hb hne hc,linkE_new ha hb hne hc]at this;exact this
noncomputable def cutCode(n:Nat)(E:Nat→Nat→Prop)(a b:Int):Int:=
  if inV n a=true∧inV n b=true then(if E a.toNat b.toNat then 0 else 5) else 3
noncomputable def cutE(n:Nat)(E:Nat→Nat→Prop)(a b:Int):Nat→Nat→Prop:=if cutCode n E a b=0 then delE E a.toNat b.toNat else E
theorem dist_one{n:Nat}{E:Nat→Nat→Prop}(h:Frs E){v u:Nat}(hv:v<n)(hu:u<n):distI n E v u=1↔E v u:=by
 constructor
 {
 intro e;by_cases hc:ConnI n E v u
 {
 obtain⟨_,_,p,hp⟩:=hc;simp only[zM]at hp;rw[dist_nat h hv hu hp]at e;obtain⟨l,rfl,hw,_,hl⟩:=hp;have hlen:l.length=1:=by simp at e;omega
 match l,hlen with
 | [x],_=>{
 simp at hl;subst hl;exact hw.1}}
 · unfold distI at e;rw[qH hc]at e;cases e}
 {
 intro e;rw[dist_nat h hv hu (h.edge e)];rfl}
theorem cut_w{w:World}{pf g n:Nat}{E:Nat→Nat→Prop}{key:Nat→Int}(h:LM w pf g n E key)(a b:Int):
    Calls Tryz.prog 138 #[.pointer (some ⟨pf,0,none⟩),.int .i64 a,.int .i64 b] w fun e w' =>e=.returned (.int .i64 (cutCode n E a b))∧LM w' pf g n (cutE n E a b) key∧Fr [pf,g] w w' :=by
 have H:=qB h;have hfrs:=qB (LG.frs h);obtain⟨hp1,hg1,hn1⟩:=LG.lts h;obtain⟨cap,σ,F,par,d,rt,hL,hF,hE,hk⟩:=h;clear hF hE hk;have hLa:LctAt (w.alloc (.cells #[.int .i64 a,.int .i64 b] 3)) pf g (n+1) cap σ ((n:Int)-nc n E):=hL.below ((Below.refl _ w).alloc (qS _) _) hp1 hg1;have hblk:=Blk.new w [.int .i64 a,.int .i64 b] 3;have hFa:Fr [] w (w.alloc (.cells #[.int .i64 a,.int .i64 b] 3)):=(Fr.refl _ _).alloc _;have HMa:=qB (LG.fr H.out hFa (by simp) (by simp));have hCk:=check_w hLa w.heap.size 2 (fun k=>if k=0 then a else b) (by decide) (fun k hk=>by
   rw[hblk.cell];rcases(show k=0∨k=1 by omega) with rfl|rfl<;>rfl)
 have HCk:=qB hCk;clear hCk hblk;clear hLa hL;go_enter Tryz.func138,Tryz.ntmps138
 go_wp2_with fail
 refine HCk.out.mono ?_;rintro _ w1 ⟨hcode,rfl⟩;clear HCk;generalize w.alloc (.cells #[.int .i64 a,.int .i64 b] 3)=w1 at *;rcases hcode with⟨rfl,hall⟩|⟨rfl,k,hk,hbad⟩
 {
 have va:inV n a=true:=hall 0 (by decide);have vb:inV n b=true:=hall 1 (by decide);clear hall;obtain⟨v,rfl,hv⟩:=inV_nat va;obtain⟨u,rfl,hu⟩:=inV_nat vb;have hd1:=dist_one (n:=n) hfrs.out hv hu;go_wp2_with fail
 refine(dist_d HMa.out (v:Int) (u:Int)).mono ?_;rintro _ w2 ⟨rfl,hM2,hF2⟩;by_cases he:E v u
 {
 have hlc:cutCode n E v u=0:=by unfold cutCode;rw[qI ⟨va,vb⟩,zM,zM,qI he]
 have hle:cutE n E v u=delE E v u:=by unfold cutE;rw[hlc,qI rfl,zM,zM]
 have Hlc:=qB (zR hlc hle);clear hlc hle;have Hd:=qB (hd1.2 he);rw[Hd.out];have He:=qB he;clear va vb hd1;obtain⟨cap2,σ2,F2,par2,d2,rt2,hL2,hLF2,hE2,hk2⟩:=hM2;have hrt:rt2 (v+1)=rt2 (u+1):=(conn_rt hLF2.rtd hE2).1 (conn_of_edge hfrs.out he);have HF2:=qB hLF2;clear hLF2;have HE2:=qB hE2;clear hE2;have HK2:=qB hk2;clear hk2;clear he;have hN:=hL2.le;go_wp2_with fail
 refine(path_v hL2 HF2.out v u hv hu).mono ?_;rintro _ w3 ⟨rfl,τ,l,R,par', d', rt', hL3,hP,hF3⟩;obtain⟨p,hp1', hp2', _⟩:=hP.at HE2.out hrt;have hpe:p=[v,u]:=hfrs.out.unique hp1' (hfrs.out.edge He.out);have hls:l.seq=[v+1]:=by {
 rw[hpe]at hp2';simp only[List.map_cons,List.map_nil]at hp2';have e:[v+1]++[u+1]=l.seq++[u+1]:=hp2';exact(List.append_cancel_right e).symm};have HCt:=qB (hP.lf.cut hls);have HPk:=qB (zR hP.key hP.adj);clear hP hp1' hp2' hpe hls hrt;have d3:=hL3.hd.cell 1;simp only[zS,zT]at d3;have hfz3:=hL3.nodes.frozen;have a2:=hL3.nodes.c2 (v+1) (by omega);obtain⟨hL4,hF4⟩:LctAt (w3.setCell ⟨g,(v+1)*9+2,none⟩ (.int .i64 0)) pf g (n+1) cap2 (τ.upd (v+1) { τ (v+1) with up:=0 }) ((n:Int)-nc n E)∧Fr [g] w3 (w3.setCell ⟨g,(v+1)*9+2,none⟩ (.int .i64 0)):=hL3.st2 (Fr.refl [g] w3) (i:=v+1) (by omega) 0;have hv2:((v+1:Nat):Int)<((n+1:Nat):Int):=by omega
 have hu2:((u+1:Nat):Int)<((n+1:Nat):Int):=by omega
 have d4:=hL4.hd.cell 1;simp only[zS,zT]at d4;have hfz4:=hL4.nodes.frozen;have b0:=hL4.nodes.c0 (u+1) (by omega);obtain⟨hL5,hF5⟩:=hL4.st0 hF4 (i:=u+1) (by omega) 0;have HL5:Hid (LctAt ((w3.setCell ⟨g,(v+1)*9+2,none⟩ (.int .i64 0)).setCell ⟨g,(u+1)*9,none⟩ (.int .i64 0)) pf g (n+1) cap2 (cut2 τ (v+1) (u+1)) ((n:Int)-nc n E)∧Fr [g] w3 ((w3.setCell ⟨g,(v+1)*9+2,none⟩ (.int .i64 0)).setCell ⟨g,(u+1)*9,none⟩ (.int .i64 0))):=qB (zR hL5 hF5);clear hL5 hF5 hL4 hF4;go_wp2_with fail
 refine(refresh_v HL5.out.1 u hu HCt.out.2.2.2.2 HCt.out.2.2.1 HCt.out.2.2.2.1).mono ?_;rintro _ w6 ⟨rfl,hL6,hF6⟩;have hF36:Fr [g] w3 w6:=HL5.out.2.then hF6;clear HL5 d3 hfz3 a2 d4 hfz4 b0;have c6:=hL6.hd.cell 2;simp only[zS,zT]at c6;have hfz6:=hL6.hd.frozen 2;obtain⟨par3,d3', rt3,F3,q1,q2⟩:=HCt.out.1;have hDE:∀x y,delE E v u x y↔Adj par3 (x+1) (y+1):=by {
 intro x y;rw[q2,HPk.out.2];unfold delE;rw[HE2.out x y];simp only[Nat.add_right_cancel_iff]};have hcnt:=nc_del (n:=n) hfrs.out ⟨par3,d3', rt3,q1.rtd,hDE⟩ He.out hv hu;have hnc1:=nc_le n (delE E v u);obtain⟨hL8,hF8⟩:=hL6.edges (hF2.then (hF3.then hF36)) ((n:Int)-nc n (delE E v u));have Hfin:=qB (show LM _ pf g n (delE E v u) key from⟨cap2,_,F3,par3,d3', rt3,hL8,q1,hDE,fun x hx=>by rw[HCt.out.2.1,HPk.out.1];exact HK2.out x hx⟩);have he2:(n:Int)-nc n E-1=(n:Int)-nc n (delE E v u):=by omega
 have He2:=qB he2;clear hL8 q1 q2 hDE hcnt he2 HCt;have hncE:=nc_le n E;generalize nc n E=z1 at *;generalize nc n (delE E v u)=z2 at *;go_wp2
 go_ret;rw[Hlc.out.1,Hlc.out.2,He2.out];exact⟨rfl,Hfin.out,(hFa.mono (S' :=[pf,g]) (by simp)).trans hF8 (fun q hq=>.inl hq)⟩}
 {
 have hlc:cutCode n E v u=5:=by unfold cutCode;rw[qI ⟨va,vb⟩,zM,zM,qH he]
 have hle:cutE n E v u=E:=by unfold cutE;rw[hlc];simp
 have Hlc:=qB (zR hlc hle);clear hlc hle;have hne:(distI n E v u != 1)=true:=bne_iff_ne.2 (fun e=>he (hd1.1 e));have HM2:=qB hM2;clear va vb hd1 he hM2;go_wp2
 go_ret;rw[Hlc.out.1,Hlc.out.2];exact⟨rfl,HM2.out,(hFa.mono (S' :=[pf,g]) (by simp)).trans hF2 (fun q hq=>.inl (by simp at hq;simp[hq]))⟩}}
 {
 have hlc:cutCode n E a b=3:=by {
 unfold cutCode;rw[qH];rintro⟨h1,h2⟩;rcases(show k=0∨k=1 by omega) with rfl|rfl
 · have hbad:inV n a=false:=hbad;rw[h1]at hbad;cases hbad
 · have hbad:inV n b=false:=hbad;rw[h2]at hbad;cases hbad};have hle:cutE n E a b=E:=by unfold cutE;rw[hlc];simp
 have Hlc:=qB (zR hlc hle);clear hlc hle hbad;go_wp2
 go_ret;rw[Hlc.out.1,Hlc.out.2];exact⟨rfl,HMa.out,hFa.mono (by simp)⟩}
end Go.Proofs.YtgmnemndjjmgkaaGreat
namespace Go.Proofs.YtgmnemndjjmgkaaGreat
open Classical
def TE(S:Nat)(G:EMap)(T:Nat→Prop)(v u:Nat):Prop:=
  ∃s a b x,G s=some (a,b,x)∧T s∧((v=s∧(u=S+a∨u=S+b))∨(u=s∧(v=S+a∨v=S+b)))
section
variable {S:Nat} {G:EMap} {T W:Nat→Prop} {a b:Nat} {p:List Nat}
theorem te_symm{v u:Nat}(h:TE S G T v u):TE S G T u v:=by
 obtain⟨s,a,b,x,h1,h2,h3⟩:=h;exact⟨s,a,b,x,h1,h2,h3.symm⟩
theorem te_mono{T' :Nat→Prop}(ht:∀s,T s→T' s){v u:Nat}(h:TE S G T v u):TE S G T' v u:=by
 obtain⟨s,a,b,x,h1,h2,h3⟩:=h;exact⟨s,a,b,x,h1,ht s h2,h3⟩
theorem te_reach(hS:∀s e,G s=some e→s<S):∀{l:List Nat} {v:Nat},Wk (TE S G T) v l→(∀y∈v::l,y<S→W y) →
    ((S≤v→Cx G (fun t=>T t∧W t) a (v-S))∧(v<S→∃c d x,G v=some (c,d,x)∧Cx G (fun t=>T t∧W t) a c∧Cx G (fun t=>T t∧W t) a d)) →
    ∀y∈v::l,(S≤y→Cx G (fun t=>T t∧W t) a (y-S))∧(y<S→∃c d x,G y=some (c,d,x)∧Cx G (fun t=>T t∧W t) a c∧Cx G (fun t=>T t∧W t) a d)
  | [],v,_,_,hv,y,hy=>by simp at hy;subst hy;exact hv
  | z::l,v,⟨h1,h2⟩,hW,hv,y,hy=>by
    rcases qF.1 hy with rfl|hy
    · exact hv
    refine te_reach hS h2 (fun y hy=>hW y (by simp at hy ⊢;exact .inr hy)) ?_ y hy;obtain⟨s,c,d,x,hg,ht,h3⟩:=h1;have hs:=hS s _ hg;rcases h3 with⟨rfl,h3⟩|⟨rfl,h3⟩
    · obtain ⟨c', d', x', hg', h4, h5⟩ := hv.2 hs
      rw[hg]at hg'; simp only[qQ,zN]at hg';obtain⟨rfl,rfl,rfl⟩:=hg';rcases h3 with rfl|rfl
      · exact⟨fun _=>by rw[Nat.add_sub_cancel_left];exact h4,fun e=>by omega⟩
      · exact⟨fun _=>by rw[Nat.add_sub_cancel_left];exact h5,fun e=>by omega⟩
    · have hw := hW z (by simp) hs
      have ed:Cx G (fun t=>T t∧W t) c d:=Cx.edge (s:=z) ⟨ht,hw⟩ hg;refine⟨fun e=>by omega,fun _=>⟨c,d,x,hg,?_⟩⟩;rcases h3 with rfl|rfl
      · have h4 := hv.1 (by omega)
        rw[Nat.add_sub_cancel_left]at h4;exact⟨h4,h4.trans ed⟩
      · have h4 := hv.1 (by omega)
        rw[Nat.add_sub_cancel_left]at h4;exact⟨h4.trans ed.symm,h4⟩
theorem te_path(hS:∀s e,G s=some e→s<S)(hp:IsPath (TE S G T) (S+a) (S+b) p)(hW:∀y∈p,y<S→W y):Cx G (fun t=>T t∧W t) a b:=by
 obtain⟨l,rfl,h2,_,h4⟩:=hp;have hb:S+b∈(S+a)::l:=List.mem_of_getLast? h4;have:=(te_reach hS h2 hW ⟨fun _=>by rw[Nat.add_sub_cancel_left];exact .refl a,fun e=>by omega⟩ _ hb).1 (by omega);rw[Nat.add_sub_cancel_left]at this;exact this
theorem te_slots(_hS:∀s e,G s=some e→s<S)(hp:IsPath (TE S G T) (S+a) (S+b) p){m:Nat}(hm:m∈p)(hms:m<S):∃c d x,G m=some (c,d,x)∧T m:=by
 obtain⟨l,rfl,h2,_,h4⟩:=hp;have key:∀{l:List Nat} {v:Nat},Wk (TE S G T) v l→m∈l→∃c d x,G m=some (c,d,x)∧T m:=by {
 intro l;induction l with
 | nil=>intro v _ h;simp at h
 | cons z l ih=>{
 intro v ⟨h1,h2⟩ hm;rcases qF.1 hm with rfl|hm
 {
 obtain⟨s,c,d,x,hg,ht,h3⟩:=h1;rcases h3 with⟨_,h3⟩|⟨rfl,_⟩
 · omega
 · exact⟨c,d,x,hg,ht⟩}
 · exact ih h2 hm}};rcases qF.1 hm with rfl|hm
 · omega
 · exact key h2 hm
theorem te_has(hp:IsPath (TE S G T) (S+a) (S+b) p)(hS:∀s e,G s=some e→s<S)(hab:a≠b):∃s,s∈p∧s<S:=by
 obtain⟨l,rfl,h2,_,h4⟩:=hp;cases l with
 | nil=>simp at h4;exact absurd h4 hab
 | cons z l=>{
 refine⟨z,by simp,?_⟩;obtain⟨s,c,d,x,hg,_,h3⟩:=h2.1;have:=hS s _ hg;rcases h3 with⟨h3,_⟩|⟨rfl,_⟩
 · omega
 · exact this}
theorem te_conn(hf:Frs (TE S G T))(h:Cx G T a b):Conn (TE S G T) (S+a) (S+b):=by
 induction h with
 | refl=>exact Conn.refl _ _
 | @step c d s x _ h1 h2 ih=>{
 refine hf.ctrans ih ?_;rcases h2 with h2|h2
 · exact hf.ctrans (conn_of_edge hf ⟨s,c,d,x,h2,h1,.inr ⟨rfl,.inl rfl⟩⟩) (conn_of_edge hf ⟨s,c,d,x,h2,h1,.inl ⟨rfl,.inr rfl⟩⟩)
 · exact hf.ctrans (conn_of_edge hf ⟨s,d,c,x,h2,h1,.inr ⟨rfl,.inr rfl⟩⟩) (conn_of_edge hf ⟨s,d,c,x,h2,h1,.inl ⟨rfl,.inl rfl⟩⟩)}
theorem te_iff(hS:∀s e,G s=some e→s<S)(hf:Frs (TE S G T)):Conn (TE S G T) (S+a) (S+b)↔Cx G T a b:=
  ⟨fun⟨_,hp⟩=>(te_path (W:=fun _=>True) hS hp (fun _ _ _=>trivial)).mono (fun _ _ h _=>h.1),te_conn hf⟩
theorem te_cut(hf:Frs (TE S G T)){m:Nat}(hf' :Frs (TE S G (fun t=>T t∧t≠m)))(hp:IsPath (TE S G T) (S+a) (S+b) p)(hm:m∈p)(hms:m<S):¬Cx G (fun t=>T t∧t≠m) a b:=by
 intro h;obtain⟨q,hq⟩:=te_conn hf' h;have e:=hf.unique hp (hq.mono (fun x y=>te_mono (fun s h=>h.1)));rw[e]at hm;obtain⟨l,rfl,h2,_,_⟩:=hq;have key:∀{l:List Nat} {v:Nat},Wk (TE S G (fun t=>T t∧t≠m)) v l→m∈l→False:=by {
 intro l;induction l with
 | nil=>intro v _ h;simp at h
 | cons z l ih=>{
 intro v ⟨h1,h2⟩ hm;rcases qF.1 hm with rfl|hm
 {
 obtain⟨s,c,d,x,hg,ht,h3⟩:=h1;rcases h3 with⟨_,h3⟩|⟨rfl,_⟩
 · omega
 · exact ht.2 rfl}
 · exact ih h2 hm}};rcases qF.1 hm with rfl|hm
 · omega
 · exact key h2 hm
theorem te_add{s:Nat}{x:Int}(hg:G s=some (a,b,x)):addE (addE (TE S G T) s (S+a)) s (S+b)=TE S G (fun t=>T t∨t=s):=by
 refine E_ext fun v u=>?_;unfold addE;constructor
 {
 rintro((h|⟨rfl,rfl⟩|⟨rfl,rfl⟩)|⟨rfl,rfl⟩|⟨rfl,rfl⟩)
 · exact te_mono (fun _=>.inl) h
 · exact⟨v,a,b,x,hg,.inr rfl,.inl ⟨rfl,.inl rfl⟩⟩
 · exact⟨u,a,b,x,hg,.inr rfl,.inr ⟨rfl,.inl rfl⟩⟩
 · exact⟨v,a,b,x,hg,.inr rfl,.inl ⟨rfl,.inr rfl⟩⟩
 · exact⟨u,a,b,x,hg,.inr rfl,.inr ⟨rfl,.inr rfl⟩⟩}
 {
 rintro⟨t,c,d,y,h1,h2|rfl,h3⟩
 · exact .inl (.inl ⟨t,c,d,y,h1,h2,h3⟩)
 {
 rw[hg]at h1;simp only[qQ,zN]at h1;obtain⟨rfl,rfl,rfl⟩:=h1;rcases h3 with⟨rfl,rfl|rfl⟩|⟨rfl,rfl|rfl⟩<;>simp}}
theorem te_del(hS:∀s e,G s=some e→s<S){s:Nat}{x:Int}(hg:G s=some (a,b,x)):delE (delE (TE S G T) s (S+a)) s (S+b)=TE S G (fun t=>T t∧t≠s):=by
 have hs:=hS s _ hg;refine E_ext fun v u=>?_;unfold delE;constructor
 {
 rintro⟨⟨⟨t,c,d,y,h1,h2,h3⟩,n1,n2⟩,n3,n4⟩;refine⟨t,c,d,y,h1,⟨h2,?_⟩,h3⟩;rintro rfl;rw[hg]at h1;simp only[qQ,zN]at h1;obtain⟨rfl,rfl,rfl⟩:=h1;rcases h3 with⟨rfl,rfl|rfl⟩|⟨rfl,rfl|rfl⟩
 · exact n1 ⟨rfl,rfl⟩
 · exact n3 ⟨rfl,rfl⟩
 · exact n2 ⟨rfl,rfl⟩
 · exact n4 ⟨rfl,rfl⟩}
 {
 rintro⟨t,c,d,y,h1,⟨h2,hne⟩,h3⟩;have ht:=hS t _ h1;exact⟨⟨⟨t,c,d,y,h1,h2,h3⟩,by omega,by omega⟩,by omega,by omega⟩}
theorem te_congr{G' :EMap}{T' :Nat→Prop}(h1:∀s,T s↔T' s)(h2:∀s,T s→G s=G' s):TE S G T=TE S G' T' :=by
 refine E_ext fun v u=>?_;constructor
 {
 rintro⟨t,c,d,y,e1,e2,e3⟩;exact⟨t,c,d,y,by rw[←h2 t e2];exact e1,(h1 t).1 e2,e3⟩}
 {
 rintro⟨t,c,d,y,e1,e2,e3⟩;have:=(h1 t).2 e2;exact⟨t,c,d,y,by rw[h2 t this];exact e1,this,e3⟩}
theorem te_out{s v:Nat}(hT:¬T s)(hs:s<S):¬TE S G T v s:=by
 rintro⟨t,c,d,y,h1,h2,⟨_,h3⟩|⟨rfl,_⟩⟩
 · omega
 · exact hT h2
theorem te_alone{s v:Nat}(hT:¬T s)(hs:s<S)(hv:v≠s)(hf:Frs (TE S G T)):¬Conn (TE S G T) s v:=by
 intro h;obtain⟨x,hx⟩:=conn_in (hf.csymm h) (fun e=>hv e);exact te_out hT hs hx
theorem te_none:TE S (fun _=>none) T=fun _ _=>False:=by
 refine E_ext fun v u=>?_;simp[TE]
end
structure GW (S V:Nat) (G:EMap):Prop where
  slot:∀s e,G s=some e→s<S
  ends : ∀ s a b x, G s = some (a, b, x) → a < V ∧ b < V ∧ a ≠ b
  rng:∀s a b x,G s=some (a,b,x)→ -9223372036854775808≤x∧x≤9223372036854775807
structure KeyOK (S V:Nat) (G:EMap) (T:Nat→Prop) (key:Nat→Int):Prop where
  slot:∀s a b x,G s=some (a,b,x)→T s→key s=x
  vert:∀v,v<V→key (S+v)=9223372036854775807
section
variable {S V:Nat} {G:EMap} {a b m:Nat} {p:List Nat} {key:Nat→Int}
theorem GW.no(S V:Nat):GW S V (fun _=>none):=⟨fun _ _ h=>(by cases h),fun _ _ _ _ h=>(by cases h),fun _ _ _ _ h=>(by cases h)⟩
theorem GW.put(h:GW S V G){s:Nat}{x:Int}(hs:s<S)(ha:a<V)(hb:b<V)(hab:a≠b)(hx:-9223372036854775808≤x∧x≤9223372036854775807):GW S V (updG G s (some (a,b,x))):=by
 have key:∀t e,updG G s (some (a,b,x)) t=some e→(t=s∧e=(a,b,x))∨G t=some e:=by {
 intro t e ht;by_cases h1:t=s
 · subst h1;rw[updG_same]at ht;cases ht;exact .inl ⟨rfl,rfl⟩
 · rw[updG_other h1]at ht;exact .inr ht};refine⟨fun t e ht=>?_,fun t c d y ht=>?_,fun t c d y ht=>?_⟩
 {
 rcases key _ _ ht with⟨rfl,_⟩|h1
 · exact hs
 · exact h.slot _ _ h1}
 {
 rcases key _ _ ht with⟨rfl,e⟩|h1
 · cases e;exact⟨ha,hb,hab⟩
 · exact h.ends _ _ _ _ h1}
 {
 rcases key _ _ ht with⟨rfl,e⟩|h1
 · cases e;exact hx
 · exact h.rng _ _ _ _ h1}
theorem GW.del(h:GW S V G)(s:Nat):GW S V (updG G s none):=by
 have key:∀t e,updG G s none t=some e→G t=some e:=by {
 intro t e ht;by_cases h1:t=s
 · subst h1;rw[updG_same]at ht;cases ht
 · rw[updG_other h1]at ht;exact ht};exact⟨fun t e ht=>h.slot _ _ (key _ _ ht),fun t c d y ht=>h.ends _ _ _ _ (key _ _ ht),fun t c d y ht=>h.rng _ _ _ _ (key _ _ ht)⟩
theorem first_slot(h:GW S V G)(hk:KeyOK S V G (isTree G) key)(hp:IsPath (TE S G (isTree G)) (S+a) (S+b) p)(hab:a≠b)(hf:FirstOf key p m)(hn:∀x∈p,x<S+V):
    ∃ma mb y,m<S∧G m=some (ma,mb,y)∧isTree G m∧Cx G (fun t=>isTree G t∧(t=m∨Aft G m y t)) a b:=by
 have hms:m<S:=by {
 apply qZ;intro hms;obtain⟨s,hs,hsS⟩:=te_has hp h.slot hab;obtain⟨c,d,x,hg,ht⟩:=te_slots h.slot hp hs hsS;have h1:=hk.slot s c d x hg ht;have h2:=hk.vert (m-S) (by have:=hn m hf.1;omega);rw[show S+(m-S)=m by omega]at h2;have h3:=h.rng s c d x hg;rcases hf.2 s hs (by omega) with e|⟨_,e⟩<;>omega};obtain⟨ma,mb,y,hg,ht⟩:=te_slots h.slot hp hf.1 hms;refine⟨ma,mb,y,hms,hg,ht,te_path h.slot hp fun t htp htS=>?_⟩;by_cases e:t=m
 · exact .inl e
 obtain⟨c,d,x,hg', ht'⟩:=te_slots h.slot hp htp htS;have h1:=hk.slot t c d x hg' ht';have h2:=hk.slot m ma mb y hg ht;refine .inr ⟨c,d,x,hg', ?_⟩;rw[←h1,←h2];rcases hf.2 t htp e with e1|⟨e1,e2⟩
 · exact .inl e1
 · exact .inr ⟨e1,e2⟩
end
noncomputable def cntT(S:Nat)(T:Nat→Prop):Nat:=((List.range S).filter fun s=>decide (T s)).length
theorem cntT_le(S:Nat)(T:Nat→Prop):cntT S T≤S:=by
 unfold cntT;have:=List.length_filter_le (fun s=>decide (T s)) (List.range S);simpa using this
theorem cntT_congr{S:Nat}{T T' :Nat→Prop}(h:∀s,T s↔T' s):cntT S T=cntT S T' :=by
 have:T=T' :=funext fun s=>propext (h s);rw[this]
theorem cntT_one{S:Nat}{T T' :Nat→Prop}{m:Nat}(hm:m<S)(ht:T m)(hn:¬T' m)(h:∀x,x≠m→(T' x↔T x)):cntT S T' + 1=cntT S T:=by
 unfold cntT;exact filter_drop_one (P:=fun s=>decide (T s)) (P' :=fun s=>decide (T' s)) (m:=m) List.nodup_range (List.mem_range.2 hm) (by simp[ht]) (by simp[hn]) (fun x _ hx=>by simp[h x hx])
theorem cntT_drop{S:Nat}{T:Nat→Prop}{m:Nat}(hm:m<S)(ht:T m):cntT S (fun t=>T t∧t≠m)+1=cntT S T:=
  cntT_one hm ht (fun h=>h.2 rfl) (fun _ hx=>⟨fun h=>h.1,fun h=>⟨h,hx⟩⟩)
theorem cntT_put{S:Nat}{T:Nat→Prop}{m:Nat}(hm:m<S)(ht:¬T m):cntT S (fun t=>T t∨t=m)=cntT S T+1:=by
 have:=cntT_drop (T:=fun t=>T t∨t=m) hm (.inr rfl);rw[←this,cntT_congr (T:=fun t=>(T t∨t=m)∧t≠m) (T' :=T)];intro s;constructor
 {
 rintro⟨h|h,h2⟩
 · exact h
 · exact absurd h h2}
 {
 intro h;exact⟨.inl h,by rintro rfl;exact ht h⟩}
theorem cntT_none(S:Nat):cntT S (fun _=>False)=0:=by simp[cntT]
def Indep(G:EMap)(T:Nat→Prop):Prop:=∀m c d x,T m→G m=some (c,d,x)→¬Cx G (fun t=>T t∧t≠m) c d
section
variable {S V:Nat} {G:EMap} {T T' U:Nat→Prop} {a b c d m:Nat} {x y:Int}
theorem Indep.sub(h:Indep G T)(hs:∀t,T' t→T t):Indep G T' :=fun m c d x h1 h2 h3=>
  h m c d x (hs m h1) h2 (h3.mono fun t _ ht _=>⟨hs t ht.1,ht.2⟩)
theorem cnt_le_of{P Q:Nat→Prop}(S:Nat)(h:∀s,P s→Q s):cntT S P≤cntT S Q:=by
 unfold cntT;generalize List.range S=l;induction l with
 | nil=>simp
 | cons v l ih=>{
 by_cases h1:P v
 {
 have h2:=h v h1;simp[h1,h2];exact ih}
 {
 by_cases h2:Q v
 · simp[h1,h2];omega
 · simp[h1,h2];exact ih}}
theorem cnt_zero{P:Nat→Prop}{S:Nat}(h:cntT S P=0):∀s,s<S→¬P s:=by
 intro s hs hp;unfold cntT at h;have h1:s∈(List.range S).filter fun s=>decide (P s):=zJ.2 ⟨List.mem_range.2 hs,by simp[hp]⟩;rw[List.length_eq_zero_iff.1 h]at h1;simp at h1
theorem first_ex(hS:∀s e,G s=some e→s<S):∀(k:Nat) (P:Nat→Prop),cntT S P≤k→(∀s,P s→∃e,G s=some e)→(∃s,P s)→∃s a b x,P s∧G s=some (a,b,x)∧∀t,P t→t≠s→Aft G s x t:=by
 intro k;induction k with
 | zero=>{
 rintro P hk hg ⟨s,hs⟩;obtain⟨e,he⟩:=hg s hs;exact absurd hs (cnt_zero (by omega) s (hS s e he))}
 | succ k ih=>{
 rintro P hk hg ⟨s,hs⟩;obtain⟨⟨a,b,x⟩,he⟩:=hg s hs;by_cases hne:∃t,P t∧t≠s
 {
 have hd:=cntT_drop (T:=P) (hS s _ he) hs;obtain⟨u,c,d,y,⟨hu,hus⟩,hgu,hall⟩:=ih (fun t=>P t∧t≠s) (by omega) (fun t ht=>hg t ht.1) hne;by_cases hb:bef x s y u
 {
 refine⟨s,a,b,x,hs,he,fun t ht hts=>?_⟩;by_cases htu:t=u
 · subst htu;exact⟨c,d,y,hgu,hb⟩
 {
 obtain⟨e1,e2,z,h1,h2⟩:=hall t ⟨ht,hts⟩ htu;exact⟨e1,e2,z,h1,bef_trans hb h2⟩}}
 {
 refine⟨u,c,d,y,hu,hgu,fun t ht htu=>?_⟩;by_cases hts:t=s
 · subst hts;exact⟨a,b,x,he,bef_tri (fun e=>htu e) hb⟩
 · exact hall t ⟨ht,hts⟩ htu}}
 · refine⟨s,a,b,x,hs,he,fun t ht hts=>absurd ⟨t,ht,hts⟩ hne⟩}
theorem indep_sub(hS:∀s e,G s=some e→s<S):∀(k:Nat) (T:Nat→Prop),cntT S T≤k→(∀t,T t→isTree G t)→Indep G T:=by
 intro k;induction k with
 | zero=>{
 intro T hk hT m c d x hm hg _;exact cnt_zero (by omega) m (hS m _ hg) hm}
 | succ k ih=>{
 intro T hk hT m c d x hm hg hc;obtain⟨s,a,b,z,hs,hgs,hall⟩:=first_ex hS (k+1) T hk (fun t ht=>by obtain⟨_,_,_,h,_⟩:=hT t ht;exact⟨_,h⟩) ⟨m,hm⟩;have hd:=cntT_drop (T:=T) (hS s _ hgs) hs;have I:=ih (fun t=>T t∧t≠s) (by omega) (fun t ht=>hT t ht.1);obtain⟨a', b', z', hgs', hnc⟩:=hT s hs;rw[hgs]at hgs'; simp only[qQ,zN]at hgs';obtain⟨rfl,rfl,rfl⟩:=hgs';have lift:∀{p q:Nat},Cx G (fun t=>T t∧t≠s) p q→Cx G (Aft G s z) p q:=fun h=>h.mono fun t _ ht _=>hall t ht.1 ht.2;by_cases hms:m=s
 {
 subst hms;rw[hg]at hgs;simp only[qQ,zN]at hgs;obtain⟨rfl,rfl,rfl⟩:=hgs;exact hnc (lift hc)}
 {
 have ed:Cx G (fun t=>T t∧t≠s) c d:=Cx.edge (s:=m) ⟨hm,hms⟩ hg;have wk:∀{p q:Nat},Cx G (fun t=>(T t∧t≠s)∧t≠m) p q→Cx G (fun t=>T t∧t≠s) p q:=fun h=>h.mono fun t _ ht _=>ht.1;rcases hc.more (U' :=fun t=>(T t∧t≠s)∧t≠m) (s:=s) (fun u hu=>if e:u=s then .inr e else .inl ⟨⟨hu.1,e⟩,hu.2⟩) hgs with h|⟨h1,h2⟩|⟨h1,h2⟩
 · exact I m c d x ⟨hm,hms⟩ hg h
 · exact hnc (lift (((wk h1).symm.trans ed).trans (wk h2).symm))
 · exact hnc (lift (((wk h2).trans ed.symm).trans (wk h1)))}}
theorem indep_tree(hS:∀s e,G s=some e→s<S):Indep G (isTree G):=indep_sub hS _ _ (qS _) (fun _ h=>h)
noncomputable def cxs(V:Nat)(G:EMap)(T:Nat→Prop)(a:Nat):Nat:=cntT V fun v=>Cx G T a v
def SlOf(G:EMap)(T:Nat→Prop)(a:Nat)(s:Nat):Prop:=T s∧∃c d x,G s=some (c,d,x)∧Cx G T a c
noncomputable def sls(S:Nat)(G:EMap)(T:Nat→Prop)(a:Nat):Nat:=cntT S (SlOf G T a)
theorem cnt_split{P Q R:Nat→Prop}(n:Nat)(h1:∀s,P s↔Q s∨R s)(h2:∀s,¬(Q s∧R s)):cntT n P=cntT n Q+cntT n R:=by
 unfold cntT;generalize List.range n=l;induction l with
 | nil=>simp
 | cons v l ih=>{
 by_cases hq:Q v
 {
 have hr:¬R v:=fun h=>h2 v ⟨hq,h⟩;have hp:P v:=(h1 v).2 (.inl hq);simp only[List.filter_cons,hp,hq,hr,decide_true,decide_false,if_true,Bool.false_eq_true,if_false,zI];omega}
 {
 by_cases hr:R v
 {
 have hp:P v:=(h1 v).2 (.inr hr);simp only[List.filter_cons,hp,hq,hr,decide_true,decide_false,if_true,Bool.false_eq_true,if_false,zI];omega}
 {
 have hp:¬P v:=fun h=>((h1 v).1 h).elim hq hr;simp only[List.filter_cons,hp,hq,hr,decide_false,Bool.false_eq_true,if_false];exact ih}}}
theorem cnt_one{n m:Nat}(hm:m<n):cntT n (fun s=>s=m)=1:=by
 have:=cntT_put (S:=n) (T:=fun _=>False) (m:=m) hm (fun h=>h);rw[cntT_none]at this;rw[show cntT n (fun s=>s=m)=cntT n (fun t=>False∨t=m) from cntT_congr fun s=>by simp,this]
theorem cx_drop(hg:G m=some (c,d,x))(hm:T m)(p q:Nat):Cx G T p q↔Cx G (fun t=>T t∧t≠m) p q∨(Cx G (fun t=>T t∧t≠m) p c∧Cx G (fun t=>T t∧t≠m) d q)∨(Cx G (fun t=>T t∧t≠m) p d∧Cx G (fun t=>T t∧t≠m) c q):=by
 constructor
 {
 intro h;exact h.more (fun u hu=>if e:u=m then .inr e else .inl ⟨hu,e⟩) hg}
 {
 have wk:∀{p q:Nat},Cx G (fun t=>T t∧t≠m) p q→Cx G T p q:=fun h=>h.mono fun t _ ht _=>ht.1;have ed:Cx G T c d:=Cx.edge (s:=m) hm hg;rintro(h|⟨h1,h2⟩|⟨h1,h2⟩)
 · exact wk h
 · exact((wk h1).trans ed).trans (wk h2)
 · exact((wk h1).trans ed.symm).trans (wk h2)}
theorem sls_cxs(hG:GW S V G):∀(k:Nat) (T:Nat→Prop),cntT S T≤k→(∀t,T t→∃e,G t=some e)→Indep G T→∀a,a<V→sls S G T a+1=cxs V G T a:=by
  intro k;induction k with
  | zero=>
    intro T hk hT hI a ha;have h0:∀s,¬T s:=fun s hs=>by obtain⟨e,he⟩:=hT s hs;exact cnt_zero (by omega) s (hG.slot s e he) hs
    have e1:sls S G T a=0:=by
      unfold sls;rw[cntT_congr (T' :=fun _=>False) (fun s=>⟨fun h=>h0 s h.1,fun h=>h.elim⟩),cntT_none]
    have e2:cxs V G T a=1:=by
      unfold cxs;rw[cntT_congr (T' :=fun s=>s=a) (fun s=>⟨fun h=>?_,fun h=>by rw[h];exact .refl a⟩),cnt_one ha];cases h with
      | refl=>rfl
      | step s x _ h1 _=>exact absurd h1 (h0 s)
    omega
  | succ k ih=>
    intro T hk hT hI a ha;by_cases hm:∃m,T m
    · obtain ⟨m, hm⟩ := hm
      obtain⟨⟨c,d,x⟩,hg⟩:=hT m hm;have hms:=hG.slot m _ hg;have hen:=hG.ends m c d x hg;have hd:=cntT_drop (T:=T) hms hm;have I:=ih (fun t=>T t∧t≠m) (by omega) (fun t ht=>hT t ht.1) (hI.sub fun t ht=>ht.1);have hn:=hI m c d x hm hg;have hcx:=fun p q=>cx_drop hg hm p q;have key:∀(p q:Nat),q<V→Cx G (fun t=>T t∧t≠m) a p→(∀v,Cx G T a v↔Cx G (fun t=>T t∧t≠m) a v∨Cx G (fun t=>T t∧t≠m) q v)→¬Cx G (fun t=>T t∧t≠m) p q→Cx G T a c→sls S G T a+1=cxs V G T a:=by
        intro p q hq hap hv hpq hac;have e1:cxs V G T a=cxs V G (fun t=>T t∧t≠m) a+cxs V G (fun t=>T t∧t≠m) q:=cnt_split V hv fun v h=>hpq ((hap.symm.trans h.1).trans h.2.symm);have e2:sls S G T a=cntT S (fun s=>s=m)+cntT S (fun s=>SlOf G (fun t=>T t∧t≠m) a s∨SlOf G (fun t=>T t∧t≠m) q s):=by
          refine cnt_split S (fun s=>⟨fun h=>?_,fun h=>?_⟩) (fun s h=>?_)
          · by_cases e : s = m
            · exact .inl e
            · obtain ⟨h1, e1, e2, z, h2, h3⟩ := h
              rcases(hv e1).1 h3 with h4|h4
              · exact .inr (.inl ⟨⟨h1,e⟩,e1,e2,z,h2,h4⟩)
              · exact .inr (.inr ⟨⟨h1,e⟩,e1,e2,z,h2,h4⟩)
          · rcases h with rfl | ⟨h1, e1, e2, z, h2, h3⟩ | ⟨h1, e1, e2, z, h2, h3⟩
            · exact⟨hm,c,d,x,hg,hac⟩
            · exact⟨h1.1,e1,e2,z,h2,(hv e1).2 (.inl h3)⟩
            · exact⟨h1.1,e1,e2,z,h2,(hv e1).2 (.inr h3)⟩
          · obtain ⟨rfl, h⟩ := h
            rcases h with h|h
            · exact h.1.2 rfl
            · exact h.1.2 rfl
        have e3:cntT S (fun s=>SlOf G (fun t=>T t∧t≠m) a s∨SlOf G (fun t=>T t∧t≠m) q s)=sls S G (fun t=>T t∧t≠m) a+sls S G (fun t=>T t∧t≠m) q:=by
          refine cnt_split S (fun s=>Iff.rfl) (fun s h=>?_);obtain⟨⟨_,e1,e2,z,h1,h2⟩,⟨_,e1', e2', z', h1', h2'⟩⟩:=h;rw[h1]at h1'; simp only[qQ,zN]at h1';obtain⟨rfl,rfl,rfl⟩:=h1';exact hpq ((hap.symm.trans h2).trans h2'.symm)
        rw[cnt_one hms]at e2;have i1:=I a ha;have i2:=I q hq;omega
      by_cases h1:Cx G (fun t=>T t∧t≠m) a c
      · refine key c d hen.2.1 h1 (fun v => ⟨fun h => ?_, fun h => ?_⟩) hn ((hcx a c).2 (.inl h1))
        · rcases (hcx a v).1 h with h | ⟨_, h⟩ | ⟨h2, _⟩
          · exact .inl h
          · exact .inr h
          · exact absurd (h1.symm.trans h2) hn
        · rcases h with h | h
          · exact(hcx a v).2 (.inl h)
          · exact(hcx a v).2 (.inr (.inl ⟨h1,h⟩))
      · by_cases h2 : Cx G (fun t => T t ∧ t ≠ m) a d
        · refine key d c hen.1 h2 (fun v => ⟨fun h => ?_, fun h => ?_⟩) (fun h => hn h.symm) ((hcx a c).2 (.inr (.inr ⟨h2, .refl c⟩)))
          · rcases (hcx a v).1 h with h | ⟨h3, _⟩ | ⟨_, h⟩
            · exact .inl h
            · exact absurd h3 h1
            · exact .inr h
          · rcases h with h | h
            · exact(hcx a v).2 (.inl h)
            · exact(hcx a v).2 (.inr (.inr ⟨h2,h⟩))
        · have hv:∀v,Cx G T a v↔Cx G (fun t=>T t∧t≠m) a v:=fun v=>by
            rw[hcx a v];exact⟨fun h=>h.elim id (fun h=>h.elim (fun h=>absurd h.1 h1) (fun h=>absurd h.1 h2)),.inl⟩
          have e1:cxs V G T a=cxs V G (fun t=>T t∧t≠m) a:=cntT_congr hv;have e2:sls S G T a=sls S G (fun t=>T t∧t≠m) a:=cntT_congr fun s=>⟨fun h=>by
              obtain⟨h3,e1,e2,z,h4,h5⟩:=h;have e:s≠m:=by
                rintro rfl;rw[hg]at h4;simp only[qQ,zN]at h4;obtain⟨rfl,rfl,rfl⟩:=h4;exact h1 ((hv c).1 h5)
              exact⟨⟨h3,e⟩,e1,e2,z,h4,(hv e1).1 h5⟩,
            fun⟨h3,e1,e2,z,h4,h5⟩=>⟨h3.1,e1,e2,z,h4,(hv e1).2 h5⟩⟩
          rw[e1,e2];exact I a ha
    · exact(by
        have h0:∀s,¬T s:=fun s hs=>hm ⟨s,hs⟩;exact ih T (by rw[cntT_congr (T' :=fun _=>False) (fun s=>⟨fun h=>h0 s h,fun h=>h.elim⟩),cntT_none];omega) hT hI a ha)
def Lead(G:EMap)(T:Nat→Prop)(v:Nat):Prop:=∀u,u<v→¬Cx G T v u
theorem lead_drop(hc:c<V)(hd:d<V)(hg:G m=some (c,d,x))(hm:T m)(hn:¬Cx G (fun t=>T t∧t≠m) c d):cntT V (Lead G T)+1=cntT V (Lead G fun t=>T t∧t≠m):=by
 have hcx:=fun p q=>cx_drop hg hm p q;generalize hR:(fun p q=>Cx G (fun t=>T t∧t≠m) p q)=R at *;have tr:∀{p q r},R p q→R q r→R p r:=by rw[←hR];intro p q r h1 h2;exact Cx.trans h1 h2
 have sy:∀{p q},R p q→R q p:=by rw[←hR];intro p q h1;exact Cx.symm h1
 have rf:∀p,R p p:=by rw[←hR];intro p;exact .refl p
 have eR:∀p q,Cx G (fun t=>T t∧t≠m) p q↔R p q:=by rw[←hR];intro p q;exact Iff.rfl
 simp only[eR]at hcx hn;have eL:cntT V (Lead G fun t=>T t∧t≠m)=cntT V (fun v=>∀u,u<v→¬R v u):=cntT_congr fun v=>by unfold Lead;simp only[eR]
 have eL' :cntT V (Lead G T)=cntT V (fun v=>∀u,u<v→¬(R v u∨(R v c∧R d u)∨(R v d∧R c u))):=cntT_congr fun v=>by unfold Lead;simp only[hcx]
 rw[eL,eL'];clear eL eL' eR hcx hR;have key:∀{a b fa fb:Nat},fa<fb→R a fa→R b fb→(∀u,u<fa→¬R fa u)→(∀u,u<fb→¬R fb u)→b<V→fb≤b→cntT V (fun v=>∀u,u<v→¬(R v u∨(R v a∧R b u)∨(R v b∧R a u)))+1=cntT V (fun v=>∀u,u<v→¬R v u):=by {
 intro a b fa fb hlt hca hcb hfa hfb hbn hfbb;refine cntT_one (m:=fb) (by omega) hfb ?_ ?_
 {
 intro hf;exact hf fa hlt (.inr (.inr ⟨sy hcb,hca⟩))}
 {
 intro v hv;refine⟨fun hf u hu hc=>hf u hu (.inl hc),fun hf u hu hc=>?_⟩;rcases hc with e|⟨e1,e2⟩|⟨e1,e2⟩
 · exact hf u hu e
 {
 have hxfa:R v fa:=tr e1 hca;have h1:v=fa:=by {
 rcases Nat.lt_trichotomy v fa with q|q|q
 · exact absurd (sy hxfa) (hfa v q)
 · exact q
 · exact absurd hxfa (hf fa q)};have:¬u<fb:=fun q=>hfb u q (tr (sy hcb) e2);omega}
 {
 have hxfb:R v fb:=tr e1 hcb;rcases Nat.lt_trichotomy v fb with q|q|q
 · exact absurd (sy hxfb) (hfb v q)
 · exact absurd q hv
 · exact absurd hxfb (hf fb q)}}};obtain⟨fa,ha1,ha2,ha3⟩:=least_ex (P:=fun k=>R c k) (rf c);obtain⟨fb,hb1,hb2,hb3⟩:=least_ex (P:=fun k=>R d k) (rf d);have hne:fa≠fb:=by rintro rfl;exact hn (tr ha2 (sy hb2))
 have hfa:∀u,u<fa→¬R fa u:=fun k hk hc=>ha3 k hk (tr ha2 hc);have hfb:∀u,u<fb→¬R fb u:=fun k hk hc=>hb3 k hk (tr hb2 hc);rcases Nat.lt_or_gt_of_ne hne with q|q
 · exact key q ha2 hb2 hfa hfb hd hb1
 {
 rw[←key q hb2 ha2 hfb hfa hc ha1];congr 1
 exact cntT_congr fun v=>⟨fun h u hu e=>h u hu (e.elim .inl (fun e=>e.elim (fun e=>.inr (.inr e)) (fun e=>.inr (.inl e)))),fun h u hu e=>h u hu (e.elim .inl (fun e=>e.elim (fun e=>.inr (.inr e)) (fun e=>.inr (.inl e))))⟩}
theorem lead_cnt(hG:GW S V G):∀(k:Nat) (T:Nat→Prop),cntT S T≤k→(∀t,T t→∃e,G t=some e)→Indep G T→cntT V (Lead G T)+cntT S T=V:=by
 have all:cntT V (fun _=>True)=V:=by {
 unfold cntT;rw[List.filter_eq_self.2 (fun _ _=>by simp),List.length_range]};intro k;induction k with
 | zero=>{
 intro T hk hT hI;have h0:∀s,¬T s:=fun s hs=>by obtain⟨e,he⟩:=hT s hs;exact cnt_zero (by omega) s (hG.slot s e he) hs
 have:cntT V (Lead G T)=V:=by {
 refine(cntT_congr (T' :=fun _=>True) (fun v=>⟨fun _=>trivial,fun _ u hu hc=>?_⟩)).trans all;cases hc with
 | refl=>exact absurd hu (Nat.lt_irrefl _)
 | step s x _ h1 _=>exact h0 s h1};omega}
 | succ k ih=>{
 intro T hk hT hI;by_cases hm:∃m,T m
 {
 obtain⟨m,hm⟩:=hm;obtain⟨⟨c,d,x⟩,hg⟩:=hT m hm;have hd:=cntT_drop (T:=T) (hG.slot m _ hg) hm;have hen:=hG.ends m c d x hg;have:=lead_drop hen.1 hen.2.1 hg hm (hI m c d x hm hg);have:=ih (fun t=>T t∧t≠m) (by omega) (fun t ht=>hT t ht.1) (hI.sub fun t ht=>ht.1);omega}
 {
 have h0:∀s,¬T s:=fun s hs=>hm ⟨s,hs⟩;exact ih T (by rw[cntT_congr (T' :=fun _=>False) (fun s=>⟨fun h=>h0 s h,fun h=>h.elim⟩),cntT_none];omega) hT hI}}
theorem lead_tree(hG:GW S V G):cntT V (Lead G (isTree G))+cntT S (isTree G)=V:=
  lead_cnt hG _ _ (qS _) (fun _t ⟨_a,_b,_x,h,_⟩=>⟨_,h⟩) (indep_tree hG.slot)
theorem Frs.sub{E E' :Nat→Nat→Prop}(h:Frs E)(hs:∀v u,E' v u→E v u)(sy:∀v u,E' v u→E' u v):Frs E' :=by
 obtain⟨par,d,rt,hR,hE⟩:=h;have hp:∀x,(if x≠0∧par x≠0∧E' (x-1) (par x-1) then par x else 0)≠0→(if x≠0∧par x≠0∧E' (x-1) (par x-1) then par x else 0)=par x∧par x≠0∧E' (x-1) (par x-1):=by {
 intro x hx;by_cases h:x≠0∧par x≠0∧E' (x-1) (par x-1)
 · exact⟨qI h,h.2.1,h.2.2⟩
 · exact absurd (qH h) hx};obtain⟨rt', hR'⟩:=rt_ex (par:=fun x=>if x≠0∧par x≠0∧E' (x-1) (par x-1) then par x else 0) (d:=d) (fun x hx=>by
   have:=hp x hx;show d (if x≠0∧par x≠0∧E' (x-1) (par x-1) then par x else 0)<d x
   rw[this.1];exact hR.dep x this.2.1)
 refine⟨_,d,rt', hR', fun v u=>⟨fun e=>?_,fun e=>?_⟩⟩
 {
 obtain⟨h1,h2,h3⟩:=(hE v u).1 (hs v u e);refine⟨h1,h2,h3.imp (fun q=>?_) (fun q=>?_)⟩
 {
 show(if v+1≠0∧par (v+1)≠0∧E' (v+1-1) (par (v+1)-1) then par (v+1) else 0)=u+1
 rw[q,qI ⟨by omega,by omega,by simpa using e⟩]}
 {
 show(if u+1≠0∧par (u+1)≠0∧E' (u+1-1) (par (u+1)-1) then par (u+1) else 0)=v+1
 rw[q,qI ⟨by omega,by omega,by simpa using sy _ _ e⟩]}}
 {
 obtain⟨h1,h2,h3⟩:=e;rcases h3 with q|q
 {
 have:=hp (v+1) (by show(if v+1≠0∧par (v+1)≠0∧E' (v+1-1) (par (v+1)-1) then par (v+1) else 0)≠0;rw[show(if v+1≠0∧par (v+1)≠0∧E' (v+1-1) (par (v+1)-1) then par (v+1) else 0)=u+1 from q];omega);have e1:par (v+1)=u+1:=this.1.symm.trans q;have:=this.2.2;rw[e1]at this;simpa using this}
 {
 have:=hp (u+1) (by show(if u+1≠0∧par (u+1)≠0∧E' (u+1-1) (par (u+1)-1) then par (u+1) else 0)≠0;rw[show(if u+1≠0∧par (u+1)≠0∧E' (u+1-1) (par (u+1)-1) then par (u+1) else 0)=v+1 from q];omega);have e1:par (u+1)=v+1:=this.1.symm.trans q;have:=this.2.2;rw[e1]at this;exact sy _ _ (by simpa using this)}}
theorem te_sub(h:Frs (TE S G T))(hs:∀t,T' t→T t):Frs (TE S G T'):=h.sub (fun _ _=>te_mono hs) (fun _ _=>te_symm)
def AtLeast(G:EMap)(r:Int)(t:Nat):Prop:=∃a b x,G t=some (a,b,x)∧r≤x
def Beyond(G:EMap)(r:Int)(t:Nat):Prop:=∃a b x,G t=some (a,b,x)∧r<x
def IsUntil(G:EMap)(a b:Nat)(r:Int):Prop:=Cx G (AtLeast G r) a b∧¬Cx G (Beyond G r) a b
theorem until_one{r r' :Int}(h:IsUntil G a b r)(h' :IsUntil G a b r'):r=r' :=by
 have key:∀{r r' :Int},IsUntil G a b r→IsUntil G a b r' → ¬r<r' :=fun h h' hlt=>
   h.2 (h'.1.mono fun t _ ⟨c,d,x,h1,h2⟩ _=>⟨c,d,x,h1,by omega⟩)
 have:=key h h';have:=key h' h;omega
theorem until_first{ma mb:Nat}(hS:∀s e,G s=some e→s<S)(hm:G m=some (ma,mb,y))(hc:Cx G (fun t=>isTree G t∧(t=m∨Aft G m y t)) a b)(hn:¬Cx G (fun t=>isTree G t∧t≠m) a b):IsUntil G a b y:=by
 refine⟨hc.mono fun t _ ht _=>?_,fun h=>?_⟩
 {
 rcases ht.2 with rfl|⟨c,d,z,h1,h2⟩
 · exact⟨ma,mb,y,hm,Int.le_refl _⟩
 · exact⟨c,d,z,h1,by unfold bef at h2;omega⟩}
 {
 have hu:Upw G (Beyond G y):=by {
 rintro t c d z u ⟨c', d', z', h1,h2⟩ h3 ⟨e,f,v,h4,h5⟩;rw[h3]at h1;simp only[qQ,zN]at h1;obtain⟨_,_,rfl⟩:=h1;exact⟨e,f,v,h4,by unfold bef at h5;omega⟩};refine hn ((kru hS hu h).mono fun t _ ht _=>⟨ht.2,?_⟩);rintro rfl;obtain⟨_,_,z,h1,h2⟩:=ht.1;rw[hm]at h1;simp only[qQ,zN]at h1;omega}
noncomputable def untilI(G:EMap)(a b:Nat):Int:=if h:∃r,IsUntil G a b r then Classical.choose h else 0
theorem untilI_eq{r:Int}(h:IsUntil G a b r):untilI G a b=r:=by
 have hx:∃r,IsUntil G a b r:=⟨r,h⟩;unfold untilI;rw[dif_pos hx];exact until_one (Classical.choose_spec hx) h
def IsFst(G:EMap)(m:Nat):Prop:=∃a b x,G m=some (a,b,x)∧∀t c d z,G t=some (c,d,z)→¬bef z t x m
theorem fst_one{m' :Nat}(h:IsFst G m)(h' :IsFst G m'):m=m' :=by
 obtain⟨a,b,x,h1,h2⟩:=h;obtain⟨a', b', x', h1', h2'⟩:=h';have:=h2 m' a' b' x' h1';have:=h2' m a b x h1;unfold bef at *;omega
noncomputable def fstG(G:EMap):Option Nat:=if h:∃m,IsFst G m then some (Classical.choose h) else none
theorem fstG_eq(h:IsFst G m):fstG G=some m:=by
 have hx:∃m,IsFst G m:=⟨m,h⟩;unfold fstG;rw[dif_pos hx];exact congrArg some (fst_one (Classical.choose_spec hx) h)
theorem fstG_none(h:∀s,G s=none):fstG G=none:=by
 unfold fstG;rw[dif_neg];rintro⟨m,a,b,x,h1,_⟩;rw[h m]at h1;cases h1
noncomputable def popG(G:EMap):EMap:=match fstG G with
  | none=>G
  | some m=>updG G m none
theorem csize_te(hG:GW S V G)(hf:Frs (TE S G (isTree G)))(ha:a<V):csize (S+V) (TE S G (isTree G)) (S+a)+1=2*cxs V G (isTree G) a:=by
 have h1:=sls_cxs hG _ _ (qS _) (fun t ⟨a,b,x,h,_⟩=>⟨_,h⟩) (indep_tree hG.slot) a ha;have h2:csize (S+V) (TE S G (isTree G)) (S+a)=sls S G (isTree G) a+cxs V G (isTree G) a:=by {
 unfold csize sls cxs cntT;rw[show List.range (S+V)=List.range S++(List.range V).map (S+·) from List.range_add,List.filter_append,zO];congr 1
 {
 congr 1
 refine List.filter_congr fun s hs=>decide_eq_decide.2 ?_;have hs:=List.mem_range.1 hs;constructor
 {
 intro h;have hx:=conn_in (E:=TE S G (isTree G)) h (by omega);obtain⟨v,hx⟩:=hx;obtain⟨t,c,d,x,e1,e2,⟨_,e3⟩|⟨rfl,e3⟩⟩:=hx
 · omega
 · refine⟨e2,c,d,x,e1,(te_iff hG.slot hf).1 (hf.ctrans h (conn_of_edge hf ⟨s,c,d,x,e1,e2,.inl ⟨rfl,.inl rfl⟩⟩))⟩}
 {
 rintro⟨e2,c,d,x,e1,e3⟩;exact hf.ctrans ((te_iff hG.slot hf).2 e3) (conn_of_edge hf ⟨s,c,d,x,e1,e2,.inr ⟨rfl,.inl rfl⟩⟩)}}
 {
 rw[List.filter_map,List.length_map];congr 1
 exact List.filter_congr fun v _=>decide_eq_decide.2 (te_iff hG.slot hf)}};omega
end
end Go.Proofs.YtgmnemndjjmgkaaGreat
namespace Go.Proofs.YtgmnemndjjmgkaaGreat
open Go.RowKit
set_option maxRecDepth 10000
section
variable {s:Sm} {Q:Nat→Option Int} {G:Nat→Option (Nat×Nat×Int)} {i:Nat} {x:Int}
theorem min_fst(hl:Lk s Q G)(hok:s.Ok)(hq:Q i=some x)(hm:∀j y,Q j=some y→¬(y<x∨(y=x∧j<i))):IsFst G i:=by
 obtain⟨e,he,hs,hx⟩:=(hl.q i x).1 hq;obtain⟨a,ha⟩:=zE.1 (vert_mem hok he (x:=e.u) (by simp[Lv.at]));obtain⟨b,hb⟩:=zE.1 (vert_mem hok he (x:=e.v) (by simp[Lv.at]));refine⟨a,b,x,(hl.g i a b x).2 ⟨e,he,hs,ha,hb,hx⟩,fun t c d z ht hbef=>?_⟩;obtain⟨e', he', hs', _,_,hx'⟩:=(hl.g t c d z).1 ht;exact hm t z ((hl.q t z).2 ⟨e', he', hs', hx'⟩) hbef
theorem pop_min(hl:Lk s Q G)(hok:s.Ok)(hq:Q i=some x)(hm:∀j y,Q j=some y→¬(y<x∨(y=x∧j<i))):fstG G=some i∧popG G=fun j=>if j=i then none else G j:=by
 have h1:=fstG_eq (min_fst hl hok hq hm);refine⟨h1,?_⟩;unfold popG;rw[h1];rfl
end
end Go.Proofs.YtgmnemndjjmgkaaGreat
namespace Go.Proofs.YtgmnemndjjmgkaaGreat
def elt(a b:Nat×Int):Prop:=a.2<b.2∨(a.2=b.2∧a.1<b.1)
instance (a b:Nat×Int):Decidable (elt a b):=by unfold elt;exact inferInstance
theorem elt_irrefl(a:Nat×Int):¬elt a a:=by unfold elt;omega
theorem elt_trans{a b c:Nat×Int}(h:elt a b)(k:elt b c):elt a c:=by unfold elt at *;omega
theorem nelt_trans{a b c:Nat×Int}(h:¬elt a b)(k:¬elt b c):¬elt a c:=by unfold elt at *;omega
theorem elt_asymm{a b:Nat×Int}(h:elt a b):¬elt b a:=by unfold elt at *;omega
def swpE(e:Nat→Nat×Int)(p q:Nat):Nat→Nat×Int:=fun x=>if x=p then e q else if x=q then e p else e x
theorem swpE_p(e:Nat→Nat×Int)(p q:Nat):swpE e p q p=e q:=by simp[swpE]
theorem swpE_q(e:Nat→Nat×Int)(p q:Nat):swpE e p q q=e p:=by
 unfold swpE;split
 · rename_i h;rw[h]
 · simp
theorem swpE_o{e:Nat→Nat×Int}{p q x:Nat}(h1:x≠p)(h2:x≠q):swpE e p q x=e x:=by simp[swpE,h1,h2]
theorem swpE_mem{e:Nat→Nat×Int}{n p q:Nat}(hp:p<n)(hq:q<n)(y:Nat×Int):(∃x,x<n∧swpE e p q x=y)↔∃x,x<n∧e x=y:=by
 constructor
 {
 rintro⟨x,hx,rfl⟩;by_cases h1:x=p
 · exact⟨q,hq,by rw[h1,swpE_p]⟩
 {
 by_cases h2:x=q
 · exact⟨p,hp,by rw[h2,swpE_q]⟩
 · exact⟨x,hx,by rw[swpE_o h1 h2]⟩}}
 {
 rintro⟨x,hx,rfl⟩;by_cases h1:x=p
 · exact⟨q,hq,by rw[h1,swpE_q]⟩
 {
 by_cases h2:x=q
 · exact⟨p,hp,by rw[h2,swpE_p]⟩
 · exact⟨x,hx,swpE_o h1 h2⟩}}
def updE(e:Nat→Nat×Int)(n:Nat)(x:Nat×Int):Nat→Nat×Int:=fun k=>if k=n then x else e k
theorem updE_same(e:Nat→Nat×Int)(n:Nat)(x:Nat×Int):updE e n x n=x:=by simp[updE]
theorem updE_other{e:Nat→Nat×Int}{n k:Nat}{x:Nat×Int}(h:k≠n):updE e n x k=e k:=by simp[updE,h]
section
variable {n p:Nat} {e:Nat→Nat×Int}
def Hp(n:Nat)(e:Nat→Nat×Int):Prop:=∀k,0<k→k<n→¬elt (e k) (e ((k-1)/2))
def UpI(n:Nat)(e:Nat→Nat×Int)(p:Nat):Prop:=
  (∀k,0<k→k<n→k≠p→¬elt (e k) (e ((k-1)/2)))∧(0<p→∀c,0<c→c<n→(c-1)/2=p→¬elt (e c) (e ((p-1)/2)))
def DnI(n:Nat)(e:Nat→Nat×Int)(p:Nat):Prop:=
  (∀k,0<k→k<n→(k-1)/2≠p→¬elt (e k) (e ((k-1)/2)))∧(0<p→∀c,0<c→c<n→(c-1)/2=p→¬elt (e c) (e ((p-1)/2)))
theorem up_done(h:UpI n e p)(hd:¬(0<p∧elt (e p) (e ((p-1)/2)))):Hp n e:=by
 intro k h0 hk;by_cases hkp:k=p
 · subst hkp;exact fun he=>hd ⟨h0,he⟩
 · exact h.1 k h0 hk hkp
theorem up_step(h:UpI n e p)(h0:0<p)(hp:p<n)(he:elt (e p) (e ((p-1)/2))):UpI n (swpE e p ((p-1)/2)) ((p-1)/2):=by
 obtain⟨q,hq⟩:∃q,q=(p-1)/2:=⟨_,rfl⟩;rw[←hq]at he ⊢;have hqp:q<p:=by omega
 constructor
 {
 intro k hk0 hk hkq;by_cases hkp:k=p
 {
 subst hkp;rw[←hq,swpE_p,swpE_q];exact elt_asymm he}
 {
 rw[swpE_o hkp hkq];by_cases e1:(k-1)/2=p
 {
 rw[e1,swpE_p];have:=h.2 h0 k hk0 hk e1;rw[←hq]at this;exact this}
 {
 by_cases e2:(k-1)/2=q
 {
 rw[e2,swpE_q];have h1:=h.1 k hk0 hk hkp;rw[e2]at h1;exact fun hl=>h1 (elt_trans hl he)}
 · rw[swpE_o e1 e2];exact h.1 k hk0 hk hkp}}}
 {
 intro hq0 c hc0 hc hcq;have hn:(q-1)/2≠p:=by omega
 have hn2:(q-1)/2≠q:=by omega
 rw[swpE_o hn hn2];have hqq:=h.1 q hq0 (by omega) (by omega);by_cases hcp:c=p
 · subst hcp;rw[swpE_p];exact hqq
 {
 rw[swpE_o hcp (by omega)];have h1:=h.1 c hc0 hc hcp;rw[hcq]at h1;exact nelt_trans h1 hqq}}
theorem push_up(h:Hp n e)(x:Nat×Int):UpI (n+1) (updE e n x) n:=by
 constructor
 {
 intro k h0 hk hkn;rw[updE_other hkn,updE_other (by omega)];exact h k h0 (by omega)}
 {
 intro _ c hc0 hc hcn;omega}
def blw1(n:Nat)(e:Nat→Nat×Int)(p:Nat):Nat:=if 2*p+1<n∧elt (e (2*p+1)) (e p) then 2*p+1 else p
def blw(n:Nat)(e:Nat→Nat×Int)(p:Nat):Nat:=if 2*p+2<n∧elt (e (2*p+2)) (e (blw1 n e p)) then 2*p+2 else blw1 n e p
theorem blw_cases(n:Nat)(e:Nat→Nat×Int)(p:Nat):blw n e p=p∨(blw n e p<n∧(blw n e p=2*p+1∨blw n e p=2*p+2)∧elt (e (blw n e p)) (e p)):=by
 unfold blw blw1;by_cases h1:2*p+1<n∧elt (e (2*p+1)) (e p)
 {
 rw[qI h1];by_cases h2:2*p+2<n∧elt (e (2*p+2)) (e (2*p+1))
 · rw[qI h2];exact .inr ⟨h2.1,.inr rfl,elt_trans h2.2 h1.2⟩
 · rw[qH h2];exact .inr ⟨h1.1,.inl rfl,h1.2⟩}
 {
 rw[qH h1];by_cases h2:2*p+2<n∧elt (e (2*p+2)) (e p)
 · rw[qI h2];exact .inr ⟨h2.1,.inr rfl,h2.2⟩
 · rw[qH h2];exact .inl rfl}
theorem blw_least(n:Nat)(e:Nat→Nat×Int)(p:Nat){c:Nat}(hc:c<n)(h:c=2*p+1∨c=2*p+2):¬elt (e c) (e (blw n e p)):=by
 unfold blw blw1;by_cases h1:2*p+1<n∧elt (e (2*p+1)) (e p)
 {
 rw[qI h1];by_cases h2:2*p+2<n∧elt (e (2*p+2)) (e (2*p+1))
 {
 rw[qI h2];rcases h with rfl|rfl
 · exact elt_asymm h2.2
 · exact elt_irrefl _}
 {
 rw[qH h2];rcases h with rfl|rfl
 · exact elt_irrefl _
 · exact fun hl=>h2 ⟨hc,hl⟩}}
 {
 rw[qH h1];by_cases h2:2*p+2<n∧elt (e (2*p+2)) (e p)
 {
 rw[qI h2];rcases h with rfl|rfl
 · exact fun hl=>h1 ⟨hc,elt_trans hl h2.2⟩
 · exact elt_irrefl _}
 {
 rw[qH h2];rcases h with rfl|rfl
 · exact fun hl=>h1 ⟨hc,hl⟩
 · exact fun hl=>h2 ⟨hc,hl⟩}}
theorem dn_done(h:DnI n e p)(hd:blw n e p=p):Hp n e:=by
 intro k h0 hk;by_cases hkp:(k-1)/2=p
 {
 have:=blw_least n e p hk (by omega);rw[hd]at this;rw[hkp];exact this}
 · exact h.1 k h0 hk hkp
theorem dn_step(h:DnI n e p)(hd:blw n e p≠p):DnI n (swpE e p (blw n e p)) (blw n e p)∧p<blw n e p∧blw n e p<n:=by
 obtain⟨hbn,hb2,hbe⟩:=(blw_cases n e p).resolve_left hd;have hl:=fun {c:Nat} (hc:c<n) (hh:c=2*p+1∨c=2*p+2)=>blw_least n e p hc hh;generalize blw n e p=b at *;refine⟨⟨?_,?_⟩,by omega,hbn⟩
 {
 intro k hk0 hk hkb;by_cases hkp:k=p
 {
 subst hkp;rw[swpE_p,swpE_o (by omega) (by omega)];exact h.2 hk0 b (by omega) hbn (by omega)}
 {
 by_cases hkb2:k=b
 {
 subst hkb2;rw[swpE_q,show(k-1)/2=p by omega,swpE_p];exact elt_asymm hbe}
 {
 rw[swpE_o hkp hkb2];by_cases e1:(k-1)/2=p
 · rw[e1,swpE_p];exact hl hk (by omega)
 · rw[swpE_o e1 hkb];exact h.1 k hk0 hk e1}}}
 {
 intro _ c hc0 hc hcb;rw[swpE_o (by omega) (by omega),show(b-1)/2=p by omega,swpE_p];have:=h.1 c hc0 hc (by omega);rw[hcb]at this;exact this}
theorem pop_dn(h:Hp (n+1) e):DnI n (swpE e 0 n) 0:=by
 refine⟨fun k hk0 hk hkp=>?_,fun h0=>absurd h0 (Nat.lt_irrefl _)⟩;rw[swpE_o (by omega) (by omega),swpE_o hkp (by omega)];exact h k hk0 (by omega)
theorem hp_min(h:Hp n e):∀k,k<n→¬elt (e k) (e 0):=by
 intro k;induction k using Nat.strongRecOn with
 | _ k ih=>{
 intro hk;by_cases h0:k=0
 · subst h0;exact elt_irrefl _
 · exact nelt_trans (h k (by omega) hk) (ih ((k-1)/2) (by omega) (by omega))}
end
structure PlOK (slots n:Nat) (e:Nat→Nat×Int) (pl:Nat→Nat):Prop where
  lt:∀p,p<n→(e p).1<slots
  at_:∀p,p<n→pl (e p).1=p+1
  inv:∀i,pl i≠0→∃p,p<n∧(e p).1=i
section
variable {slots n p q:Nat} {e:Nat→Nat×Int} {pl:Nat→Nat}
def updP(pl:Nat→Nat)(i x:Nat):Nat→Nat:=fun k=>if k=i then x else pl k
theorem updP_same(pl:Nat→Nat)(i x:Nat):updP pl i x i=x:=by simp[updP]
theorem updP_other{pl:Nat→Nat}{i x k:Nat}(h:k≠i):updP pl i x k=pl k:=by simp[updP,h]
theorem PlOK.inj(h:PlOK slots n e pl)(hp:p<n)(hq:q<n)(he:(e p).1=(e q).1):p=q:=by
 have h1:=h.at_ p hp;have h2:=h.at_ q hq;rw[he,h2]at h1;omega
theorem PlOK.le(h:PlOK slots n e pl):n≤slots:=by
 have hnd:((List.range n).map fun p=>(e p).1).Nodup:=by {
 rw[List.nodup_iff_pairwise_ne,List.pairwise_map];refine(List.nodup_range (n:=n)).imp_of_mem (fun {a b} ha hb hne he=>hne ?_);exact h.inj (by simpa using ha) (by simpa using hb) he};have hp:((List.range slots).filter fun i=>decide (i∈(List.range n).map fun p=>(e p).1)).Perm ((List.range n).map fun p=>(e p).1):=by {
 rw[List.perm_ext_iff_of_nodup (List.filter_sublist.nodup List.nodup_range) hnd];intro i;simp only[zJ,List.mem_range,decide_eq_true_eq,and_iff_right_iff_imp,zF];rintro⟨p,hp,rfl⟩;exact h.lt p hp};have h1:=hp.length_eq;have h2:=List.length_filter_le (fun i=>decide (i∈(List.range n).map fun p=>(e p).1)) (List.range slots);simp at h1 h2;omega
theorem PlOK.swap(h:PlOK slots n e pl)(hp:p<n)(hq:q<n):PlOK slots n (swpE e p q) (updP (updP pl (e q).1 (p+1)) (e p).1 (q+1)):=by
 refine⟨fun x hx=>?_,fun x hx=>?_,fun i hi=>?_⟩
 {
 by_cases h1:x=p
 · rw[h1,swpE_p];exact h.lt q hq
 {
 by_cases h2:x=q
 · rw[h2,swpE_q];exact h.lt p hp
 · rw[swpE_o h1 h2];exact h.lt x hx}}
 {
 by_cases h2:x=q
 · rw[h2,swpE_q,updP_same]
 {
 by_cases h1:x=p
 {
 subst h1;rw[swpE_p,updP_other (fun e1=>h2 (h.inj hx hq e1.symm)),updP_same]}
 {
 rw[swpE_o h1 h2,updP_other (fun e1=>h1 (h.inj hx hp e1)),updP_other (fun e1=>h2 (h.inj hx hq e1))];exact h.at_ x hx}}}
 {
 by_cases h1:i=(e p).1
 · exact⟨q,hq,by rw[swpE_q,h1]⟩
 {
 rw[updP_other h1]at hi;by_cases h2:i=(e q).1
 · exact⟨p,hp,by rw[swpE_p,h2]⟩
 {
 rw[updP_other h2]at hi;obtain⟨x,hx,rfl⟩:=h.inv i hi;refine⟨x,hx,?_⟩;rw[swpE_o (fun e1=>h1 (by rw[e1])) (fun e1=>h2 (by rw[e1]))]}}}
theorem PlOK.push(h:PlOK slots n e pl){i:Nat}{k:Int}(hi:i<slots)(h0:pl i=0):PlOK slots (n+1) (updE e n (i,k)) (updP pl i (n+1)):=by
 refine⟨fun x hx=>?_,fun x hx=>?_,fun j hj=>?_⟩
 {
 by_cases h1:x=n
 · rw[h1,updE_same];exact hi
 · rw[updE_other h1];exact h.lt x (by omega)}
 {
 by_cases h1:x=n
 · rw[h1,updE_same,updP_same]
 {
 rw[updE_other h1];have hx' :=h.at_ x (by omega);rw[updP_other (fun e1=>by rw[e1,h0]at hx'; omega)];exact hx'}}
 {
 by_cases h1:j=i
 · exact⟨n,by omega,by rw[updE_same,h1]⟩
 {
 rw[updP_other h1]at hj;obtain⟨x,hx,rfl⟩:=h.inv j hj;exact⟨x,by omega,by rw[updE_other (by omega)]⟩}}
theorem PlOK.pop(h:PlOK slots (n+1) e pl):PlOK slots n e (updP pl (e n).1 0):=by
 refine⟨fun x hx=>h.lt x (by omega),fun x hx=>?_,fun j hj=>?_⟩
 {
 rw[updP_other (fun e1=>by have:=h.inj (by omega:x<n+1) (by omega:n<n+1) e1;omega)];exact h.at_ x (by omega)}
 {
 by_cases h1:j=(e n).1
 · rw[h1,updP_same]at hj;exact absurd rfl hj
 {
 rw[updP_other h1]at hj;obtain⟨x,hx,rfl⟩:=h.inv j hj;refine⟨x,?_,rfl⟩;by_cases e1:x=n
 · subst e1;exact absurd rfl h1
 · omega}}
end
end Go.Proofs.YtgmnemndjjmgkaaGreat
namespace Go.Proofs.YtgmnemndjjmgkaaGreat
open Go.RowKit
set_option maxRecDepth 10000
set_option maxHeartbeats 800000
abbrev hptr(b:Nat):Value:=.pointer (some ⟨b,0,none⟩)
def optP(o:Option Nat):Value:=.pointer (o.map fun b=>⟨b,0,none⟩)
def entC(n:Nat)(e:Nat→Nat×Int):List Value:=(List.range n).flatMap fun p=>[.int .i64 (e p).1,.int .i64 (e p).2]
theorem entC_succ' (n:Nat)(e:Nat→Nat×Int):entC (n+1) e=entC n e++[.int .i64 (e n).1,.int .i64 (e n).2]:=by simp[entC,List.range_succ]
theorem entC_len(n:Nat)(e:Nat→Nat×Int):(entC n e).length=n*2:=by
 induction n with
 | zero=>rfl
 | succ n ih=>rw[entC_succ', zO,ih];simp;omega
theorem entC_at(e:Nat→Nat×Int):∀{n p:Nat},p<n→(entC n e)[p*2]? =some (.int .i64 ((e p).1:Int))∧(entC n e)[p*2+1]? =some (.int .i64 (e p).2):=by
 intro n;induction n with
 | zero=>intro p h;omega
 | succ n ih=>{
 intro p hp;rw[entC_succ'];have hl:=entC_len n e;by_cases h:p<n
 · rw[List.getElem?_append_left (by omega),List.getElem?_append_left (by omega)];exact ih h
 {
 obtain rfl:p=n:=by omega
 rw[List.getElem?_append_right (by omega),List.getElem?_append_right (by omega),hl];simp}}
theorem entC_congr{n:Nat}{e e' :Nat→Nat×Int}(h:∀p,p<n→e p=e' p):entC n e=entC n e' :=by
 induction n with
 | zero=>rfl
 | succ n ih=>rw[entC_succ', entC_succ', ih (fun p hp=>h p (by omega)),h n (by omega)]
theorem entC_push(n:Nat)(e:Nat→Nat×Int)(x:Nat×Int):entC n e++[.int .i64 x.1,.int .i64 x.2]=entC (n+1) (updE e n x):=by
 rw[entC_succ', updE_same,entC_congr (n:=n) (e:=updE e n x) (e' :=e) (fun p hp=>updE_other (by omega))]
theorem entC_set{n p:Nat}(hp:p<n)(e:Nat→Nat×Int)(x:Nat×Int):((entC n e).set (p*2) (.int .i64 x.1)).set (p*2+1) (.int .i64 x.2)=entC n (updE e p x):=by
 apply List.ext_getElem?;intro j;have hl:=entC_len n e;have hl' :=entC_len n (updE e p x);by_cases hj:j<n*2
 {
 have hj2:j/2<n:=by omega
 have h0:=entC_at (updE e p x) hj2;have h1:=entC_at e hj2;rcases(show j=j/2*2∨j=j/2*2+1 by omega) with e1|e1
 {
 generalize j/2=k at *;subst e1;rw[h0.1,List.getElem?_set_ne (by omega)];by_cases hk:k=p
 · subst hk;rw[List.getElem?_set_self (by omega),updE_same]
 · rw[List.getElem?_set_ne (by omega),h1.1,updE_other hk]}
 {
 generalize j/2=k at *;subst e1;rw[h0.2];by_cases hk:k=p
 · subst hk;rw[List.getElem?_set_self (by simp;omega),updE_same]
 · rw[List.getElem?_set_ne (by omega),List.getElem?_set_ne (by omega),h1.2,updE_other hk]}}
 · rw[zK (by simp;omega),zK (by omega)]
theorem ent_at{w:World}{v:Value}{n:Nat}{e:Nat→Nat×Int}(h:w.ownsRow 0 136 2 v n (entC n e)){p:Nat}(hp:p<n):∃b cap,v=.slice (some ⟨b,0,none⟩) n cap∧n≤cap∧b<w.heap.size ∧
    w.cell? ⟨b,p*2,none⟩=some (.int .i64 ((e p).1:Int))∧w.cell? ⟨b,p*2+1,none⟩=some (.int .i64 (e p).2)∧∀j,w.frozen? ⟨b,j,none⟩=false:=by
 obtain⟨h1,h2⟩:=h;rcases h2 with⟨rfl,h0⟩|⟨g,cap,cur,rfl,_,hh,hn,hm,hsz,hxs⟩
 · omega
 {
 refine⟨g,cap,rfl,hn,(qU.1 hh).1,?_,?_,fun j=>by simp[World.frozen?,hh]⟩
 all_goals
  have key:∀j,j<2→cur[p*2+j]? =(entC n e)[p*2+j]? :=by {
  intro j hj;rw[←hxs,List.getElem?_take,qI (by omega)];simp};simp only[World.cell?,hh];simp
 · have:=key 0 (by omega);simp at this;rw[this];exact(entC_at e hp).1
 · rw[key 1 (by omega)];exact(entC_at e hp).2}
theorem ownsRow_setK{w:World}{e:TypeId}{size g n cap i:Nat}{xs:List Value}(h:w.ownsRow 0 e size (.slice (some ⟨g,0,none⟩) n cap) n xs)(u:Value):
    (w.setCell ⟨g,i,none⟩ u).ownsRow 0 e size (.slice (some ⟨g,0,none⟩) n cap) n (xs.set i u):=by
 obtain⟨h1,h2⟩:=h;refine⟨by simpa using h1,?_⟩;rcases h2 with⟨h2,_⟩|⟨g', cap', cur,e1,_,hh,hn,hm,hsz,hxs⟩
 · cases h2
 {
 simp only[qY,qQ,Addr.mk.injEq,and_true,true_and]at e1;obtain⟨rfl,rfl⟩:=e1;refine .inr ⟨g,cap,cur.setIfInBounds i u,rfl,zB _,?_,hn,hm,by simpa using hsz,?_⟩
 {
 simp only[World.setCell,Array.getElem?_modify];simp[hh]}
 · rw[←hxs,Array.toList_setIfInBounds,List.take_set]}
def blkC(pl:Nat→Nat)(k:Nat):List Value:=(List.range 64).map fun j=>.int .i64 ((pl (k*64+j):Nat):Int)
theorem blkC_at(pl:Nat→Nat)(k:Nat){j:Nat}(hj:j<64):(blkC pl k)[j]? =some (.int .i64 ((pl (k*64+j):Nat):Int)):=by simp[blkC,hj]
theorem blkC_congr{pl pl' :Nat→Nat}{k:Nat}(h:∀j,j<64→pl (k*64+j)=pl' (k*64+j)):blkC pl k=blkC pl' k:=by
 apply List.map_congr_left;intro j hj;rw[h j (by simpa using hj)]
theorem blkC_set(pl:Nat→Nat)(k x:Nat){j:Nat}(hj:j<64):(blkC pl k).set j (.int .i64 (x:Int))=blkC (updP pl (k*64+j) x) k:=by
 apply List.ext_getElem?;intro i;by_cases hi:i<64
 {
 rw[blkC_at _ k hi];by_cases e:i=j
 · subst e;rw[List.getElem?_set_self (by simp[blkC,hi]),updP_same]
 · rw[List.getElem?_set_ne (by omega),blkC_at _ k hi,updP_other (by omega)]}
 · rw[zK (by simp[blkC];omega),zK (by simp[blkC];omega)]
structure HM (w:World) (ph slots n:Nat) (e:Nat→Nat×Int) (pl:Nat→Nat) (v:Value) (gp cp:Nat) (bs:Nat→Option Nat):Prop where
  hd:Blk w ph 217 [hptr ph,.int .i64 slots,v,.slice (some ⟨gp,0,none⟩) ((slots+63)/64) cp]
  items:w.ownsRow 0 136 2 v n (entC n e)
  dir:Blk w gp 219 ((List.range ((slots+63)/64)).map fun k=>optP (bs k))
  some_:∀k b,k<(slots+63)/64→bs k=some b→Blk w b 221 (blkC pl k)
  none_:∀k,k<(slots+63)/64→bs k=none→∀j,j<64→pl (k*64+j)=0
  le:slots≤65536
  nb:n≤65536
  pb:∀i,pl i≤65536
  ap1:ph≠gp
  ap2:v.ownBlock≠some ph
  ap3:v.ownBlock≠some gp
  ap4:∀k b,k<(slots+63)/64→bs k=some b→b≠ph∧b≠gp∧v.ownBlock≠some b
  ap5:∀k k' b,k<(slots+63)/64→k' < (slots+63)/64→bs k=some b→bs k' =some b→k=k'
def hB(slots ph:Nat)(v:Value)(gp:Nat)(bs:Nat→Option Nat):List Nat:=ph::gp::(v.ownBlock.toList++(List.range ((slots+63)/64)).filterMap bs)
theorem mem_hB{slots ph:Nat}{v:Value}{gp:Nat}{bs:Nat→Option Nat}{b:Nat}:b∈hB slots ph v gp bs↔b=ph∨b=gp∨v.ownBlock=some b∨∃k,k<(slots+63)/64∧bs k=some b:=by
 simp[hB]
section
variable {w w' :World} {ph slots n:Nat} {e:Nat→Nat×Int} {pl:Nat→Nat} {v:Value} {gp cp:Nat} {bs:Nat→Option Nat}
theorem HM.fr{S:List Nat}(h:HM w ph slots n e pl v gp cp bs)(hf:Fr S w w')(hs:∀b∈hB slots ph v gp bs,b∉S):HM w' ph slots n e pl v gp cp bs:=
  ⟨hf.blk h.hd (hs _ (by simp[hB])),ownsRow_same h.items (fun q hq=>hf.keep q (h.items.lt q hq).2 (hs q (mem_hB.2 (.inr (.inr (.inl hq)))))),hf.blk h.dir (hs _ (by simp[hB])),
    fun k b hk hb=>hf.blk (h.some_ k b hk hb) (hs b (mem_hB.2 (.inr (.inr (.inr ⟨k,hk,hb⟩))))),h.none_,h.le,h.nb,h.pb,h.ap1,h.ap2,h.ap3,h.ap4,h.ap5⟩
theorem HM.fr0(h:HM w ph slots n e pl v gp cp bs)(hf:Fr [] w w'):HM w' ph slots n e pl v gp cp bs:=h.fr hf (by simp)
theorem HM.lt(h:HM w ph slots n e pl v gp cp bs):∀b∈hB slots ph v gp bs,b<w.heap.size:=by
 intro b hb;rcases mem_hB.1 hb with rfl|rfl|hb|⟨k,hk,hb⟩
 · exact h.hd.lt
 · exact h.dir.lt
 · exact(h.items.lt b hb).2
 · exact(h.some_ k b hk hb).lt
def cmpI(x y:Int):Int:=if x<y then -1 else if y<x then 1 else 0
def ordI(a b:Nat×Int):Int:=if cmpI a.2 b.2=0 then cmpI a.1 b.1 else cmpI a.2 b.2
theorem ordI_lt(a b:Nat×Int):ordI a b<0↔elt a b:=by
 unfold ordI cmpI elt;split<;>split<;>(try split)<;>(try split)<;>omega
theorem nan64_w(x:Int)(w:World):Calls Tryz.prog 233 #[.int .i64 x] w fun e w' =>e=.returned (.bool false)∧w' =w:=by
 have hb:(x != x)=false:=by simp
 go_enter Tryz.func233,Tryz.ntmps233
 go_wp2
 go_ret;exact⟨rfl,rfl⟩
theorem nan_w(x:Int)(w:World):Calls Tryz.prog 234 #[.int .i64 x] w fun e w' =>e=.returned (.bool false)∧w' =w:=by
 have hb:(x != x)=false:=by simp
 go_enter Tryz.func234,Tryz.ntmps234
 go_wp2
 go_ret;exact⟨rfl,rfl⟩
theorem cmp64_w(x y:Int)(w:World):Calls Tryz.prog 230 #[.int .i64 x,.int .i64 y] w fun e w' =>e=.returned (.int .i64 (cmpI x y))∧w' =w:=by
 by_cases h1:x<y
 {
 have e1:cmpI x y=-1:=by unfold cmpI;rw[qI h1]
 rw[e1];clear e1;go_enter Tryz.func230,Tryz.ntmps230
 go_wp2_with (go_at_call 233;refine(nan64_w _ _).mono ?_;rintro e w' ⟨rfl,rfl⟩)
 go_ret;exact⟨rfl,rfl⟩}
 {
 by_cases h2:y<x
 {
 have e1:cmpI x y=1:=by unfold cmpI;rw[qH h1,qI h2]
 rw[e1];clear e1;go_enter Tryz.func230,Tryz.ntmps230
 go_wp2_with (go_at_call 233;refine(nan64_w _ _).mono ?_;rintro e w' ⟨rfl,rfl⟩)
 go_ret;exact⟨rfl,rfl⟩}
 {
 have e1:cmpI x y=0:=by unfold cmpI;rw[qH h1,qH h2]
 rw[e1];clear e1;go_enter Tryz.func230,Tryz.ntmps230
 go_wp2_with (go_at_call 233;refine(nan64_w _ _).mono ?_;rintro e w' ⟨rfl,rfl⟩)
 go_ret;exact⟨rfl,rfl⟩}}
theorem cmp_w(x y:Nat)(w:World):Calls Tryz.prog 231 #[.int .i64 x,.int .i64 y] w fun e w' =>e=.returned (.int .i64 (cmpI x y))∧w' =w:=by
 by_cases h1:x<y
 {
 have e1:cmpI x y=-1:=by unfold cmpI;rw[qI (by omega)]
 rw[e1];clear e1;go_enter Tryz.func231,Tryz.ntmps231
 go_wp2_with (go_at_call 234;refine(nan_w _ _).mono ?_;rintro e w' ⟨rfl,rfl⟩)
 go_ret;exact⟨rfl,rfl⟩}
 {
 by_cases h2:y<x
 {
 have e1:cmpI x y=1:=by unfold cmpI;rw[qH (by omega),qI (by omega)]
 rw[e1];clear e1;go_enter Tryz.func231,Tryz.ntmps231
 go_wp2_with (go_at_call 234;refine(nan_w _ _).mono ?_;rintro e w' ⟨rfl,rfl⟩)
 go_ret;exact⟨rfl,rfl⟩}
 {
 have e1:cmpI x y=0:=by unfold cmpI;rw[qH (by omega),qH (by omega)]
 rw[e1];clear e1;go_enter Tryz.func231,Tryz.ntmps231
 go_wp2_with (go_at_call 234;refine(nan_w _ _).mono ?_;rintro e w' ⟨rfl,rfl⟩)
 go_ret;exact⟨rfl,rfl⟩}}
theorem or_w(b:Nat)(x y:Int)(w:World)(h:Blk w b 3 [.int .i64 x,.int .i64 y]):Calls Tryz.prog 229 #[.slice (some ⟨b,0,none⟩) 2 2] w fun e w' =>e=.returned (.int .i64 (if x=0 then y else x))∧w' =w:=by
 have c0:=h.cell 0;have c1:=h.cell 1;simp only[zS,zT]at c0 c1;generalize hr:(if x=0 then y else x)=r;have HR:=qB hr;clear hr;go_enter Tryz.func229,Tryz.ntmps229
 go_wp2
 go_loop [8] (fun s=>∃k:Nat,k≤2∧s=.int .i64 k∧Hid ((1≤k→x=0)∧(2≤k→y=0))) (fun s=>2-(intOf s).toNat)
 case atStart=>exact⟨0,by omega,rfl,qB ⟨by omega,by omega⟩⟩
 case round=>
  obtain⟨k,hk,rfl,HK⟩:=hrel;rcases(show k=0∨k=1∨k=2 by omega) with rfl|rfl|rfl
  {
  by_cases hx:x=0
  {
  subst hx;go_wp2
  go_round
  case rel=>exact⟨1,by omega,by go_num,qB ⟨by simp,by omega⟩⟩
  case measure=>simp[intOf]}
  {
  have hb:(x != 0)=true:=by simp[hx]
  have hR2:r=x:=by rw[←HR.out,qH hx]
  have HR2:=qB hR2;clear hR2 hx;go_wp2
  go_ret;exact⟨by rw[HR2.out];rfl,rfl⟩}}
  {
  have hx:=HK.out.1 (by omega);by_cases hy:y=0
  {
  subst hy;have Hx:=qB hx;clear hx;go_wp2
  go_round
  case rel=>exact⟨2,by omega,by go_num,qB ⟨fun _=>Hx.out,by simp⟩⟩
  case measure=>simp[intOf]}
  {
  have hb:(y != 0)=true:=by simp[hy]
  have hR2:r=y:=by rw[←HR.out,qI hx]
  have HR2:=qB hR2;clear hR2 hx hy;go_wp2
  go_ret;exact⟨by rw[HR2.out];rfl,rfl⟩}}
  {
  have hx:=HK.out.1 (by omega);have hy:=HK.out.2 (by omega);have hR2:r=0:=by rw[←HR.out,qI hx,hy]
  have HR2:=qB hR2;clear hR2 hx hy;go_wp2
  go_ret;exact⟨by rw[HR2.out];rfl,rfl⟩}
theorem order_w(a b:Nat×Int)(w:World):Calls Tryz.prog 224 #[.agg #[.int .i64 a.1,.int .i64 a.2],.agg #[.int .i64 b.1,.int .i64 b.2]] w fun e w' =>e=.returned (.int .i64 (ordI a b))∧Fr [] w w' :=by
 obtain⟨a1,a2⟩:=a;obtain⟨b1,b2⟩:=b;have hr:(if cmpI a2 b2=0 then cmpI a1 b1 else cmpI a2 b2)=ordI (a1,a2) (b1,b2):=rfl;have HO:=qB (fun(W:World) (n:Nat) (h:Blk W n 3 [.int .i64 (cmpI a2 b2),.int .i64 (cmpI a1 b1)])=>or_w n (cmpI a2 b2) (cmpI a1 b1) W h);rw[hr]at HO;have HC1:=qB (fun w=>cmp64_w a2 b2 w);have HC2:=qB (fun w=>cmp_w a1 b1 w);clear hr;generalize ordI (a1,a2) (b1,b2)=r at *;generalize cmpI a2 b2=x at *;generalize cmpI a1 b1=y at *;have e1:=Blk.new w [.int .i64 a1,.int .i64 a2] 136;have e2:=Blk.new (w.alloc (.cells [.int .i64 a1,.int .i64 a2].toArray 136)) [.int .i64 b1,.int .i64 b2] 136;have e1' :=e1.alloc (.cells [.int .i64 b1,.int .i64 b2].toArray 136);simp only[World.size_alloc]at e2;have hF:Fr [] w ((w.alloc (.cells [.int .i64 a1,.int .i64 a2].toArray 136)).alloc (.cells [.int .i64 b1,.int .i64 b2].toArray 136)):=((Fr.refl _ _).alloc _).alloc _;have x0:=e1'.cell 0;have x1:=e1'.cell 1;have y0:=e2.cell 0;have y1:=e2.cell 1;simp only[zS,zT]at x0 x1 y0 y1;clear e1 e2 e1';have HF:=qB hF;clear hF;go_enter Tryz.func224,Tryz.ntmps224
 go_wp2
 generalize hw0:((w.alloc (.cells #[.int .i64 a1,.int .i64 a2] 136)).alloc (.cells #[.int .i64 b1,.int .i64 b2] 136))=w0 at *;clear hw0
 go_region_held3 (fun w' => w'.cell? ⟨w.heap.size, 0, none⟩ = some (.int .i64 a1) ∧ w'.cell? ⟨w.heap.size, 1, none⟩ = some (.int .i64 a2) ∧ w'.cell? ⟨w.heap.size + 1, 0, none⟩ = some (.int .i64 b1) ∧ w'.cell? ⟨w.heap.size + 1, 1, none⟩ = some (.int .i64 b2))
   (first|go_keep)
   (first
     | (go_at_call 230;refine(HC1.out _).mono ?_;rintro e w' ⟨rfl,rfl⟩)
     | (go_at_call 231;refine(HC2.out _).mono ?_;rintro e w' ⟨rfl,rfl⟩)
     | (go_at_call 229;refine(HO.out _ _ ((Blk.new w0 _ _).drew)).mono ?_;rintro e w' ⟨rfl,rfl⟩))
 go_wp2
 go_ret;exact⟨rfl,(HF.out.alloc _).drew⟩
@[go_sem] theorem heap_eql(w:World)(a:Addr):(binOp .eql 122 (.pointer (some a)) (.pointer (some a))).run Tryz.prog w=.ok (.bool true) w:=by
 obtain⟨j,hj⟩:=zE.1 (show(Tryz.prog.info? 217).isSome=true by kernel_rfl);exact run_eql_ptr_same w a Tryz.underlying122 hj
theorem hvalid_w(h:HM w ph slots n e pl v gp cp bs):Calls Tryz.prog 150 #[.pointer (some ⟨ph,0,none⟩)] w fun e' w' =>e' =.returned (.bool true)∧w' =w:=by
 have c0:w.cell? ⟨ph,0,none⟩=some (.pointer (some ⟨ph,0,none⟩)):=h.hd.cell 0;clear h;go_enter Tryz.func150,Tryz.ntmps150
 go_wp2
 go_ret;exact⟨rfl,rfl⟩
theorem hhas_w(h:HM w ph slots n e pl v gp cp bs){i:Nat}(hi:i<slots):Calls Tryz.prog 195 #[hptr ph,.int .i64 i] w fun e' w' =>e' =.returned (.bool true)∧w' =w:=by
 have c1:=h.hd.cell 1;simp only[zS,zT]at c1;have t1:decide (i<slots)=true:=qO hi;have hi' :(i:Int)<slots:=by omega
 have hi0:(0:Int)≤i:=by omega
 clear h;go_enter Tryz.func195,Tryz.ntmps195
 go_wp2
 go_ret;exact⟨rfl,rfl⟩
end
section
variable {w w' :World} {ph slots n:Nat} {e:Nat→Nat×Int} {pl:Nat→Nat} {v:Value} {gp cp:Nat} {bs:Nat→Option Nat}
theorem HM.dirAt(h:HM w ph slots n e pl v gp cp bs){k:Nat}(hk:k<(slots+63)/64):w.cell? ⟨gp,k,none⟩=some (optP (bs k)):=by
 rw[h.dir.cell];simp[hk]
theorem place_w(h:HM w ph slots n e pl v gp cp bs){i:Nat}(hi:i<slots):
    Calls Tryz.prog 196 #[hptr ph,.int .i64 i] w fun e w' =>e=.returned (.int .i64 ((pl i:Int)-1))∧w' =w:=by
 have hle:=h.le;have hk:i/64<(slots+63)/64:=by omega
 have c3:=h.hd.cell 3;simp only[zS,zT]at c3;have hd:=h.dirAt hk;have hm:i=i/64*64+i%64:=by omega
 have hi6:i<65536:=by omega
 cases hb:bs (i/64) with
 | none=>{
 rw[hb]at hd;have h0:=h.none_ _ hk hb (i%64) (by omega);rw[←hm]at h0;rw[h0];simp only[optP,Option.map_none]at hd;clear hm h0 h hb hle;generalize (slots+63)/64=m at *;go_enter Tryz.func196,Tryz.ntmps196
 go_wp2
 go_ret;exact⟨rfl,rfl⟩}
 | some b=>{
 rw[hb]at hd;have h0:=(h.some_ _ _ hk hb).cell (i%64);rw[blkC_at pl (i/64) (by omega),←hm]at h0;simp only[optP,Option.map_some]at hd;have hpl:(0:Int)≤pl i:=by omega
 have hx:=h.pb i;clear hm h hb hle;generalize (slots+63)/64=m at *;generalize pl i=x at *;go_enter Tryz.func196,Tryz.ntmps196
 go_wp2
 go_ret;exact⟨rfl,rfl⟩}
theorem blkC_zero{pl:Nat→Nat}{k:Nat}(h:∀j,j<64→pl (k*64+j)=0):blkC pl k=List.replicate 64 (.int .i64 0):=by
 apply List.ext_getElem?;intro j;by_cases hj:j<64
 · rw[blkC_at pl k hj,h j hj,List.getElem?_replicate,qI hj];rfl
 · rw[zK (by simp[blkC];omega),zK (by rw[List.length_replicate];omega)]
def updB(bs:Nat→Option Nat)(k b:Nat):Nat→Option Nat:=fun x=>if x=k then some b else bs x
theorem updB_same(bs:Nat→Option Nat)(k b:Nat):updB bs k b k=some b:=by simp[updB]
theorem updB_other{bs:Nat→Option Nat}{k b x:Nat}(h:x≠k):updB bs k b x=bs x:=by simp[updB,h]
theorem HM.note(h:HM w ph slots n e pl v gp cp bs){i x b:Nat}(hi:i<slots)(hb:bs (i/64)=some b)(hx:x≤65536):
    HM (w.setCell ⟨b,i%64,none⟩ (.int .i64 (x:Int))) ph slots n e (updP pl i x) v gp cp bs:=by
 have hk:i/64<(slots+63)/64:=by omega
 have hm:i=i/64*64+i%64:=by omega
 obtain⟨a1,a2,a3⟩:=h.ap4 _ _ hk hb;refine⟨h.hd.other _ _ (fun e=>a1 e.symm),ownsRow_other h.items _ _ a3,h.dir.other _ _ (fun e=>a2 e.symm),fun k b' hk' hb' =>?_,fun k hk' hb' j hj=>?_,h.le,h.nb,fun j=>?_,h.ap1,h.ap2,h.ap3,h.ap4,h.ap5⟩
 {
 by_cases e1:k=i/64
 {
 subst e1;rw[hb]at hb'; cases hb';have:=(h.some_ _ _ hk hb).set (i%64) (.int .i64 (x:Int));rw[blkC_set pl (i/64) x (by omega),←hm]at this;exact this}
 {
 have:=(h.some_ _ _ hk' hb').other ⟨b,i%64,none⟩ (.int .i64 (x:Int)) (fun e=>e1 (h.ap5 _ _ _ hk' hk hb' (by rw[hb];exact congrArg some e.symm)));rw[blkC_congr (pl:=pl) (pl' :=updP pl i x) (k:=k) (fun j hj=>(updP_other (by omega)).symm)]at this;exact this}}
 {
 have e1:k≠i/64:=by rintro rfl;rw[hb]at hb'; cases hb'
 rw[updP_other (by omega)];exact h.none_ k hk' hb' j hj}
 {
 unfold updP;split
 · exact hx
 · exact h.pb j}
theorem HM.more(h:HM w ph slots n e pl v gp cp bs){k b:Nat}(hk:k<(slots+63)/64)(hb:bs k=none)(hw:w.heap.size=b):
    HM ((w.alloc (.cells #[.int .i64 0,.int .i64 0,.int .i64 0,.int .i64 0,.int .i64 0,.int .i64 0,.int .i64 0,.int .i64 0,.int .i64 0,.int .i64 0,.int .i64 0,.int .i64 0,.int .i64 0,.int .i64 0,.int .i64 0,.int .i64 0,.int .i64 0,.int .i64 0,.int .i64 0,.int .i64 0,.int .i64 0,.int .i64 0,.int .i64 0,.int .i64 0,.int .i64 0,.int .i64 0,.int .i64 0,.int .i64 0,.int .i64 0,.int .i64 0,.int .i64 0,.int .i64 0,.int .i64 0,.int .i64 0,.int .i64 0,.int .i64 0,.int .i64 0,.int .i64 0,.int .i64 0,.int .i64 0,.int .i64 0,.int .i64 0,.int .i64 0,.int .i64 0,.int .i64 0,.int .i64 0,.int .i64 0,.int .i64 0,.int .i64 0,.int .i64 0,.int .i64 0,.int .i64 0,.int .i64 0,.int .i64 0,.int .i64 0,.int .i64 0,.int .i64 0,.int .i64 0,.int .i64 0,.int .i64 0,.int .i64 0,.int .i64 0,.int .i64 0,.int .i64 0] 221)).setCell ⟨gp,k,none⟩ (hptr b)) ph slots n e pl v gp cp (updB bs k b):=by
 subst hw;have h1:=h.fr0 ((Fr.refl [] w).alloc (.cells #[.int .i64 0,.int .i64 0,.int .i64 0,.int .i64 0,.int .i64 0,.int .i64 0,.int .i64 0,.int .i64 0,.int .i64 0,.int .i64 0,.int .i64 0,.int .i64 0,.int .i64 0,.int .i64 0,.int .i64 0,.int .i64 0,.int .i64 0,.int .i64 0,.int .i64 0,.int .i64 0,.int .i64 0,.int .i64 0,.int .i64 0,.int .i64 0,.int .i64 0,.int .i64 0,.int .i64 0,.int .i64 0,.int .i64 0,.int .i64 0,.int .i64 0,.int .i64 0,.int .i64 0,.int .i64 0,.int .i64 0,.int .i64 0,.int .i64 0,.int .i64 0,.int .i64 0,.int .i64 0,.int .i64 0,.int .i64 0,.int .i64 0,.int .i64 0,.int .i64 0,.int .i64 0,.int .i64 0,.int .i64 0,.int .i64 0,.int .i64 0,.int .i64 0,.int .i64 0,.int .i64 0,.int .i64 0,.int .i64 0,.int .i64 0,.int .i64 0,.int .i64 0,.int .i64 0,.int .i64 0,.int .i64 0,.int .i64 0,.int .i64 0,.int .i64 0] 221));have hlt:=h.lt;have hnew:=Blk.new w (blkC pl k) 221;rw[blkC_zero (h.none_ k hk hb)]at hnew;have e0:(List.replicate 64 (Value.int .i64 0)).toArray=(#[.int .i64 0,.int .i64 0,.int .i64 0,.int .i64 0,.int .i64 0,.int .i64 0,.int .i64 0,.int .i64 0,.int .i64 0,.int .i64 0,.int .i64 0,.int .i64 0,.int .i64 0,.int .i64 0,.int .i64 0,.int .i64 0,.int .i64 0,.int .i64 0,.int .i64 0,.int .i64 0,.int .i64 0,.int .i64 0,.int .i64 0,.int .i64 0,.int .i64 0,.int .i64 0,.int .i64 0,.int .i64 0,.int .i64 0,.int .i64 0,.int .i64 0,.int .i64 0,.int .i64 0,.int .i64 0,.int .i64 0,.int .i64 0,.int .i64 0,.int .i64 0,.int .i64 0,.int .i64 0,.int .i64 0,.int .i64 0,.int .i64 0,.int .i64 0,.int .i64 0,.int .i64 0,.int .i64 0,.int .i64 0,.int .i64 0,.int .i64 0,.int .i64 0,.int .i64 0,.int .i64 0,.int .i64 0,.int .i64 0,.int .i64 0,.int .i64 0,.int .i64 0,.int .i64 0,.int .i64 0,.int .i64 0,.int .i64 0,.int .i64 0,.int .i64 0]:Array Value):=rfl;rw[e0]at hnew;have hgl:=h.dir.lt;have hpl:=h.hd.lt;refine⟨h1.hd.other _ _ h.ap1,ownsRow_other h1.items _ _ h.ap3,?_,fun j b' hj hb' =>?_,fun j hj hb' =>?_,h.le,h.nb,h.pb,h.ap1,h.ap2,h.ap3,fun j b' hj hb' =>?_,fun j j' b' hj hj' hb' hb2=>?_⟩
 {
 have:=h1.dir.set k (hptr w.heap.size);have e1:((List.range ((slots+63)/64)).map fun x=>optP (bs x)).set k (hptr w.heap.size)=(List.range ((slots+63)/64)).map fun x=>optP (updB bs k w.heap.size x):=by {
 apply List.ext_getElem?;intro j;by_cases hj:j<(slots+63)/64
 {
 by_cases e2:j=k
 · subst e2;rw[List.getElem?_set_self (by simpa using hj)];simp[hj,updB_same,optP]
 · rw[List.getElem?_set_ne (by omega)];simp[hj,updB_other e2]}
 · rw[zK (by simp;omega),zK (by simp;omega)]};rw[e1]at this;exact this}
 {
 by_cases e2:j=k
 {
 subst e2;rw[updB_same]at hb'; cases hb';rw[blkC_zero (h.none_ j hk hb)];exact hnew.other _ _ (by simp;omega)}
 {
 rw[updB_other e2]at hb';exact(h1.some_ j b' hj hb').other _ _ (h.ap4 j b' hj hb').2.1}}
 {
 have e2:j≠k:=by rintro rfl;rw[updB_same]at hb'; cases hb'
 rw[updB_other e2]at hb';exact h.none_ j hj hb'}
 {
 by_cases e2:j=k
 {
 subst e2;rw[updB_same]at hb'; cases hb';refine⟨by omega,by omega,fun e3=>?_⟩;have:=(h.items.lt _ e3).2;omega}
 · rw[updB_other e2]at hb'; exact h.ap4 j b' hj hb'}
 {
 by_cases e2:j=k
 {
 by_cases e3:j' =k
 · omega
 {
 rw[updB_other e3]at hb2;subst e2;rw[updB_same]at hb'; cases hb';have:=(h.some_ j' _ hj' hb2).lt;omega}}
 {
 rw[updB_other e2]at hb';by_cases e3:j' =k
 {
 subst e3;rw[updB_same]at hb2;cases hb2;have:=(h.some_ j _ hj hb').lt;omega}
 {
 rw[updB_other e3]at hb2;exact h.ap5 j j' b' hj hj' hb' hb2}}}
theorem hB_more{k b:Nat}:∀q∈hB slots ph v gp (updB bs k b),q∈hB slots ph v gp bs∨q=b:=by
 intro q hq;rcases mem_hB.1 hq with h|h|h|⟨j,hj,h⟩
 · exact .inl (mem_hB.2 (.inl h))
 · exact .inl (mem_hB.2 (.inr (.inl h)))
 · exact .inl (mem_hB.2 (.inr (.inr (.inl h))))
 {
 by_cases e:j=k
 · subst e;rw[updB_same]at h;cases h;exact .inr rfl
 · rw[updB_other e]at h;exact .inl (mem_hB.2 (.inr (.inr (.inr ⟨j,hj,h⟩))))}
theorem put_w(h:HM w ph slots n e pl v gp cp bs){i x:Nat}(hi:i<slots)(hx:x≤65536)(p:Int)(hp:p+1=x):
    Calls Tryz.prog 176 #[hptr ph,.int .i64 i,.int .i64 p] w fun e' w' =>e' =.returned (.tuple #[])∧∃bs', HM w' ph slots n e (updP pl i x) v gp cp bs' ∧ Fr (hB slots ph v gp bs) w w' ∧ ∀q∈hB slots ph v gp bs', q∈hB slots ph v gp bs∨w.heap.size≤q:=by
 have hle:=h.le;have hk:i/64<(slots+63)/64:=by omega
 have c3:=h.hd.cell 3;simp only[zS,zT]at c3;have hd:=h.dirAt hk;have hi6:i<65536:=by omega
 have hgz:=h.dir.frozen (i/64);have HX:Hid (.int .i64 (p+1)=(.int .i64 (x:Int):Value)):=qB (by rw[hp]);have hp2:p<9223372036854775807:=by omega
 have hp1:-9223372036854775808≤p:=by omega
 clear hp;cases hb:bs (i/64) with
 | some b=>{
 rw[hb]at hd;simp only[optP,Option.map_some]at hd;have h0:=(h.some_ _ _ hk hb).cell (i%64);have hz:=(h.some_ _ _ hk hb).frozen (i%64);rw[blkC_at pl (i/64) (by omega)]at h0;have HN:=qB (h.note hi hb hx);have HF:Hid (Fr (hB slots ph v gp bs) w (w.setCell ⟨b,i%64,none⟩ (.int .i64 (x:Int)))):=qB ((Fr.refl _ w).setCell _ _ (.inl (mem_hB.2 (.inr (.inr (.inr ⟨_,hk,hb⟩))))));clear h hb hle;rw[←HX.out]at HN HF;generalize (slots+63)/64=m at *;go_enter Tryz.func176,Tryz.ntmps176
 go_wp2
 go_end0
 exact⟨rfl,bs,HN.out,HF.out,fun q hq=>.inl hq⟩}
 | none=>{
 rw[hb]at hd;simp only[optP,Option.map_none]at hd;have hM:=h.more hk hb rfl;have c3' :=hM.hd.cell 3;simp only[zS,zT]at c3';have hd' :=hM.dirAt hk;rw[updB_same]at hd';simp only[optP,Option.map_some]at hd';have h0:=(hM.some_ _ _ hk (updB_same _ _ _)).cell (i%64);have hz:=(hM.some_ _ _ hk (updB_same _ _ _)).frozen (i%64);rw[blkC_at pl (i/64) (by omega)]at h0;have HN:=qB (hM.note hi (updB_same _ _ _) hx);have hF1:Fr (hB slots ph v gp bs) w ((w.alloc (.cells #[.int .i64 0,.int .i64 0,.int .i64 0,.int .i64 0,.int .i64 0,.int .i64 0,.int .i64 0,.int .i64 0,.int .i64 0,.int .i64 0,.int .i64 0,.int .i64 0,.int .i64 0,.int .i64 0,.int .i64 0,.int .i64 0,.int .i64 0,.int .i64 0,.int .i64 0,.int .i64 0,.int .i64 0,.int .i64 0,.int .i64 0,.int .i64 0,.int .i64 0,.int .i64 0,.int .i64 0,.int .i64 0,.int .i64 0,.int .i64 0,.int .i64 0,.int .i64 0,.int .i64 0,.int .i64 0,.int .i64 0,.int .i64 0,.int .i64 0,.int .i64 0,.int .i64 0,.int .i64 0,.int .i64 0,.int .i64 0,.int .i64 0,.int .i64 0,.int .i64 0,.int .i64 0,.int .i64 0,.int .i64 0,.int .i64 0,.int .i64 0,.int .i64 0,.int .i64 0,.int .i64 0,.int .i64 0,.int .i64 0,.int .i64 0,.int .i64 0,.int .i64 0,.int .i64 0,.int .i64 0,.int .i64 0,.int .i64 0,.int .i64 0,.int .i64 0] 221)).setCell ⟨gp,i/64,none⟩ (hptr w.heap.size)):=((Fr.refl _ w).alloc _).setCell _ _ (.inl (by simp[hB]));have HF:Hid (Fr (hB slots ph v gp bs) w (((w.alloc (.cells #[.int .i64 0,.int .i64 0,.int .i64 0,.int .i64 0,.int .i64 0,.int .i64 0,.int .i64 0,.int .i64 0,.int .i64 0,.int .i64 0,.int .i64 0,.int .i64 0,.int .i64 0,.int .i64 0,.int .i64 0,.int .i64 0,.int .i64 0,.int .i64 0,.int .i64 0,.int .i64 0,.int .i64 0,.int .i64 0,.int .i64 0,.int .i64 0,.int .i64 0,.int .i64 0,.int .i64 0,.int .i64 0,.int .i64 0,.int .i64 0,.int .i64 0,.int .i64 0,.int .i64 0,.int .i64 0,.int .i64 0,.int .i64 0,.int .i64 0,.int .i64 0,.int .i64 0,.int .i64 0,.int .i64 0,.int .i64 0,.int .i64 0,.int .i64 0,.int .i64 0,.int .i64 0,.int .i64 0,.int .i64 0,.int .i64 0,.int .i64 0,.int .i64 0,.int .i64 0,.int .i64 0,.int .i64 0,.int .i64 0,.int .i64 0,.int .i64 0,.int .i64 0,.int .i64 0,.int .i64 0,.int .i64 0,.int .i64 0,.int .i64 0,.int .i64 0] 221)).setCell ⟨gp,i/64,none⟩ (hptr w.heap.size)).setCell ⟨w.heap.size,i%64,none⟩ (.int .i64 (x:Int)))):=qB (hF1.setCell _ _ (.inr (qS _)));have c3a:(w.alloc (.cells #[.int .i64 0,.int .i64 0,.int .i64 0,.int .i64 0,.int .i64 0,.int .i64 0,.int .i64 0,.int .i64 0,.int .i64 0,.int .i64 0,.int .i64 0,.int .i64 0,.int .i64 0,.int .i64 0,.int .i64 0,.int .i64 0,.int .i64 0,.int .i64 0,.int .i64 0,.int .i64 0,.int .i64 0,.int .i64 0,.int .i64 0,.int .i64 0,.int .i64 0,.int .i64 0,.int .i64 0,.int .i64 0,.int .i64 0,.int .i64 0,.int .i64 0,.int .i64 0,.int .i64 0,.int .i64 0,.int .i64 0,.int .i64 0,.int .i64 0,.int .i64 0,.int .i64 0,.int .i64 0,.int .i64 0,.int .i64 0,.int .i64 0,.int .i64 0,.int .i64 0,.int .i64 0,.int .i64 0,.int .i64 0,.int .i64 0,.int .i64 0,.int .i64 0,.int .i64 0,.int .i64 0,.int .i64 0,.int .i64 0,.int .i64 0,.int .i64 0,.int .i64 0,.int .i64 0,.int .i64 0,.int .i64 0,.int .i64 0,.int .i64 0,.int .i64 0] 221)).cell? ⟨ph,3,none⟩=some (.slice (some ⟨gp,0,none⟩) ((slots+63)/64) cp):=((Fr.refl [] w).alloc _).cell c3 (by simp);have hda:(w.alloc (.cells #[.int .i64 0,.int .i64 0,.int .i64 0,.int .i64 0,.int .i64 0,.int .i64 0,.int .i64 0,.int .i64 0,.int .i64 0,.int .i64 0,.int .i64 0,.int .i64 0,.int .i64 0,.int .i64 0,.int .i64 0,.int .i64 0,.int .i64 0,.int .i64 0,.int .i64 0,.int .i64 0,.int .i64 0,.int .i64 0,.int .i64 0,.int .i64 0,.int .i64 0,.int .i64 0,.int .i64 0,.int .i64 0,.int .i64 0,.int .i64 0,.int .i64 0,.int .i64 0,.int .i64 0,.int .i64 0,.int .i64 0,.int .i64 0,.int .i64 0,.int .i64 0,.int .i64 0,.int .i64 0,.int .i64 0,.int .i64 0,.int .i64 0,.int .i64 0,.int .i64 0,.int .i64 0,.int .i64 0,.int .i64 0,.int .i64 0,.int .i64 0,.int .i64 0,.int .i64 0,.int .i64 0,.int .i64 0,.int .i64 0,.int .i64 0,.int .i64 0,.int .i64 0,.int .i64 0,.int .i64 0,.int .i64 0,.int .i64 0,.int .i64 0,.int .i64 0] 221)).cell? ⟨gp,i/64,none⟩=some (.pointer none):=((Fr.refl [] w).alloc _).cell hd (by simp);have hza:(w.alloc (.cells #[.int .i64 0,.int .i64 0,.int .i64 0,.int .i64 0,.int .i64 0,.int .i64 0,.int .i64 0,.int .i64 0,.int .i64 0,.int .i64 0,.int .i64 0,.int .i64 0,.int .i64 0,.int .i64 0,.int .i64 0,.int .i64 0,.int .i64 0,.int .i64 0,.int .i64 0,.int .i64 0,.int .i64 0,.int .i64 0,.int .i64 0,.int .i64 0,.int .i64 0,.int .i64 0,.int .i64 0,.int .i64 0,.int .i64 0,.int .i64 0,.int .i64 0,.int .i64 0,.int .i64 0,.int .i64 0,.int .i64 0,.int .i64 0,.int .i64 0,.int .i64 0,.int .i64 0,.int .i64 0,.int .i64 0,.int .i64 0,.int .i64 0,.int .i64 0,.int .i64 0,.int .i64 0,.int .i64 0,.int .i64 0,.int .i64 0,.int .i64 0,.int .i64 0,.int .i64 0,.int .i64 0,.int .i64 0,.int .i64 0,.int .i64 0,.int .i64 0,.int .i64 0,.int .i64 0,.int .i64 0,.int .i64 0,.int .i64 0,.int .i64 0,.int .i64 0] 221)).frozen? ⟨gp,i/64,none⟩=false:=(h.dir.alloc _).frozen (i/64);clear h hb hle hM hF1;rw[←HX.out]at HN HF;generalize (slots+63)/64=m at *;go_enter Tryz.func176,Tryz.ntmps176
 go_wp2
 go_end0
 exact⟨rfl,_,HN.out,HF.out,fun q hq=>(hB_more q hq).imp (fun h=>h) (fun h=>by omega)⟩}
end
end Go.Proofs.YtgmnemndjjmgkaaGreat
