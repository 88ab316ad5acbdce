/- lct: the way from the root of a splay tree to a node; pushing along it; the sides of its nodes. -/
import Derived.Test.YtjdgpcjbgjnahaaGreatDoorG4
set_option maxRecDepth 10000
set_option maxHeartbeats 800000
set_option linter.unusedSimpArgs false
set_option linter.unusedVariables false
/- lct: refresh. -/
namespace Go.Proofs.YtjdgpcjbgjnahaaGreatDoor
open Go.RowKit
def bA(σ:Tbl)(i k:Nat):Tbl:=
  if k=0 then σ else
    let σ1:=σ.upd i { σ i with size:=wrap64 ((σ i).size+(σ k).size) }
    let σ2:=σ1.upd i { σ1 i with total:=wrap64 ((σ1 i).total+(σ1 k).total) }
    if bQ σ2 (σ2 k).first (σ2 i).first then σ2.upd i { σ2 i with first:=(σ2 k).first } else σ2
def dL(σ:Tbl)(i:Nat):Tbl:=σ.upd i { σ i with size:=1,first:=i,total:=wrap64 (1+(σ i).light) }
def aCC(σ:Tbl)(i:Nat):Nat->Tbl
  | 0=>dL σ i
  | 1=>bA (dL σ i) i (σ i).k0
  | _=>bA (bA (dL σ i) i (σ i).k0) i (σ i).k1
def refresh(σ:Tbl)(i:Nat):Tbl:=aCC σ i 2
theorem aM(σ:Tbl)(i:Nat)(n:Nd):σ.upd i n i=n:=by simp[Tbl.upd]
theorem aJ{σ:Tbl}{i j:Nat}{n:Nd}(h:j≠i):σ.upd i n j=σ j:=by simp[Tbl.upd,h]
def InR(N:Nat)(σ:Tbl):Prop:=∀i,i<N->(σ i).k0<N/\(σ i).k1<N/\(σ i).up<N/\(σ i).first<N
theorem fH{σ:Tbl}{i k j:Nat}(h:j≠i):bA σ i k j=σ j:=by
 unfold bA;by_cases hk:k=0
 · rw[qD hk]
 · rw[qC hk];dsimp only;split<;>simp[aJ h]
theorem gM{σ:Tbl}{i k j:Nat}:(bA σ i k j).k0=(σ j).k0/\(bA σ i k j).k1=(σ j).k1/\(bA σ i k j).up=(σ j).up/\(bA σ i k j).flip=(σ j).flip/\(bA σ i k j).key=(σ j).key/\(bA σ i k j).light=(σ j).light:=by
 by_cases h:j=i
 {
 subst h;unfold bA;by_cases hk:k=0
 · rw[qD hk];simp
 · rw[qC hk];dsimp only;split<;>simp[aM]}
 · rw[fH h];simp
theorem nI{N:Nat}{σ:Tbl}{i k:Nat}(h:InR N σ)(hi:i<N)(hk:k<N)(hki:k≠i):InR N (bA σ i k):=by
 intro j hj;obtain⟨a,b,c,_⟩:=@gM σ i k j;rw[a,b,c];refine⟨(h j hj).1,(h j hj).2.1,(h j hj).2.2.1,?_⟩;by_cases e:j=i
 {
 subst e;unfold bA;by_cases hk0:k=0
 · rw[qD hk0];exact(h j hj).2.2.2
 {
 rw[qC hk0];dsimp only;split
 · simp[aM,aJ hki];exact(h k hk).2.2.2
 · simp[aM];exact(h j hj).2.2.2}}
 · rw[fH e];exact(h j hj).2.2.2
theorem sZ{N:Nat}{σ:Tbl}{i:Nat}(h:InR N σ)(hi:i<N):InR N (dL σ i):=by
 intro j hj;by_cases e:j=i
 · subst e;simp only[dL,aM];exact⟨(h j hj).1,(h j hj).2.1,(h j hj).2.2.1,hi⟩
 · simp only[dL,aJ e];exact h j hj
theorem zM{N:Nat}{σ:Tbl}{i:Nat}(h:InR N σ)(hi:i<N)(h0:(σ i).k0≠i)(h1:(σ i).k1≠i)(t:Nat):InR N (aCC σ i t):=by
 match t with
 | 0=>exact sZ h hi
 | 1=>exact nI (sZ h hi) hi (h i hi).1 h0
 | t+2=>exact nI (nI (sZ h hi) hi (h i hi).1 h0) hi (h i hi).2.1 h1
theorem aF.store{w w0:World}{pf g N cap:Nat}{σ:Tbl}{ed:Int}(h:aF w pf g N cap σ ed)(hF:Fr [g] w0 w){i f:Nat}(hi:i<N)(hf:f<9)(n:Nd)(v:Value)(hv:fv n f=v)(ho:∀f', f' < 9->f' ≠ f->fv n f' =fv (σ i) f'):
    aF (w.setCell ⟨g,i*9+f,none⟩ v) pf g N cap (σ.upd i n) ed/\Fr [g] w0 (w.setCell ⟨g,i*9+f,none⟩ v):=
  ⟨⟨h.hd.other _ _ h.ne,h.nodes.store hi hf n v hv ho,h.ne,h.le,h.cap⟩,hF.setCell _ _ (.inl (by simp))⟩
theorem aF.eqv{w w' :World}{pf g N cap:Nat}{σ:Tbl}{ed:Int}(h:aF w pf g N cap σ ed)(e:Eqv w' w):aF w' pf g N cap σ ed:=
  ⟨e.blk h.hd,h.nodes.eqv e,h.ne,h.le,h.cap⟩
section
variable {w w0:World} {pf g N cap:Nat} {σ:Tbl} {ed:Int} (h:aF w pf g N cap σ ed) (hF:Fr [g] w0 w) {i:Nat} (hi:i<N)
include h hF hi
theorem aF.st0(x:Nat):aF (w.setCell ⟨g,i*9,none⟩ (.int .i64 x)) pf g N cap (σ.upd i { σ i with k0:=x }) ed/\Fr [g] w0 (w.setCell ⟨g,i*9,none⟩ (.int .i64 x)):=
  h.store hF hi (f:=0) (by decide) _ _ rfl (by intro f' h1 h2;match f', h1,h2 with|1,_,_=>rfl|2,_,_=>rfl|3,_,_=>rfl|4,_,_=>rfl|5,_,_=>rfl|6,_,_=>rfl|7,_,_=>rfl|_+8,_,_=>rfl)
theorem aF.st1(x:Nat):aF (w.setCell ⟨g,i*9+1,none⟩ (.int .i64 x)) pf g N cap (σ.upd i { σ i with k1:=x }) ed/\Fr [g] w0 (w.setCell ⟨g,i*9+1,none⟩ (.int .i64 x)):=
  h.store hF hi (f:=1) (by decide) _ _ rfl (by intro f' h1 h2;match f', h1,h2 with|0,_,_=>rfl|2,_,_=>rfl|3,_,_=>rfl|4,_,_=>rfl|5,_,_=>rfl|6,_,_=>rfl|7,_,_=>rfl|_+8,_,_=>rfl)
theorem aF.st2(x:Nat):aF (w.setCell ⟨g,i*9+2,none⟩ (.int .i64 x)) pf g N cap (σ.upd i { σ i with up:=x }) ed/\Fr [g] w0 (w.setCell ⟨g,i*9+2,none⟩ (.int .i64 x)):=
  h.store hF hi (f:=2) (by decide) _ _ rfl (by intro f' h1 h2;match f', h1,h2 with|0,_,_=>rfl|1,_,_=>rfl|3,_,_=>rfl|4,_,_=>rfl|5,_,_=>rfl|6,_,_=>rfl|7,_,_=>rfl|_+8,_,_=>rfl)
theorem aF.st3(x:Bool):aF (w.setCell ⟨g,i*9+3,none⟩ (.bool x)) pf g N cap (σ.upd i { σ i with flip:=x }) ed/\Fr [g] w0 (w.setCell ⟨g,i*9+3,none⟩ (.bool x)):=
  h.store hF hi (f:=3) (by decide) _ _ rfl (by intro f' h1 h2;match f', h1,h2 with|0,_,_=>rfl|1,_,_=>rfl|2,_,_=>rfl|4,_,_=>rfl|5,_,_=>rfl|6,_,_=>rfl|7,_,_=>rfl|_+8,_,_=>rfl)
theorem aF.st4(x:Int):aF (w.setCell ⟨g,i*9+4,none⟩ (.int .i64 x)) pf g N cap (σ.upd i { σ i with key:=x }) ed/\Fr [g] w0 (w.setCell ⟨g,i*9+4,none⟩ (.int .i64 x)):=
  h.store hF hi (f:=4) (by decide) _ _ rfl (by intro f' h1 h2;match f', h1,h2 with|0,_,_=>rfl|1,_,_=>rfl|2,_,_=>rfl|3,_,_=>rfl|5,_,_=>rfl|6,_,_=>rfl|7,_,_=>rfl|_+8,_,_=>rfl)
theorem aF.st5(x:Int):aF (w.setCell ⟨g,i*9+5,none⟩ (.int .i64 x)) pf g N cap (σ.upd i { σ i with size:=x }) ed/\Fr [g] w0 (w.setCell ⟨g,i*9+5,none⟩ (.int .i64 x)):=
  h.store hF hi (f:=5) (by decide) _ _ rfl (by intro f' h1 h2;match f', h1,h2 with|0,_,_=>rfl|1,_,_=>rfl|2,_,_=>rfl|3,_,_=>rfl|4,_,_=>rfl|6,_,_=>rfl|7,_,_=>rfl|_+8,_,_=>rfl)
theorem aF.st6(x:Nat):aF (w.setCell ⟨g,i*9+6,none⟩ (.int .i64 x)) pf g N cap (σ.upd i { σ i with first:=x }) ed/\Fr [g] w0 (w.setCell ⟨g,i*9+6,none⟩ (.int .i64 x)):=
  h.store hF hi (f:=6) (by decide) _ _ rfl (by intro f' h1 h2;match f', h1,h2 with|0,_,_=>rfl|1,_,_=>rfl|2,_,_=>rfl|3,_,_=>rfl|4,_,_=>rfl|5,_,_=>rfl|7,_,_=>rfl|_+8,_,_=>rfl)
theorem aF.st7(x:Int):aF (w.setCell ⟨g,i*9+7,none⟩ (.int .i64 x)) pf g N cap (σ.upd i { σ i with light:=x }) ed/\Fr [g] w0 (w.setCell ⟨g,i*9+7,none⟩ (.int .i64 x)):=
  h.store hF hi (f:=7) (by decide) _ _ rfl (by intro f' h1 h2;match f', h1,h2 with|0,_,_=>rfl|1,_,_=>rfl|2,_,_=>rfl|3,_,_=>rfl|4,_,_=>rfl|5,_,_=>rfl|6,_,_=>rfl|_+8,_,_=>rfl)
theorem aF.st8(x:Int):aF (w.setCell ⟨g,i*9+8,none⟩ (.int .i64 x)) pf g N cap (σ.upd i { σ i with total:=x }) ed/\Fr [g] w0 (w.setCell ⟨g,i*9+8,none⟩ (.int .i64 x)):=
  h.store hF hi (f:=8) (by decide) _ _ rfl (by intro f' h1 h2;match f', h1,h2 with|0,_,_=>rfl|1,_,_=>rfl|2,_,_=>rfl|3,_,_=>rfl|4,_,_=>rfl|5,_,_=>rfl|6,_,_=>rfl|7,_,_=>rfl|m+8,h1,h2=>exact absurd (show m+8=8 by omega) h2)
end
theorem pJ(x y:Value)(w:World):(Instr.index 249 (.agg #[x,y]) (.int .i64 0)).run Tryz.prog w=.ok x w:=by kernel_rfl
theorem pK(x y:Value)(w:World):(Instr.index 249 (.agg #[x,y]) (.int .i64 1)).run Tryz.prog w=.ok y w:=by kernel_rfl
theorem aIG{w:World}{pf g N cap:Nat}{σ:Tbl}{ed:Int}(h:aF w pf g N cap σ ed){i:Nat}(hi:i<N):
    aF (((w.setCell ⟨g,i*9+5,none⟩ (.int .i64 1)).setCell ⟨g,i*9+6,none⟩ (.int .i64 i)).setCell ⟨g,i*9+8,none⟩ (.int .i64 (wrap64 (1+(σ i).light)))) pf g N cap (dL σ i) ed /\
      Fr [g] w (((w.setCell ⟨g,i*9+5,none⟩ (.int .i64 1)).setCell ⟨g,i*9+6,none⟩ (.int .i64 i)).setCell ⟨g,i*9+8,none⟩ (.int .i64 (wrap64 (1+(σ i).light)))):=by
 obtain⟨h1,f1⟩:=h.st5 (Fr.refl _ _) hi 1;obtain⟨h2,f2⟩:=h1.st6 f1 hi i;obtain⟨h3,f3⟩:=h2.st8 f2 hi (wrap64 (1+(σ i).light));refine⟨⟨h3.hd,h3.nodes.congr ?_,h3.ne,h3.le,h3.cap⟩,f3⟩;intro j _;by_cases e:j=i
 · subst e;simp[dL,aM]
 · simp[dL,aJ e]
theorem aIH(n:Int):IntKind.i64.wrap n=wrap64 n:=by rw[IntKind.wrap_i64];unfold wrap64;omega
theorem dV{w:World}{pf g N cap:Nat}{σ:Tbl}{ed:Int}(h:aF w pf g N cap σ ed)(i:Nat)(hi:i<N)(hR:InR N σ)(h0:(σ i).k0≠i)(h1:(σ i).k1≠i):
    Calls Tryz.prog 167 #[.pointer (some ⟨pf,0,none⟩),.int .i64 i] w fun e w' =>e=.returned (.tuple #[])/\aF w' pf g N cap (refresh σ i) ed/\Fr [g] w w' :=by
 have c1:=h.hd.cell 1;simp only[zI,zJ]at c1;have hN:=h.le;have a0:=h.nodes.c0 i hi;have a1:=h.nodes.c1 i hi;have a5:=h.nodes.c5 i hi;have a6:=h.nodes.c6 i hi;have a7:=h.nodes.c7 i hi;have a8:=h.nodes.c8 i hi;have hfz:=h.nodes.frozen;have hi2:(i:Int)<N:=by omega
 obtain⟨hm0,hf0⟩:=aIG h hi;have HR:=qA hR;clear hR;have H0:=qA h0;clear h0;have H1:=qA h1;clear h1;go_enter Tryz.func167,Tryz.ntmps167
 go_wp2
 generalize hW:(((w.setCell ⟨g,i*9+5,none⟩ (.int .i64 1)).setCell ⟨g,i*9+6,none⟩ (.int .i64 i)).setCell ⟨g,i*9+8,none⟩ (.int .i64 (wrap64 (1+(σ i).light))))=W0 at *;clear hW a0 a1 a5 a6 a7 a8 hfz c1;go_loopw [33] (fun x wr=>∃t:Nat,t<=2/\x=.int .i64 t/\aF wr pf g N cap (aCC σ i t) ed/\Fr [g] w wr) (fun x _=>2-(intOf x).toNat)
 case atStart=>exact⟨0,by omega,rfl,hm0,hf0⟩
 case round=>
  clear hm0 hf0;obtain⟨t,ht,rfl,hL,hF⟩:=hrel;by_cases hlt:t<2
  {
  have hInR:=zM HR.out hi H0.out H1.out t;obtain⟨k,hix,hkN,hki,hnx⟩:∃k:Nat,(∀W:World,(Instr.index 249 (.agg #[.int .i64 (σ i).k0,.int .i64 (σ i).k1]) (.int .i64 t)).run Tryz.prog W=.ok (.int .i64 k) W)/\k<N/\k≠i/\aCC σ i (t+1)=bA (aCC σ i t) i k:=by {
  rcases(show t=0∨t=1 by omega) with rfl|rfl
  · exact⟨(σ i).k0,fun W=>pJ _ _ W,(HR.out i hi).1,H0.out,rfl⟩
  · exact⟨(σ i).k1,fun W=>pK _ _ W,(HR.out i hi).2.1,H1.out,rfl⟩};have Hnx:=qA hnx;clear hnx;have HIn:=qA hInR;clear hInR;generalize aCC σ i t=τ at *;by_cases hk0:k=0
  {
  subst hk0;go_wp2
  go_roundw
  case rel=>exact⟨t+1,by omega,by go_num,by rw[Hnx.out];exact hL,hF⟩
  case measure=>simp[intOf];omega}
  {
  have hb0:((k:Int) == 0)=false:=qQ.2 (by omega);have hk2:(k:Int)<N:=by omega
  have c1:=hL.hd.cell 1;simp only[zI,zJ]at c1;have a5:=hL.nodes.c5 i hi;have b5:=hL.nodes.c5 k hkN;have hfz:=hL.nodes.frozen;go_wp2
  refine bF 11 (fun w' =>aF w' pf g N cap (τ.upd i { τ i with size:=wrap64 ((τ i).size+(τ k).size) }) ed/\Fr [g] w w') (by kernel_rfl) (by kernel_rfl) (by kernel_rfl) ?_;iterate 11 (refine bO (by decide) (fun K hK=>?_);go_simp;refine hK _ ?_;clear hK K)
  refine aW rfl undef (fun w' hw' =>?_) ?_
  {
  obtain⟨nq,rfl⟩:=hw';go_simp;rw[aIH];exact(hL.eqv (Eqv.drewN wr nq)).st5 (hF.drewN nq) hi _};refine bP ?_;rintro w2 ⟨hL2,hF2⟩;have hk1:τ.upd i { τ i with size:=wrap64 ((τ i).size+(τ k).size) } k=τ k:=aJ hki;have c1' :=hL2.hd.cell 1;simp only[zI,zJ]at c1';have a8:=hL2.nodes.c8 i hi;have b8:=hL2.nodes.c8 k hkN;rw[hk1]at b8;rw[aM]at a8;have hfz2:=hL2.nodes.frozen;clear a5 b5 hfz c1 hk1;go_wp2
  refine bF 11 (fun w' =>aF w' pf g N cap ((τ.upd i { τ i with size:=wrap64 ((τ i).size+(τ k).size) }).upd i { τ i with size:=wrap64 ((τ i).size+(τ k).size),total:=wrap64 ((τ i).total+(τ k).total) }) ed/\Fr [g] w w') (by kernel_rfl) (by kernel_rfl) (by kernel_rfl) ?_;iterate 11 (refine bO (by decide) (fun K hK=>?_);go_simp;refine hK _ ?_;clear hK K)
  refine aW rfl undef (fun w' hw' =>?_) ?_
  {
  obtain⟨nq,rfl⟩:=hw';go_simp;have:=(hL2.eqv (Eqv.drewN w2 nq)).st8 (hF2.drewN nq) hi (wrap64 ((τ i).total+(τ k).total));rw[aM]at this;rw[aIH];exact this};refine bP ?_;rintro w3 ⟨hL3,hF3⟩;clear a8 b8 hfz2 c1' hL hL2 hF hF2;have hns:bA τ i k=if bQ ((τ.upd i { τ i with size:=wrap64 ((τ i).size+(τ k).size) }).upd i { τ i with size:=wrap64 ((τ i).size+(τ k).size),total:=wrap64 ((τ i).total+(τ k).total) }) (τ k).first (τ i).first then((τ.upd i { τ i with size:=wrap64 ((τ i).size+(τ k).size) }).upd i { τ i with size:=wrap64 ((τ i).size+(τ k).size),total:=wrap64 ((τ i).total+(τ k).total) }).upd i { τ i with size:=wrap64 ((τ i).size+(τ k).size),total:=wrap64 ((τ i).total+(τ k).total),first:=(τ k).first } else((τ.upd i { τ i with size:=wrap64 ((τ i).size+(τ k).size) }).upd i { τ i with size:=wrap64 ((τ i).size+(τ k).size),total:=wrap64 ((τ i).total+(τ k).total) }):=by {
  unfold bA;rw[qC hk0];simp only[aM,aJ hki]};have Hns:=qA hns;clear hns;have c6:=hL3.nodes.c6 i hi;have d6:=hL3.nodes.c6 k hkN;have hk1:((τ.upd i { τ i with size:=wrap64 ((τ i).size+(τ k).size) }).upd i { τ i with size:=wrap64 ((τ i).size+(τ k).size),total:=wrap64 ((τ i).total+(τ k).total) }) k=τ k:=by rw[aJ hki,aJ hki]
  have hi1:((τ.upd i { τ i with size:=wrap64 ((τ i).size+(τ k).size) }).upd i { τ i with size:=wrap64 ((τ i).size+(τ k).size),total:=wrap64 ((τ i).total+(τ k).total) }) i={ τ i with size:=wrap64 ((τ i).size+(τ k).size),total:=wrap64 ((τ i).total+(τ k).total) }:=aM _ _ _;rw[hi1]at c6;rw[hk1]at d6;have hst:=fun nq:Nat=>(hL3.eqv (Eqv.drewN w3 nq)).st6 (hF3.drewN nq) hi (τ k).first
  rw[hi1]at hst;generalize ((τ.upd i { τ i with size:=wrap64 ((τ i).size+(τ k).size) }).upd i { τ i with size:=wrap64 ((τ i).size+(τ k).size),total:=wrap64 ((τ i).total+(τ k).total) })=τ2 at *;have hbf:=fun W (hW:aF W pf g N cap τ2 ed)=>aIF hW (τ k).first (τ i).first (HIn.out k hkN).2.2.2 (HIn.out i hi).2.2.2
  have Hbf:=qA hbf;clear hbf hk1 hi1;have hfz3:=hL3.nodes.frozen;have Hst:=qA hst;clear hst;dsimp only at c6
  cases hB:bQ τ2 (τ k).first (τ i).first with
  | true=>{
  rw[hB]at Hbf Hns;clear hB;go_wp2
  go_quiet ((go_at_call 203;exact Calls.quiet_of (Hbf.out _ (hL3.eqv (Eqv.drewN _ _)))))
  go_wp2
  exact⟨⟨t+1,by omega,by go_num,by rw[Hnx.out,Hns.out,qD trivial];exact(Hst.out nq).1,(Hst.out nq).2⟩,by simp[intOf];omega⟩}
  | false=>{
  rw[hB]at Hbf Hns;clear hB;go_wp2
  go_quiet ((go_at_call 203;exact Calls.quiet_of (Hbf.out _ (hL3.eqv (Eqv.drewN _ _)))))
  go_wp2
  exact⟨⟨t+1,by omega,by go_num,by rw[Hnx.out,Hns.out,qC (by decide)];exact hL3.eqv (Eqv.drewN w3 nq),hF3.drewN nq⟩,by simp[intOf];omega⟩}}}
  {
  obtain rfl:t=2:=by omega
  go_wp2
  go_end0
  exact⟨rfl,hL,hF⟩}
def kY(σ:Tbl)(k:Nat):Tbl:=if k=0 then σ else σ.upd k { σ k with flip:= !(σ k).flip }
def kK(σ:Tbl)(i:Nat):Tbl:=σ.upd i { σ i with flip:=false,k0:=(σ i).k1,k1:=(σ i).k0 }
def vK(σ:Tbl)(i:Nat):Nat->Tbl
  | 0=>kK σ i
  | 1=>kY (kK σ i) (σ i).k1
  | _=>kY (kY (kK σ i) (σ i).k1) (σ i).k0
def push(σ:Tbl)(i:Nat):Tbl:=if (σ i).flip then vK σ i 2 else σ
theorem aF.congr{w:World}{pf g N cap:Nat}{σ τ:Tbl}{ed:Int}(h:aF w pf g N cap σ ed)(e:∀i,σ i=τ i):aF w pf g N cap τ ed:=by
 have:σ=τ:=funext e;rw[<-this];exact h
theorem aPR{w:World}{pf g N cap:Nat}{σ:Tbl}{ed:Int}(h:aF w pf g N cap σ ed)(i:Nat)(hi:i<N)(hR:InR N σ):
    Calls Tryz.prog 227 #[.pointer (some ⟨pf,0,none⟩),.int .i64 i] w fun e w' =>e=.returned (.tuple #[])/\aF w' pf g N cap (push σ i) ed/\Fr [g] w w' :=by
 have c1:=h.hd.cell 1;simp only[zI,zJ]at c1;have hN:=h.le;have a3:=h.nodes.c3 i hi;have hfz:=h.nodes.frozen;have hi2:(i:Int)<N:=by omega
 have HR:=qA hR;clear hR;by_cases hfl:(σ i).flip=true
 {
 have hp:push σ i=vK σ i 2:=by unfold push;rw[qD hfl]
 have Hp:=qA hp;clear hp;rw[hfl]at a3;have Hfl:=qA hfl;clear hfl;obtain⟨h1,f1⟩:=h.st3 (Fr.refl _ _) hi false;go_enter Tryz.func227,Tryz.ntmps227
 go_wp2
 generalize hW:w.setCell ⟨g,i*9+3,none⟩ (.bool false)=W0 at *;clear hW a3 c1 hfz;have a0:=h1.nodes.c0 i hi;have a1:=h1.nodes.c1 i hi;rw[aM]at a0 a1;dsimp only at a0 a1
 have hfz:=h1.nodes.frozen;have c1:=h1.hd.cell 1;simp only[zI,zJ]at c1;refine pX [15,19] [1] (fun q w' =>match q with
   | 0=>∃n,w' =W0.drewN n
   | 1=>aF w' pf g N cap ((σ.upd i { σ i with flip:=false }).upd i { σ i with flip:=false,k0:=(σ i).k1 }) ed/\Fr [g] w w'
   | _=>aF w' pf g N cap (kK σ i) ed/\Fr [g] w w') (fun w' =>Iff.rfl) (by kernel_rfl) (by kernel_rfl) (by kernel_rfl) ?_
 refine lY (by decide) (fun K hK=>?_);go_simp;refine hK _ ?_;clear hK K;refine jT (by decide) (fun K hK=>?_);go_simp;refine hK _ ?_;clear hK K;iterate 13 (refine lY (by decide) (fun K hK=>?_);go_simp;refine hK _ ?_;clear hK K)
 refine iI (q:=0) (by decide) rfl undef (fun w' hw' =>?_) ?_
 {
 obtain⟨nq,rfl⟩:=hw';go_simp;have:=(h1.eqv (Eqv.drewN W0 nq)).st0 (f1.drewN nq) hi (σ i).k1;rw[aM]at this;exact this};iterate 3 (refine jT (by decide) (fun K hK=>?_);go_simp;refine hK _ ?_;clear hK K)
 refine iI (q:=1) (by decide) rfl undef (fun w' hw' =>?_) ?_
 {
 obtain⟨hA,hB⟩:=hw';have hfz' :=hA.nodes.frozen;have b1:=hA.nodes.c1 i hi;go_simp;have:=hA.st1 hB hi (σ i).k0;rw[aM]at this;refine⟨this.1.congr ?_,this.2⟩;intro j;by_cases e:j=i
 · subst e;simp[kK,aM]
 · simp[kK,aJ e]};refine vH ?_;rintro w2 ⟨h2,f2⟩;clear a0 a1 hfz c1 h1 f1;have a0:=h2.nodes.c0 i hi;have a1:=h2.nodes.c1 i hi;simp only[kK,aM]at a0 a1;go_wp2
 clear a0 a1;go_loopw [43] (fun x wr=>∃t:Nat,t<=2/\x=.int .i64 t/\aF wr pf g N cap (vK σ i t) ed/\Fr [g] w wr) (fun x _=>2-(intOf x).toNat)
 case atStart=>exact⟨0,by omega,rfl,h2,f2⟩
 case round=>
  clear h2 f2;obtain⟨t,ht,rfl,hL,hF⟩:=hrel;by_cases hlt:t<2
  {
  obtain⟨k,hix,hkN,hnx⟩:∃k:Nat,(∀W:World,(Instr.index 249 (.agg #[.int .i64 (σ i).k1,.int .i64 (σ i).k0]) (.int .i64 t)).run Tryz.prog W=.ok (.int .i64 k) W)/\k<N/\vK σ i (t+1)=kY (vK σ i t) k:=by {
  rcases(show t=0∨t=1 by omega) with rfl|rfl
  · exact⟨(σ i).k1,fun W=>pJ _ _ W,(HR.out i hi).2.1,rfl⟩
  · exact⟨(σ i).k0,fun W=>pK _ _ W,(HR.out i hi).1,rfl⟩};have Hnx:=qA hnx;clear hnx;generalize vK σ i t=τ at *;by_cases hk0:k=0
  {
  subst hk0;go_wp2
  exact⟨⟨t+1,by omega,by go_num,by rw[Hnx.out];exact hL,hF⟩,by simp[intOf];omega⟩}
  {
  have hb0:((k:Int) == 0)=false:=qQ.2 (by omega);have hk2:(k:Int)<N:=by omega
  have c1:=hL.hd.cell 1;simp only[zI,zJ]at c1;have a3:=hL.nodes.c3 k hkN;have hfz:=hL.nodes.frozen;go_wp2
  refine bF 16 (fun w' =>aF w' pf g N cap (τ.upd k { τ k with flip:= !(τ k).flip }) ed/\Fr [g] w w') (by kernel_rfl) (by kernel_rfl) (by kernel_rfl) ?_;iterate 16 (refine bO (by decide) (fun K hK=>?_);go_simp;refine hK _ ?_;clear hK K)
  refine aW rfl undef (fun w' hw' =>?_) ?_
  {
  obtain⟨nq,rfl⟩:=hw';go_simp;exact(hL.eqv (Eqv.drewN wr nq)).st3 (hF.drewN nq) hkN _};refine bP ?_;rintro w3 ⟨h3,f3⟩;go_wp2
  exact⟨⟨t+1,by omega,by go_num,by rw[Hnx.out];unfold kY;rw[qC hk0];exact h3,f3⟩,by simp[intOf];omega⟩}}
  {
  obtain rfl:t=2:=by omega
  go_wp2
  go_end0
  exact⟨rfl,by rw[Hp.out];exact hL,hF⟩}}
 {
 have hfl:(σ i).flip=false:=by simpa using hfl
 have hp:push σ i=σ:=by unfold push;rw[qC (by simp[hfl])]
 rw[hp];clear hp;rw[hfl]at a3;go_enter Tryz.func227,Tryz.ntmps227
 go_wp2
 refine bodyPost_ret (results_none rfl _ _ _) rfl ?_;exact⟨rfl,h,Fr.refl _ _⟩}
def bD(σ:Tbl)(i:Nat):Nat×Bool:=
  if (σ i).up=0 then(0,false) else if (σ (σ i).up).k0=i then(0,true) else if (σ (σ i).up).k1=i then(1,true) else(0,false)
def aV(n:Nd)(s k:Nat):Nd:=if s=0 then { n with k0:=k } else { n with k1:=k }
def kid(n:Nd)(s:Nat):Nat:=if s=0 then n.k0 else n.k1
def hang(σ:Tbl)(i s k:Nat):Tbl:=
  let σ1:=σ.upd i (aV (σ i) s k)
  if k=0 then σ1 else σ1.upd k { σ1 k with up:=i }
theorem pL{w:World}{pf g N cap:Nat}{σ:Tbl}{ed:Int}(h:aF w pf g N cap σ ed)(i:Nat)(hi:i<N)(hR:InR N σ):
    Calls Tryz.prog 225 #[.pointer (some ⟨pf,0,none⟩),.int .i64 i] w fun e w' =>e=.returned (.tuple #[.int .i64 (bD σ i).1,.bool (bD σ i).2])/\w' =w:=by
 have c1:=h.hd.cell 1;simp only[zI,zJ]at c1;have hN:=h.le;have a2:=h.nodes.c2 i hi;have hp:=(hR i hi).2.2.1;have hi2:(i:Int)<N:=by omega
 have HR:=qA hR;clear hR;have hs:bD σ i=if (σ i).up=0 then(0,false) else if (σ (σ i).up).k0=i then(0,true) else if (σ (σ i).up).k1=i then(1,true) else(0,false):=rfl;generalize hpp:(σ i).up=p at *;have Hs:=qA hs;clear hs;by_cases hp0:p=0
 {
 subst hp0;rw[Hs.out,qD rfl];clear Hs;go_enter Tryz.func225,Tryz.ntmps225
 go_wp2
 go_ret2;exact⟨rfl,rfl⟩}
 {
 have hp2:(p:Int)<N:=by omega
 have hb0:((p:Int) == 0)=false:=qQ.2 (by omega);have b0:=h.nodes.c0 p hp;have b1:=h.nodes.c1 p hp;have Hp0:=qA hp0;clear hp0;go_enter Tryz.func225,Tryz.ntmps225
 go_wp2
 clear a2 b0 b1 c1;go_loopw [27] (fun x wr=>∃t:Nat,t<=2/\x=.int .i64 t/\wr=w/\(0<t->(σ p).k0≠i)/\(1<t->(σ p).k1≠i)) (fun x _=>2-(intOf x).toNat)
 case atStart=>exact⟨0,by omega,rfl,rfl,by omega,by omega⟩
 case round=>
  obtain⟨t,ht,rfl,rfl,he0,he1⟩:=hrel;by_cases hlt:t<2
  {
  obtain⟨k,hix,hkN,hy,hn0,hn1⟩:∃k:Nat,(∀W:World,(Instr.index 249 (.agg #[.int .i64 (σ p).k0,.int .i64 (σ p).k1]) (.int .i64 t)).run Tryz.prog W=.ok (.int .i64 k) W)/\k<N/\(k=i->bD σ i=(t,true))/\(k≠i->0<t+1->(σ p).k0≠i)/\(k≠i->1<t+1->(σ p).k1≠i):=by {
  rcases(show t=0∨t=1 by omega) with rfl|rfl
  · exact⟨(σ p).k0,fun W=>pJ _ _ W,(HR.out p hp).1,fun e=>by rw[Hs.out,qC Hp0.out,qD e],fun e _=>e,fun _ e=>by omega⟩
  · exact⟨(σ p).k1,fun W=>pK _ _ W,(HR.out p hp).2.1,fun e=>by rw[Hs.out,qC Hp0.out,qC (he0 (by decide)),qD e],fun _ _=>he0 (by decide),fun e _=>e⟩};have Hy:=qA hy;clear hy;have Hn0:=qA hn0;clear hn0;have Hn1:=qA hn1;clear hn1;clear he0 he1;by_cases hki:k=i
  {
  have hb:((k:Int) == (i:Int))=true:=beq_iff_eq.2 (by omega);go_wp2
  go_ret2;rw[Hy.out hki];exact⟨rfl,rfl⟩}
  {
  have hb:((k:Int) == (i:Int))=false:=qQ.2 (by omega);go_wp2
  exact⟨⟨t+1,by omega,by go_num,trivial,Hn0.out hki,Hn1.out hki⟩,by simp[intOf];omega⟩}}
  {
  obtain rfl:t=2:=by omega
  have hs:bD σ i=(0,false):=by rw[Hs.out,qC Hp0.out,qC (he0 (by decide)),qC (he1 (by decide))]
  have Hs' :=qA hs;clear hs;clear Hs he0 he1;go_wp2
  go_ret2;rw[Hs'.out];exact⟨rfl,rfl⟩}}
theorem jY{w:World}{pf g N cap:Nat}{σ:Tbl}{ed:Int}(h:aF w pf g N cap σ ed)(i s k:Nat)(hi:i<N)(hs:s<2)(hk:k<N):
    Calls Tryz.prog 244 #[.pointer (some ⟨pf,0,none⟩),.int .i64 i,.int .i64 s,.int .i64 k] w fun e w' =>e=.returned (.tuple #[])/\aF w' pf g N cap (hang σ i s k) ed/\Fr [g] w w' :=by
 have c1:=h.hd.cell 1;simp only[zI,zJ]at c1;have hN:=h.le;have hfz:=h.nodes.frozen;have hi2:(i:Int)<N:=by omega
 have hk2:(k:Int)<N:=by omega
 have key:∀W1:World,aF W1 pf g N cap (σ.upd i (aV (σ i) s k)) ed/\Fr [g] w W1->(k=0->aF W1 pf g N cap (hang σ i s k) ed/\Fr [g] w W1)/\(k≠0->aF (W1.setCell ⟨g,k*9+2,none⟩ (.int .i64 i)) pf g N cap (hang σ i s k) ed/\Fr [g] w (W1.setCell ⟨g,k*9+2,none⟩ (.int .i64 i))):=by {
 intro W1 ⟨h1,f1⟩;constructor
 · intro e;unfold hang;rw[qD e];exact⟨h1,f1⟩
 · intro e;unfold hang;rw[qC e];exact h1.st2 f1 hk i};have Key:=qA key;clear key;rcases(show s=0∨s=1 by omega) with rfl|rfl
 {
 obtain⟨h1,f1⟩:=h.st0 (Fr.refl _ _) hi k;have a0:=h.nodes.c0 i hi;have K:=qA (Key.out _ ⟨h1,f1⟩);clear Key f1;by_cases hk0:k=0
 {
 have r:=K.out.1 hk0;clear K h1;subst hk0;go_enter Tryz.func244,Tryz.ntmps244
 go_wp2
 go_end0
 exact⟨rfl,r⟩}
 {
 have hb0:((k:Int) == 0)=false:=qQ.2 (by omega);have hfz1:=h1.nodes.frozen;have d1:=h1.hd.cell 1;simp only[zI,zJ]at d1;have b2:=h1.nodes.c2 k hk;have r:=K.out.2 hk0;clear K h1;go_enter Tryz.func244,Tryz.ntmps244
 go_wp2
 go_end0
 exact⟨rfl,r⟩}}
 {
 obtain⟨h1,f1⟩:=h.st1 (Fr.refl _ _) hi k;have a0:=h.nodes.c1 i hi;have K:=qA (Key.out _ ⟨h1,f1⟩);clear Key f1;by_cases hk0:k=0
 {
 have r:=K.out.1 hk0;clear K h1;subst hk0;go_enter Tryz.func244,Tryz.ntmps244
 go_wp2
 go_end0
 exact⟨rfl,r⟩}
 {
 have hb0:((k:Int) == 0)=false:=qQ.2 (by omega);have hfz1:=h1.nodes.frozen;have d1:=h1.hd.cell 1;simp only[zI,zJ]at d1;have b2:=h1.nodes.c2 k hk;have r:=K.out.2 hk0;clear K h1;go_enter Tryz.func244,Tryz.ntmps244
 go_wp2
 go_end0
 exact⟨rfl,r⟩}}
def rot1(σ:Tbl)(i:Nat):Tbl:=
  if (bD σ (σ i).up).2 then hang σ (σ (σ i).up).up (bD σ (σ i).up).1 i else σ.upd i { σ i with up:=(σ (σ i).up).up }
def uP(σ:Tbl)(i:Nat):Tbl:=hang (rot1 σ i) (σ i).up (bD σ i).1 (kid (rot1 σ i i) (1-(bD σ i).1))
def dB(σ:Tbl)(i:Nat):Tbl:=hang (uP σ i) i (1-(bD σ i).1) (σ i).up
def rotate(σ:Tbl)(i:Nat):Tbl:=refresh (refresh (dB σ i) (σ i).up) i
theorem Fr.then{g:Nat}{a b c:World}(h:Fr [g] a b)(h' :Fr [g] b c):Fr [g] a c:=h.trans h' (fun _ h=>.inl h)
theorem vL(σ:Tbl)(i:Nat):(bD σ i).1<2:=by unfold bD;split<;>(try split)<;>(try split)<;>decide
theorem InR.upd{N:Nat}{σ:Tbl}(h:InR N σ){i:Nat}{n:Nd}(hn:n.k0<N/\n.k1<N/\n.up<N/\n.first<N):InR N (σ.upd i n):=by
 intro j hj;by_cases e:j=i
 · subst e;rw[aM];exact hn
 · rw[aJ e];exact h j hj
theorem InR.hang{N:Nat}{σ:Tbl}(h:InR N σ){i s k:Nat}(hi:i<N)(hk:k<N):InR N (hang σ i s k):=by
 have h1:InR N (σ.upd i (aV (σ i) s k)):=by {
 refine h.upd ?_;unfold aV;have:=h i hi;split
 · exact⟨hk,this.2⟩
 · exact⟨this.1,hk,this.2.2⟩};unfold Proofs.YtjdgpcjbgjnahaaGreatDoor.hang;dsimp only
 split
 · exact h1
 · exact h1.upd ⟨(h1 k hk).1,(h1 k hk).2.1,hi,(h1 k hk).2.2.2⟩
theorem InR.refresh{N:Nat}{σ:Tbl}(h:InR N σ){i:Nat}(hi:i<N)(h0:(σ i).k0≠i)(h1:(σ i).k1≠i):InR N (refresh σ i):=zM h hi h0 h1 2
theorem InR.kid{N:Nat}{σ:Tbl}(h:InR N σ){i:Nat}(hi:i<N)(s:Nat):kid (σ i) s<N:=by
 unfold Proofs.YtjdgpcjbgjnahaaGreatDoor.kid;split
 · exact(h i hi).1
 · exact(h i hi).2.1
theorem InR.rot1{N:Nat}{σ:Tbl}(h:InR N σ){i:Nat}(hi:i<N):InR N (rot1 σ i):=by
 have hp:=(h i hi).2.2.1;have hg:=(h _ hp).2.2.1;unfold Proofs.YtjdgpcjbgjnahaaGreatDoor.rot1;split
 · exact h.hang hg hi
 · exact h.upd ⟨(h i hi).1,(h i hi).2.1,hg,(h i hi).2.2.2⟩
theorem aL{σ:Tbl}{i j:Nat}:(refresh σ i j).k0=(σ j).k0/\(refresh σ i j).k1=(σ j).k1/\(refresh σ i j).up=(σ j).up/\(refresh σ i j).flip=(σ j).flip/\(refresh σ i j).key=(σ j).key/\(refresh σ i j).light=(σ j).light:=by
 unfold refresh aCC;have a:=@gM (bA (dL σ i) i (σ i).k0) i (σ i).k1 j;have b:=@gM (dL σ i) i (σ i).k0 j;have c:(dL σ i j).k0=(σ j).k0/\(dL σ i j).k1=(σ j).k1/\(dL σ i j).up=(σ j).up/\(dL σ i j).flip=(σ j).flip/\(dL σ i j).key=(σ j).key/\(dL σ i j).light=(σ j).light:=by {
 by_cases e:j=i
 · subst e;simp[dL,aM]
 · simp[dL,aJ e]};refine⟨a.1.trans (b.1.trans c.1),a.2.1.trans (b.2.1.trans c.2.1),a.2.2.1.trans (b.2.2.1.trans c.2.2.1),a.2.2.2.1.trans (b.2.2.2.1.trans c.2.2.2.1),a.2.2.2.2.1.trans (b.2.2.2.2.1.trans c.2.2.2.2.1),a.2.2.2.2.2.trans (b.2.2.2.2.2.trans c.2.2.2.2.2)⟩
theorem cS{σ:Tbl}{i j:Nat}(h:j≠i):refresh σ i j=σ j:=by
 show bA (bA (dL σ i) i (σ i).k0) i (σ i).k1 j=_
 rw[fH h,fH h,dL,aJ h]
theorem kZ{w:World}{pf g N cap:Nat}{σ:Tbl}{ed:Int}(h:aF w pf g N cap σ ed)(i:Nat)(hi:i<N)(hR:InR N σ)
    (q0:(dB σ i (σ i).up).k0≠(σ i).up) (q1:(dB σ i (σ i).up).k1≠(σ i).up) (q2:(dB σ i i).k0≠i) (q3:(dB σ i i).k1≠i):
    Calls Tryz.prog 228 #[.pointer (some ⟨pf,0,none⟩),.int .i64 i] w fun e w' =>e=.returned (.tuple #[])/\aF w' pf g N cap (rotate σ i) ed/\Fr [g] w w' :=by
 have c1:=h.hd.cell 1;simp only[zI,zJ]at c1;have hN:=h.le;have hi2:(i:Int)<N:=by omega
 have hp:=(hR i hi).2.2.1;have hp2:((σ i).up:Int)<N:=by omega
 have hg:=(hR _ hp).2.2.1;have a2:=h.nodes.c2 i hi;have b2:=h.nodes.c2 _ hp;have hfz:=h.nodes.frozen;have hR1:=hR.rot1 hi;have hs:=vL σ i;have hs' :=vL σ (σ i).up;have hR2:InR N (uP σ i):=hR1.hang hp (hR1.kid hi _);have hR3:InR N (dB σ i):=hR2.hang hi hp;have HR:=qA hR;clear hR;have HR1:=qA hR1;clear hR1;have HR2:=qA hR2;clear hR2;have HR3:=qA hR3;clear hR3;have Q:=qA (zH (zH q0 q1) (zH q2 q3));clear q0 q1 q2 q3;have Hst:=qA (h.st2 (Fr.refl _ _) hi (σ (σ i).up).up);have hr1t:(bD σ (σ i).up).2=true->rot1 σ i=hang σ (σ (σ i).up).up (bD σ (σ i).up).1 i:=fun e=>by unfold rot1;rw[qD e]
 have hr1f:(bD σ (σ i).up).2=false->rot1 σ i=σ.upd i { σ i with up:=(σ (σ i).up).up }:=fun e=>by unfold rot1;rw[qC (by simp[e])]
 have Hr1t:=qA hr1t;clear hr1t;have Hr1f:=qA hr1f;clear hr1f;have Hr2:=qA (show uP σ i=hang (rot1 σ i) (σ i).up (bD σ i).1 (kid (rot1 σ i i) (1-(bD σ i).1)) from rfl);have Hr3:=qA (show dB σ i=hang (uP σ i) i (1-(bD σ i).1) (σ i).up from rfl);have s1:=pL h i hi HR.out;have s2:=pL h (σ i).up hp HR.out;have hh:=fun s (hs:s<2)=>jY h (σ (σ i).up).up s i hg hs hi;generalize hsi:bD σ i=si at *;generalize hsp:bD σ (σ i).up=sp at *;obtain⟨s,ok⟩:=si;obtain⟨s', b⟩:=sp;dsimp only at s1 s2 hs hs' Hr1t Hr1f Hr2 Hr3
 clear hsi hsp;have S1:=qA s1;clear s1;have S2:=qA s2;clear s2;have Hh:=qA (hh s' hs');clear hh hs';generalize hτ1:rot1 σ i=τ1 at *;generalize hτ2:uP σ i=τ2 at *;generalize hτ3:dB σ i=τ3 at *;have Hrot:=qA (show rotate σ i=refresh (refresh τ3 (σ i).up) i by rw[<-hτ3];rfl);clear hτ1 hτ2 hτ3;rcases(show s=0∨s=1 by omega) with rfl|rfl
 {
 have Hr2:=qA (show τ2=hang τ1 (σ i).up 0 (τ1 i).k1 from Hr2.out);have Hr3:=qA (show τ3=hang τ2 i 1 (σ i).up from Hr3.out);cases b with
 | true=>{
 have hr:=Hr1t.out rfl;have Hr:=qA hr;clear hr Hr1t Hr1f Hst;go_enter Tryz.func228,Tryz.ntmps228
 go_wp2_with fail
 refine S1.out.mono ?_;rintro _ _ ⟨rfl,rfl⟩;go_wp2_with fail
 refine S2.out.mono ?_;rintro _ _ ⟨rfl,rfl⟩;go_wp2_with fail
 refine Hh.out.mono ?_;rintro _ w1 ⟨rfl,hL1,hF1⟩;rw[<-Hr.out]at hL1;have k0:=hL1.nodes.c0 i hi;have k1:=hL1.nodes.c1 i hi;have u2:=hL1.nodes.c2 i hi;have hfz1:=hL1.nodes.frozen;have d1:=hL1.hd.cell 1;simp only[zI,zJ]at d1;go_wp2_with fail
 refine(jY hL1 (σ i).up 0 (τ1 i).k1 hp (by decide) (HR1.out i hi).2.1).mono ?_;rintro _ w2 ⟨rfl,hL2,hF2⟩;rw[<-Hr2.out]at hL2;clear hfz1 k0 k1 d1 hL1 u2;go_wp2_with fail
 refine(jY hL2 i 1 (σ i).up hi (by decide) hp).mono ?_;rintro _ w3 ⟨rfl,hL3,hF3⟩;rw[<-Hr3.out]at hL3;clear hL2;go_wp2_with fail
 refine(dV hL3 (σ i).up hp HR3.out Q.out.1.1 Q.out.1.2).mono ?_;rintro _ w4 ⟨rfl,hL4,hF4⟩;clear hL3;go_wp2_with fail
 refine(dV hL4 i hi (HR3.out.refresh hp Q.out.1.1 Q.out.1.2) (by rw[aL.1];exact Q.out.2.1) (by rw[aL.2.1];exact Q.out.2.2)).mono ?_;rintro _ w5 ⟨rfl,hL5,hF5⟩;clear hL4;go_wp2
 go_end0
 rw[<-Hrot.out]at hL5;exact⟨rfl,hL5,hF1.then (hF2.then (hF3.then (hF4.then hF5)))⟩}
 | false=>{
 have hr:=Hr1f.out rfl;have hst:=Hst.out;rw[<-hr]at hst;obtain⟨hL1,hF1⟩:=hst;clear hr Hr1t Hr1f Hst;go_enter Tryz.func228,Tryz.ntmps228
 go_wp2_with fail
 refine S1.out.mono ?_;rintro _ _ ⟨rfl,rfl⟩;go_wp2_with fail
 refine S2.out.mono ?_;rintro _ _ ⟨rfl,rfl⟩;have k0:=hL1.nodes.c0 i hi;have k1:=hL1.nodes.c1 i hi;have u2:=hL1.nodes.c2 i hi;have hfz1:=hL1.nodes.frozen;have d1:=hL1.hd.cell 1;simp only[zI,zJ]at d1;go_wp2_with fail
 refine(jY hL1 (σ i).up 0 (τ1 i).k1 hp (by decide) (HR1.out i hi).2.1).mono ?_;rintro _ w2 ⟨rfl,hL2,hF2⟩;rw[<-Hr2.out]at hL2;clear hfz1 k0 k1 d1 hL1 u2;go_wp2_with fail
 refine(jY hL2 i 1 (σ i).up hi (by decide) hp).mono ?_;rintro _ w3 ⟨rfl,hL3,hF3⟩;rw[<-Hr3.out]at hL3;clear hL2;go_wp2_with fail
 refine(dV hL3 (σ i).up hp HR3.out Q.out.1.1 Q.out.1.2).mono ?_;rintro _ w4 ⟨rfl,hL4,hF4⟩;clear hL3;go_wp2_with fail
 refine(dV hL4 i hi (HR3.out.refresh hp Q.out.1.1 Q.out.1.2) (by rw[aL.1];exact Q.out.2.1) (by rw[aL.2.1];exact Q.out.2.2)).mono ?_;rintro _ w5 ⟨rfl,hL5,hF5⟩;clear hL4;go_wp2
 go_end0
 rw[<-Hrot.out]at hL5;exact⟨rfl,hL5,hF1.then (hF2.then (hF3.then (hF4.then hF5)))⟩}}
 {
 have Hr2:=qA (show τ2=hang τ1 (σ i).up 1 (τ1 i).k0 from Hr2.out);have Hr3:=qA (show τ3=hang τ2 i 0 (σ i).up from Hr3.out);cases b with
 | true=>{
 have hr:=Hr1t.out rfl;have Hr:=qA hr;clear hr Hr1t Hr1f Hst;go_enter Tryz.func228,Tryz.ntmps228
 go_wp2_with fail
 refine S1.out.mono ?_;rintro _ _ ⟨rfl,rfl⟩;go_wp2_with fail
 refine S2.out.mono ?_;rintro _ _ ⟨rfl,rfl⟩;go_wp2_with fail
 refine Hh.out.mono ?_;rintro _ w1 ⟨rfl,hL1,hF1⟩;rw[<-Hr.out]at hL1;have k0:=hL1.nodes.c0 i hi;have k1:=hL1.nodes.c1 i hi;have u2:=hL1.nodes.c2 i hi;have hfz1:=hL1.nodes.frozen;have d1:=hL1.hd.cell 1;simp only[zI,zJ]at d1;go_wp2_with fail
 refine(jY hL1 (σ i).up 1 (τ1 i).k0 hp (by decide) (HR1.out i hi).1).mono ?_;rintro _ w2 ⟨rfl,hL2,hF2⟩;rw[<-Hr2.out]at hL2;clear hfz1 k0 k1 d1 hL1 u2;go_wp2_with fail
 refine(jY hL2 i 0 (σ i).up hi (by decide) hp).mono ?_;rintro _ w3 ⟨rfl,hL3,hF3⟩;rw[<-Hr3.out]at hL3;clear hL2;go_wp2_with fail
 refine(dV hL3 (σ i).up hp HR3.out Q.out.1.1 Q.out.1.2).mono ?_;rintro _ w4 ⟨rfl,hL4,hF4⟩;clear hL3;go_wp2_with fail
 refine(dV hL4 i hi (HR3.out.refresh hp Q.out.1.1 Q.out.1.2) (by rw[aL.1];exact Q.out.2.1) (by rw[aL.2.1];exact Q.out.2.2)).mono ?_;rintro _ w5 ⟨rfl,hL5,hF5⟩;clear hL4;go_wp2
 go_end0
 rw[<-Hrot.out]at hL5;exact⟨rfl,hL5,hF1.then (hF2.then (hF3.then (hF4.then hF5)))⟩}
 | false=>{
 have hr:=Hr1f.out rfl;have hst:=Hst.out;rw[<-hr]at hst;obtain⟨hL1,hF1⟩:=hst;clear hr Hr1t Hr1f Hst;go_enter Tryz.func228,Tryz.ntmps228
 go_wp2_with fail
 refine S1.out.mono ?_;rintro _ _ ⟨rfl,rfl⟩;go_wp2_with fail
 refine S2.out.mono ?_;rintro _ _ ⟨rfl,rfl⟩;have k0:=hL1.nodes.c0 i hi;have k1:=hL1.nodes.c1 i hi;have u2:=hL1.nodes.c2 i hi;have hfz1:=hL1.nodes.frozen;have d1:=hL1.hd.cell 1;simp only[zI,zJ]at d1;go_wp2_with fail
 refine(jY hL1 (σ i).up 1 (τ1 i).k0 hp (by decide) (HR1.out i hi).1).mono ?_;rintro _ w2 ⟨rfl,hL2,hF2⟩;rw[<-Hr2.out]at hL2;clear hfz1 k0 k1 d1 hL1 u2;go_wp2_with fail
 refine(jY hL2 i 0 (σ i).up hi (by decide) hp).mono ?_;rintro _ w3 ⟨rfl,hL3,hF3⟩;rw[<-Hr3.out]at hL3;clear hL2;go_wp2_with fail
 refine(dV hL3 (σ i).up hp HR3.out Q.out.1.1 Q.out.1.2).mono ?_;rintro _ w4 ⟨rfl,hL4,hF4⟩;clear hL3;go_wp2_with fail
 refine(dV hL4 i hi (HR3.out.refresh hp Q.out.1.1 Q.out.1.2) (by rw[aL.1];exact Q.out.2.1) (by rw[aL.2.1];exact Q.out.2.2)).mono ?_;rintro _ w5 ⟨rfl,hL5,hF5⟩;clear hL4;go_wp2
 go_end0
 rw[<-Hrot.out]at hL5;exact⟨rfl,hL5,hF1.then (hF2.then (hF3.then (hF4.then hF5)))⟩}}
inductive BT where
  | nil
  | node (f:Bool) (l:BT) (v:Nat) (r:BT)
namespace BT
def root:BT->Nat
  | nil=>0
  | node _ _ v _=>v
def nodes:BT->List Nat
  | nil=>[]
  | node _ l v r=>l.nodes++v::r.nodes
def seq:BT->List Nat
  | nil=>[]
  | node f l v r=>if f then(l.seq++v::r.seq).reverse else l.seq++v::r.seq
def flip:BT->BT
  | nil=>nil
  | node f l v r=>node (!f) l v r
theorem seq_flip(t:BT):t.flip.seq=t.seq.reverse:=by
 cases t with
 | nil=>rfl
 | node f l v r=>cases f<;>simp[flip,seq]
theorem nodes_flip(t:BT):t.flip.nodes=t.nodes:=by cases t<;>rfl
theorem root_flip(t:BT):t.flip.root=t.root:=by cases t<;>rfl
theorem seq_perm(t:BT):t.seq.Perm t.nodes:=by
 induction t with
 | nil=>exact .nil
 | node f l v r hl hr=>{
 have h:(l.seq++v::r.seq).Perm (l.nodes++v::r.nodes):=hl.append (hr.cons v);cases f with
 | false=>simpa[seq,nodes] using h
 | true=>simp only[seq,nodes,if_true];exact(List.reverse_perm _).trans h}
theorem root_mem{t:BT}(h:t.root≠0):t.root∈t.nodes:=by
 cases t with
 | nil=>exact absurd rfl h
 | node f l v r=>simp[root,nodes]
end BT
def tot(σ:Tbl)(l:List Nat):Int:=(l.map fun v=>1+(σ v).light).sum
def eJ(σ:Tbl)(l:List Nat)(x:Nat):Prop:=x∈l/\∀y∈l,y≠x->bQ σ x y=true
def Rep(σ:Tbl):BT->Nat->Prop
  | .nil,_=>True
  | .node f l v r,u=>(v≠0/\(σ v).up=u/\(σ v).flip=f/\(σ v).k0=l.root/\(σ v).k1=r.root)/\Rep σ l v/\Rep σ r v /\
      (σ v).size=wrap64 (BT.node f l v r).nodes.length/\(σ v).total=wrap64 (tot σ (BT.node f l v r).nodes)/\eJ σ (BT.node f l v r).nodes (σ v).first
theorem bZ{σ σ' :Tbl}{l:List Nat}(h:∀x∈l,(σ' x).light=(σ x).light):tot σ' l=tot σ l:=by
 unfold tot;congr 1;exact List.map_congr_left (fun x hx=>by rw[h x hx])
theorem lA{σ:Tbl}{l m:List Nat}(h:l.Perm m):tot σ l=tot σ m:=by
 unfold tot;induction h with
 | nil=>rfl
 | cons x _ ih=>simp[ih]
 | swap x y l=>simp;omega
 | trans _ _ h1 h2=>exact h1.trans h2
theorem dE{σ σ' :Tbl}{l:List Nat}{x:Nat}(h:∀x∈l,(σ' x).key=(σ x).key)(hb:eJ σ l x):eJ σ' l x:=by
 refine⟨hb.1,fun y hy hne=>?_⟩;have:=hb.2 y hy hne;unfold bQ at this ⊢;rw[h x hb.1,h y hy];exact this
theorem Rep.congr{σ σ' :Tbl}:∀{t:BT} {u:Nat},(∀x∈t.nodes,σ' x=σ x)->Rep σ t u->Rep σ' t u
  | .nil,_,_,_=>trivial
  | .node f l v r,u,h,⟨h1,hl,hr,h2,h3,h4⟩=>by
    have hv:=h v (by simp[BT.nodes]);refine⟨by rw[hv];exact h1,hl.congr (fun x hx=>h x (by simp[BT.nodes,hx])),hr.congr (fun x hx=>h x (by simp[BT.nodes,hx])),by rw[hv];exact h2,?_,?_⟩
    · rw[hv,bZ (fun x hx=>by rw[h x hx])];exact h3
    · rw[hv];exact dE (fun x hx=>by rw[h x hx]) h4
theorem Rep.reup{σ σ' :Tbl}{t:BT}{u u' :Nat}(h:Rep σ t u)(hnd:t.nodes.Nodup)(ho:∀x∈t.nodes,x≠t.root->σ' x=σ x)(hr:t.root≠0->σ' t.root={ σ t.root with up:=u' }):Rep σ' t u' :=by
 cases t with
 | nil=>trivial
 | node f l v r=>{
 obtain⟨h1,hl,hrr,h2,h3,h4⟩:=h;have hv:σ' v={ σ v with up:=u' }:=hr h1.1;have hnl:∀x∈l.nodes,x≠v:=by {
 intro x hx e;subst e;simp only[BT.nodes]at hnd;exact(qM.1 hnd).2.2 x hx x (by simp) rfl};have hnr:∀x∈r.nodes,x≠v:=by {
 intro x hx e;subst e;simp only[BT.nodes]at hnd;exact(qN.1 (qM.1 hnd).2.1).1 hx};have hlk:∀x∈(BT.node f l v r).nodes,(σ' x).light=(σ x).light/\(σ' x).key=(σ x).key:=by {
 intro x hx;by_cases e:x=v
 · subst e;rw[hv];exact⟨rfl,rfl⟩
 · rw[ho x hx e];exact⟨rfl,rfl⟩};refine⟨by rw[hv];exact⟨h1.1,rfl,h1.2.2⟩,hl.congr (fun x hx=>ho x (by simp[BT.nodes,hx]) (hnl x hx)),hrr.congr (fun x hx=>ho x (by simp[BT.nodes,hx]) (hnr x hx)),by rw[hv];exact h2,?_,?_⟩
 · rw[hv,bZ (fun x hx=>(hlk x hx).1)];exact h3
 · rw[hv];exact dE (fun x hx=>(hlk x hx).2) h4}
theorem tA(a b:Int):wrap64 (wrap64 a+wrap64 b)=wrap64 (a+b):=by unfold wrap64;omega
theorem xB{σ:Tbl}{x y:Nat}(h:x≠y):bQ σ x y= !bQ σ y x:=by
 unfold bQ;by_cases h1:(σ x).key<(σ y).key
 {
 have h2:¬(σ y).key<(σ x).key:=by omega
 have h3:¬(σ y).key=(σ x).key:=by omega
 simp[h1,h2,h3]}
 {
 by_cases h2:(σ y).key<(σ x).key
 {
 have h3:¬(σ x).key=(σ y).key:=by omega
 simp[h1,h2,h3]}
 {
 have h3:(σ x).key=(σ y).key:=by omega
 by_cases h4:x<y
 {
 have:¬y<x:=by omega
 simp[h3,h4,this]}
 {
 have:y<x:=by omega
 simp[h3,h4,this]}}}
theorem oF{σ:Tbl}{x y z:Nat}(h1:bQ σ x y=true)(h2:bQ σ y z=true):bQ σ x z=true:=by
 unfold bQ at *;simp only[Bool.or_eq_true,qW,decide_eq_true_eq]at *;omega
theorem aFX{σ:Tbl}{l m:List Nat}{x y:Nat}(hx:eJ σ l x)(hy:eJ σ m y):eJ σ (l++m) (if bQ σ y x then y else x):=by
 by_cases hb:bQ σ y x=true
 {
 rw[qD hb];refine⟨by simp[hy.1],fun z hz hne=>?_⟩;rcases qE.1 hz with hz|hz
 {
 by_cases e:z=x
 · rw[e];exact hb
 · exact oF hb (hx.2 z hz e)}
 · exact hy.2 z hz hne}
 {
 rw[qC hb];refine⟨by simp[hx.1],fun z hz hne=>?_⟩;rcases qE.1 hz with hz|hz
 · exact hx.2 z hz hne
 {
 by_cases e:x=y
 · exact hy.2 z hz (by rw[<-e];exact hne) |> fun h=>by rw[e];exact h
 {
 have hxy:bQ σ x y=true:=by rw[xB e];simpa using hb
 by_cases e' :z=y
 · rw[e'];exact hxy
 · exact oF hxy (hy.2 z hz e')}}}
theorem iZ{σ:Tbl}{l m:List Nat}{x:Nat}(h:l.Perm m)(hx:eJ σ l x):eJ σ m x:=
  ⟨h.mem_iff.1 hx.1,fun y hy=>hx.2 y (h.mem_iff.2 hy)⟩
theorem tB{σ:Tbl}{i:Nat}{k:BT}{l:List Nat}(hi:i∉k.nodes)(hk:Rep σ k i)(hsz:(σ i).size=wrap64 l.length)(htot:(σ i).total=wrap64 (tot σ l))(hb:eJ σ l (σ i).first):
    (bA σ i k.root i).size=wrap64 (l++k.nodes).length/\(bA σ i k.root i).total=wrap64 (tot σ (l++k.nodes))/\eJ σ (l++k.nodes) (bA σ i k.root i).first:=by
 cases k with
 | nil=>simpa[bA,BT.root,BT.nodes] using ⟨hsz,htot,hb⟩
 | node f a v b=>{
 obtain⟨h1,_,_,h2,h3,h4⟩:=hk;have hvi:v≠i:=by rintro rfl;exact hi (by simp[BT.nodes])
 have hj:=aFX hb h4;have hbef:∀τ:Tbl,(∀x,(τ x).key=(σ x).key)->∀x y,bQ τ x y=bQ σ x y:=by intro τ hτ x y;unfold bQ;rw[hτ,hτ]
 have hfirst:(bA σ i v i).first=if bQ σ (σ v).first (σ i).first then(σ v).first else(σ i).first:=by {
 unfold bA;rw[qC h1.1];simp only[aM,aJ hvi];rw[hbef _ (fun x=>by by_cases e:x=i<;>simp[Tbl.upd,e])];split<;>simp[aM]};have hsize:(bA σ i v i).size=wrap64 ((σ i).size+(σ v).size)/\(bA σ i v i).total=wrap64 ((σ i).total+(σ v).total):=by {
 unfold bA;rw[qC h1.1];simp only[aM,aJ hvi];split<;>simp[aM]};show(bA σ i v i).size=_/\(bA σ i v i).total=_/\eJ σ _ (bA σ i v i).first
 refine⟨?_,?_,?_⟩
 · rw[hsize.1,hsz,h2,tA,zE,Int.natCast_add]
 · rw[hsize.2,htot,h3,tA];unfold tot;rw[List.map_append,List.sum_append]
 · rw[hfirst];exact hj}
theorem dO{σ:Tbl}{f:Bool}{l r:BT}{v u:Nat}(hv:v≠0)(hup:(σ v).up=u)(hf:(σ v).flip=f)(h0:(σ v).k0=l.root)(h1:(σ v).k1=r.root)(hl:Rep σ l v)(hr:Rep σ r v)(nl:v∉l.nodes)(nr:v∉r.nodes):
    Rep (refresh σ v) (.node f l v r) u:=by
 have hlk:=@aL σ v v;have hc:∀x,x≠v->refresh σ v x=σ x:=fun x hx=>cS hx;have key:(refresh σ v v).size=wrap64 (([v]++l.nodes)++r.nodes).length/\(refresh σ v v).total=wrap64 (tot σ (([v]++l.nodes)++r.nodes))/\eJ σ (([v]++l.nodes)++r.nodes) (refresh σ v v).first:=by {
 have a:=tB (σ:=dL σ v) (i:=v) (k:=l) (l:=[v]) nl (hl.congr (fun x hx=>by rw[dL,aJ (by rintro rfl;exact nl hx)])) (by simp[dL,aM,wrap64]) (by simp[dL,aM,tot]) (by simp[dL,aM,eJ]);have hk0:∀x,(dL σ v x).light=(σ x).light/\(dL σ v x).key=(σ x).key:=by {
 intro x;by_cases e:x=v
 · subst e;simp[dL,aM]
 · simp[dL,aJ e]};have hk1:∀x,(bA (dL σ v) v l.root x).light=(σ x).light/\(bA (dL σ v) v l.root x).key=(σ x).key:=by {
 intro x;have:=@gM (dL σ v) v l.root x;exact⟨this.2.2.2.2.2.trans (hk0 x).1,this.2.2.2.2.1.trans (hk0 x).2⟩};have b:=tB (σ:=bA (dL σ v) v l.root) (i:=v) (k:=r) (l:=[v]++l.nodes) nr (hr.congr (fun x hx=>by
   have:x≠v:=by rintro rfl;exact nr hx
   rw[fH this,dL,aJ this])) a.1 (by rw[a.2.1,bZ (fun x _=>(hk0 x).1),bZ (σ' :=bA (dL σ v) v l.root) (fun x _=>(hk1 x).1)]) (dE (fun x _=>by rw[(hk1 x).2,(hk0 x).2]) a.2.2)
 have e:refresh σ v=bA (bA (dL σ v) v l.root) v r.root:=by {
 show bA (bA (dL σ v) v (σ v).k0) v (σ v).k1=_
 rw[h0,h1]};rw[e];refine⟨b.1,?_,?_⟩
 · rw[b.2.1,bZ (fun x _=>(hk1 x).1)]
 · exact dE (fun x _=>((hk1 x).2).symm) b.2.2};have hp:(([v]++l.nodes)++r.nodes).Perm (l.nodes++v::r.nodes):=by {
 simp only[zB];exact List.perm_middle.symm};refine⟨⟨hv,by rw[hlk.2.2.1];exact hup,by rw[hlk.2.2.2.1];exact hf,by rw[hlk.1];exact h0,by rw[hlk.2.1];exact h1⟩,hl.congr (fun x hx=>hc x (by rintro rfl;exact nl hx)),hr.congr (fun x hx=>hc x (by rintro rfl;exact nr hx)),?_,?_,?_⟩
 · rw[key.1,hp.length_eq];rfl
 · rw[key.2.1,bZ (σ:=σ) (σ' :=refresh σ v) (fun x _=>aL.2.2.2.2.2),lA hp];rfl
 · exact dE (fun x _=>aL.2.2.2.2.1) (iZ hp key.2.2)
theorem oG{σ:Tbl}{i s k x:Nat}(hik:k≠i):hang σ i s k x=if x=i then aV (σ i) s k else if x=k/\k≠0 then { σ k with up:=i } else σ x:=by
 unfold hang;by_cases hk:k=0
 {
 simp only[qD hk];by_cases e:x=i
 · subst e;rw[aM,qD rfl]
 · rw[aJ e,qC e,qC (by simp[hk])]}
 {
 simp only[qC hk];by_cases e:x=k
 · subst e;rw[aM,qC hik,qD ⟨rfl,hk⟩,aJ hik]
 {
 rw[aJ e];by_cases e' :x=i
 · subst e'; rw[aM,qD rfl]
 · rw[aJ e', qC e', qC (by simp[e])]}}
theorem tC(n:Nd)(s k:Nat):kid (aV n s k) s=k:=by unfold kid aV;split<;>rfl
theorem mX{n:Nd}{s s' k:Nat}(hs:s<2)(hs' :s' < 2)(h:s' ≠ s):kid (aV n s k) s' =kid n s' :=by
 unfold kid aV;rcases(show s=0∨s=1 by omega) with rfl|rfl
 · rw[qC h,qC h];simp
 {
 obtain rfl:s' =0:=by omega
 simp}
theorem iJ(n:Nd)(s k:Nat):(aV n s k).up=n.up/\(aV n s k).flip=n.flip/\(aV n s k).key=n.key/\(aV n s k).size=n.size/\(aV n s k).first=n.first/\(aV n s k).light=n.light/\(aV n s k).total=n.total:=by
 unfold aV;split<;>simp
theorem aII(n:Nd)(s u:Nat):kid { n with up:=u } s=kid n s:=rfl
theorem aML{σ:Tbl}{i p g s s' :Nat}(_hs:s<2)(hp:(σ i).up=p)(hg:(σ p).up=g)(h1:bD σ i=(s,true))(h2:bD σ p=(s', true))(hpi:p≠i)(hgi:g≠i)(hgp:g≠p)(hi0:i≠0)(hp0:p≠0)
    (hki:kid (σ i) (1-s)≠i) (hkp:kid (σ i) (1-s)≠p) (hkg:kid (σ i) (1-s)≠g∨kid (σ i) (1-s)=0) (x:Nat):
    dB σ i x=if x=i then { aV (σ i) (1-s) p with up:=g } else if x=p then { aV (σ p) s (kid (σ i) (1-s)) with up:=i } else if x=g then aV (σ g) s' i else if x=kid (σ i) (1-s)/\kid (σ i) (1-s)≠0 then { σ x with up:=p } else σ x:=by
 have a1:∀x,rot1 σ i x=if x=g then aV (σ g) s' i else if x=i then { σ i with up:=g } else σ x:=by {
 intro x;unfold rot1;rw[hp,h2,hg,qD rfl,oG (fun e=>hgi e.symm)];by_cases e:x=g
 · rw[qD e,qD e]
 {
 rw[qC e,qC e];by_cases e' :x=i
 · rw[qD ⟨e', hi0⟩,qD e']
 · rw[qC (fun h=>e' h.1),qC e']}};have hk1:kid (rot1 σ i i) (1-s)=kid (σ i) (1-s):=by rw[a1,qC (fun e=>hgi e.symm),qD rfl,aII]
 generalize hk:kid (σ i) (1-s)=k at *;have a2:∀x,uP σ i x=if x=p then aV (σ p) s k else if x=k/\k≠0 then { rot1 σ i k with up:=p } else rot1 σ i x:=by {
 intro x;unfold uP;rw[hp,h1,hk1,oG hkp];have e:rot1 σ i p=σ p:=by rw[a1 p,qC (fun e=>hgp e.symm),qC hpi]
 rw[e]};unfold dB;rw[hp,h1,oG hpi];by_cases e1:x=i
 {
 subst e1;rw[qD rfl,qD rfl,a2,qC (fun e=>hpi e.symm),qC (fun h=>hki h.1.symm),a1,qC (fun e=>hgi e.symm),qD rfl];dsimp only;unfold aV;split<;>rfl}
 {
 rw[qC e1,qC e1];by_cases e2:x=p
 {
 subst e2;rw[qD ⟨rfl,hp0⟩,qD rfl,a2,qD rfl]}
 {
 rw[qC (fun h=>e2 h.1),qC e2,a2,qC e2];by_cases e3:x=k/\k≠0
 {
 have hxg:x≠g:=by {
 intro e;rcases hkg with h|h
 · exact h (e3.1.symm.trans e)
 · exact e3.2 h};rw[qD e3,qC hxg,qD e3,<-e3.1,a1,qC hxg,qC e1]}
 {
 rw[qC e3,a1];by_cases e4:x=g
 · rw[qD e4,qD e4]
 · rw[qC e4,qC e4,qC e1,qC e3]}}}
theorem aIJ{σ:Tbl}{i p g s s' :Nat}(_hs:s<2)(hp:(σ i).up=p)(hg:(σ p).up=g)(h1:bD σ i=(s,true))(h2:bD σ p=(s', false))(hpi:p≠i)(hi0:i≠0)(hp0:p≠0)
    (hki:kid (σ i) (1-s)≠i) (hkp:kid (σ i) (1-s)≠p) (x:Nat):
    dB σ i x=if x=i then { aV (σ i) (1-s) p with up:=g } else if x=p then { aV (σ p) s (kid (σ i) (1-s)) with up:=i } else if x=kid (σ i) (1-s)/\kid (σ i) (1-s)≠0 then { σ x with up:=p } else σ x:=by
 have a1:∀x,rot1 σ i x=if x=i then { σ i with up:=g } else σ x:=by {
 intro x;unfold rot1;rw[hp,h2,hg,qC (by simp)];rfl};have hk1:kid (rot1 σ i i) (1-s)=kid (σ i) (1-s):=by rw[a1,qD rfl,aII]
 generalize hk:kid (σ i) (1-s)=k at *;have a2:∀x,uP σ i x=if x=p then aV (σ p) s k else if x=k/\k≠0 then { rot1 σ i k with up:=p } else rot1 σ i x:=by {
 intro x;unfold uP;rw[hp,h1,hk1,oG hkp];have e:rot1 σ i p=σ p:=by rw[a1 p,qC hpi]
 rw[e]};unfold dB;rw[hp,h1,oG hpi];by_cases e1:x=i
 {
 subst e1;rw[qD rfl,qD rfl,a2,qC (fun e=>hpi e.symm),qC (fun h=>hki h.1.symm),a1,qD rfl];dsimp only;unfold aV;split<;>rfl}
 {
 rw[qC e1,qC e1];by_cases e2:x=p
 {
 subst e2;rw[qD ⟨rfl,hp0⟩,qD rfl,a2,qD rfl]}
 {
 rw[qC (fun h=>e2 h.1),qC e2,a2,qC e2];by_cases e3:x=k/\k≠0
 · rw[qD e3,qD e3,<-e3.1,a1,qC e1]
 · rw[qC e3,a1,qC e1,qC e3]}}
structure Fm where
  s:Bool
  f:Bool
  p:Nat
  o:BT
def Fm.fill(a:Fm)(t:BT):BT:=if a.s then .node a.f a.o a.p t else .node a.f t a.p a.o
def aZ:List Fm->BT->BT
  | [],t=>t
  | a::c,t=>aZ c (a.fill t)
def oH:List Fm->Nat->Nat
  | [],u=>u
  | a::_,_=>a.p
def sd(b:Bool):Nat:=if b then 1 else 0
def nJ(σ:Tbl):List Fm->Nat->List Nat->Nat->Prop
  | [],_,_,_=>True
  | a::c,x,ns,u=>(a.p≠0/\(σ a.p).up=oH c u/\(σ a.p).flip=a.f/\kid (σ a.p) (sd a.s)=x/\kid (σ a.p) (sd !a.s)=a.o.root)/\Rep σ a.o a.p /\
      ((σ a.p).size=wrap64 (ns++a.p::a.o.nodes).length/\(σ a.p).total=wrap64 (tot σ (ns++a.p::a.o.nodes))/\eJ σ (ns++a.p::a.o.nodes) (σ a.p).first)/\nJ σ c a.p (ns++a.p::a.o.nodes) u
theorem jA(a:Fm)(t:BT):(a.fill t).nodes.Perm (t.nodes++a.p::a.o.nodes):=by
 unfold Fm.fill;cases a.s with
 | false=>exact .refl _
 | true=>{
 simp only[if_true,BT.nodes];refine List.perm_middle.trans (((List.perm_append_comm).cons a.p).trans List.perm_middle.symm)}
theorem jB(a:Fm)(t:BT):(a.fill t).root=a.p:=by unfold Fm.fill;split<;>rfl
theorem nJ.perm{σ:Tbl}:∀{c:List Fm} {x:Nat} {ns ms:List Nat} {u:Nat},ns.Perm ms->nJ σ c x ns u->nJ σ c x ms u
  | [],_,_,_,_,_,_=>trivial
  | a::c,x,ns,ms,u,hp,⟨h1,h2,⟨h3,h4,h5⟩,h6⟩=>by
    have hq:(ns++a.p::a.o.nodes).Perm (ms++a.p::a.o.nodes):=hp.append_right _;exact⟨h1,h2,⟨by rw[h3,hq.length_eq],by rw[h4,lA hq],iZ hq h5⟩,h6.perm hq⟩
theorem aIK{σ:Tbl}{a:Fm}{t:BT}{u:Nat}:Rep σ (a.fill t) u↔Rep σ t a.p/\(a.p≠0/\(σ a.p).up=u/\(σ a.p).flip=a.f/\kid (σ a.p) (sd a.s)=t.root/\kid (σ a.p) (sd !a.s)=a.o.root)/\Rep σ a.o a.p /\
      ((σ a.p).size=wrap64 (t.nodes++a.p::a.o.nodes).length/\(σ a.p).total=wrap64 (tot σ (t.nodes++a.p::a.o.nodes))/\eJ σ (t.nodes++a.p::a.o.nodes) (σ a.p).first):=by
 have hp:=jA a t;obtain⟨s,f,p,o⟩:=a;cases s with
 | false=>{
 simp only[Fm.fill,Rep,kid,sd,Bool.not_false,if_true,Bool.false_eq_true,if_false,BT.nodes,Nat.one_ne_zero];constructor
 · rintro⟨⟨a1,a2,a3,a4,a5⟩,b,c,d⟩;exact⟨b,⟨a1,a2,a3,a4,a5⟩,c,d⟩
 · rintro⟨b,⟨a1,a2,a3,a4,a5⟩,c,d⟩;exact⟨⟨a1,a2,a3,a4,a5⟩,b,c,d⟩}
 | true=>{
 simp only[Fm.fill,if_true,BT.nodes]at hp;simp only[Fm.fill,Rep,kid,sd,Bool.not_true,if_true,Bool.false_eq_true,if_false,BT.nodes,Nat.one_ne_zero];rw[hp.length_eq,lA hp];constructor
 · rintro⟨⟨a1,a2,a3,a4,a5⟩,b,c,d,e,g⟩;exact⟨c,⟨a1,a2,a3,a5,a4⟩,b,d,e,iZ hp g⟩
 · rintro⟨c,⟨a1,a2,a3,a5,a4⟩,b,d,e,g⟩;exact⟨⟨a1,a2,a3,a4,a5⟩,b,c,d,e,iZ hp.symm g⟩}
theorem eN{σ:Tbl}:∀{c:List Fm} {t:BT} {u:Nat},Rep σ (aZ c t) u↔Rep σ t (oH c u)/\nJ σ c t.root t.nodes u
  | [],t,u=>by simp[aZ,oH,nJ]
  | a::c,t,u=>by
    simp only[aZ,oH,nJ];rw[eN,aIK,jB];constructor
    · rintro⟨⟨h1,h2,h3,h4⟩,h5⟩;exact⟨h1,h2,h3,h4,h5.perm (jA a t)⟩
    · rintro⟨h1,h2,h3,h4,h5⟩;exact⟨⟨h1,h2,h3,h4⟩,h5.perm (jA a t).symm⟩
def bB:List Fm->List Nat
  | []=>[]
  | a::c=>a.p::a.o.nodes++bB c
def Out(σ:Tbl)(u:Nat)(ns:List Nat):Prop:=u=0∨(u∉ns/\(σ u).k0∉ns/\(σ u).k1∉ns)
theorem vM(b:Bool):sd b<2:=by cases b<;>decide
theorem gN{σ:Tbl}{i p o:Nat}{s:Bool}(_hi:i≠0)(hp:p≠0)(hup:(σ i).up=p)(h1:kid (σ p) (sd s)=i)(h2:kid (σ p) (sd !s)=o)(ho:o≠i):bD σ i=(sd s,true):=by
 unfold bD;rw[hup,qC hp];cases s with
 | false=>simp only[sd,kid]at h1;rw[qD (by simpa using h1)];rfl
 | true=>{
 simp[sd,kid]at h1 h2;rw[qC (by rw[h2];exact ho),qD h1];rfl}
theorem tD{σ:Tbl}{i u:Nat}{ns:List Nat}(hup:(σ i).up=u)(h:Out σ u ns)(hi:i∈ns):bD σ i=(0,false):=by
 unfold bD;rw[hup];rcases h with h|⟨_,h0,h1⟩
 · rw[qD h]
 {
 by_cases e:u=0
 · rw[qD e]
 · rw[qC e,qC (by rintro rfl;exact h0 hi),qC (by rintro rfl;exact h1 hi)]}
def uQ(a:Fm)(l:BT)(i:Nat)(r:BT):BT:=if a.s then .node false (.node false a.o a.p l) i r else .node false l i (.node false r a.p a.o)
theorem aIL(a:Fm)(hf:a.f=false)(l:BT)(i:Nat)(r:BT):(uQ a l i r).seq=(a.fill (.node false l i r)).seq:=by
 obtain⟨s,f,p,o⟩:=a;subst hf;cases s<;>simp[uQ,Fm.fill,BT.seq]
theorem tE(a:Fm)(l:BT)(i:Nat)(r:BT):(uQ a l i r).nodes=(a.fill (.node false l i r)).nodes:=by
 obtain⟨s,f,p,o⟩:=a;cases s<;>simp[uQ,Fm.fill,BT.nodes]
theorem jC:∀(c:List Fm) {t t' :BT},t.seq=t'.seq->(aZ c t).seq=(aZ c t').seq
  | [],_,_,h=>h
  | a::c,t,t', h=>jC c (by unfold Fm.fill;split<;>simp[BT.seq,h])
theorem bK:∀(c:List Fm) (t:BT),(aZ c t).nodes.Perm (t.nodes++bB c)
  | [],t=>by simp[aZ,bB]
  | a::c,t=>by
    refine(bK c (a.fill t)).trans ?_;simp only[bB];have:=(jA a t).append_right (bB c);simpa using this
theorem Rep.ne0{σ:Tbl}:∀{t:BT} {u x:Nat},Rep σ t u->x∈t.nodes->x≠0
  | .nil,_,_,_,hx=>by cases hx
  | .node f l v r,u,x,⟨h1,hl,hr,_⟩,hx=>by
    simp only[BT.nodes,qE,qB]at hx;rcases hx with hx|rfl|hx
    · exact hl.ne0 hx
    · exact h1.1
    · exact hr.ne0 hx
theorem nJ.congr{σ σ' :Tbl}:∀{c:List Fm} {x:Nat} {ns:List Nat} {u:Nat},(∀y∈bB c,σ' y=σ y)->(∀y∈ns,(σ' y).light=(σ y).light/\(σ' y).key=(σ y).key)->nJ σ c x ns u->nJ σ' c x ns u
  | [],_,_,_,_,_,_=>trivial
  | a::c,x,ns,u,hc,hn,⟨h1,h2,⟨h3,h4,h5⟩,h6⟩=>by
    have hp:σ' a.p=σ a.p:=hc a.p (by simp[bB]);have ho:∀y∈a.o.nodes,σ' y=σ y:=fun y hy=>hc y (by simp[bB,hy]);have hlk:∀y∈ns++a.p::a.o.nodes,(σ' y).light=(σ y).light/\(σ' y).key=(σ y).key:=by
      intro y hy;simp only[qE,qB]at hy;rcases hy with hy|rfl|hy
      · exact hn y hy
      · rw[hp];exact⟨rfl,rfl⟩
      · rw[ho y hy];exact⟨rfl,rfl⟩
    refine⟨by rw[hp];exact h1,h2.congr ho,⟨by rw[hp];exact h3,by rw[hp,bZ (fun y hy=>(hlk y hy).1)];exact h4,by rw[hp];exact dE (fun y hy=>(hlk y hy).2) h5⟩,?_⟩;exact h6.congr (fun y hy=>hc y (by simp[bB,hy])) hlk
theorem nJ.move{σ σ' :Tbl}{a:Fm}{c:List Fm}{x x' :Nat}{ns:List Nat}{u:Nat}(h:nJ σ (a::c) x ns u)(hp:σ' a.p=aV (σ a.p) (sd a.s) x')(hn:∀y∈ns,(σ' y).light=(σ y).light/\(σ' y).key=(σ y).key)
    (ho:∀y∈a.o.nodes++bB c,σ' y=σ y):nJ σ' (a::c) x' ns u:=by
 obtain⟨⟨h1,h1a,h1b,h1c,h1d⟩,h2,⟨h3,h4,h5⟩,h6⟩:=h;have hr:=iJ (σ a.p) (sd a.s) x';have hlk:∀y∈ns++a.p::a.o.nodes,(σ' y).light=(σ y).light/\(σ' y).key=(σ y).key:=by {
 intro y hy;simp only[qE,qB]at hy;rcases hy with hy|rfl|hy
 · exact hn y hy
 · rw[hp];exact⟨hr.2.2.2.2.2.1,hr.2.2.1⟩
 · rw[ho y (by simp[hy])];exact⟨rfl,rfl⟩};refine⟨⟨h1,by rw[hp,hr.1];exact h1a,by rw[hp,hr.2.1];exact h1b,by rw[hp,tC],?_⟩,h2.congr (fun y hy=>ho y (by simp[hy])),⟨by rw[hp,hr.2.2.2.1];exact h3,?_,?_⟩,?_⟩
 · rw[hp,mX (vM _) (vM _) (by cases a.s<;>decide)];exact h1d
 · rw[hp,hr.2.2.2.2.2.2,bZ (fun y hy=>(hlk y hy).1)];exact h4
 · rw[hp,hr.2.2.2.2.1];exact dE (fun y hy=>(hlk y hy).2) h5
 · exact h6.congr (fun y hy=>ho y (by simp[hy])) hlk
structure cQ (σ σ' :Tbl) (ns:List Nat):Prop where
  other:∀x,x∉ns->σ' x=σ x
  lk:∀x,(σ' x).light=(σ x).light/\(σ' x).key=(σ x).key
theorem nK{σ:Tbl}{a:Fm}{c:List Fm}{l r:BT}{i u:Nat}(h:Rep σ (aZ (a::c) (.node false l i r)) u)(haf:a.f=false)(hnd:(aZ (a::c) (.node false l i r)).nodes.Nodup)
    (hO:Out σ u (aZ (a::c) (.node false l i r)).nodes):
    Rep (rotate σ i) (aZ c (uQ a l i r)) u/\cQ σ (rotate σ i) (aZ (a::c) (.node false l i r)).nodes /\
      ((dB σ i (σ i).up).k0≠(σ i).up/\(dB σ i (σ i).up).k1≠(σ i).up/\(dB σ i i).k0≠i/\(dB σ i i).k1≠i):=by
  have hpm:=bK (a::c) (.node false l i r);have hnd' :=hpm.nodup_iff.1 hnd;have hmem:∀x,x∈(aZ (a::c) (.node false l i r)).nodes↔x∈(BT.node false l i r).nodes++bB (a::c):=fun x=>hpm.mem_iff;have hall0:∀x,x∈(aZ (a::c) (.node false l i r)).nodes->x≠0:=fun x hx=>h.ne0 hx;obtain⟨hT,hC⟩:=eN.1 h;generalize hNS:(aZ (a::c) (BT.node false l i r)).nodes=NS at *;obtain⟨s,f,p,o⟩:=a;dsimp only at haf;subst haf
  obtain⟨⟨hi0,hiu,hif,hik0,hik1⟩,hl,hr,_⟩:=hT;obtain⟨⟨hp0,hpu,hpf,hpk,hpo⟩,hRo,_,hC'⟩:=id hC;simp only[oH]at hiu hl hr;dsimp only at hp0 hpu hpf hpk hpo hRo hC'
  replace hpk:kid (σ p) (sd s)=i:=hpk;simp only[bB,BT.nodes,qM,qN,qE,qB,zB,List.append_assoc]at hnd' hmem;have dil:i∉l.nodes:=by grind
  have dir:i∉r.nodes:=by grind
  have dio:i∉o.nodes:=by grind
  have dic:i∉bB c:=by grind
  have dpi:p≠i:=by grind
  have dpl:p∉l.nodes:=by grind
  have dpr:p∉r.nodes:=by grind
  have dpo:p∉o.nodes:=by grind
  have dpc:p∉bB c:=by grind
  have ndl:l.nodes.Nodup:=by grind
  have ndr:r.nodes.Nodup:=by grind
  have dlr:∀x∈l.nodes,x∉r.nodes:=by grind
  have dlo:∀x∈l.nodes,x∉o.nodes:=by grind
  have dro:∀x∈r.nodes,x∉o.nodes:=by grind
  have dlc:∀x∈l.nodes,x∉bB c:=by grind
  have drc:∀x∈r.nodes,x∉bB c:=by grind
  have doc:∀x∈o.nodes,x∉bB c:=by grind
  have h1:bD σ i=(sd s,true):=by
    refine gN hi0 hp0 hiu hpk hpo ?_;intro e;by_cases h0:o.root=0
    · exact hi0 (e.symm.trans h0)
    · exact dio (e▸BT.root_mem h0)
  obtain⟨m,hm,hmn,hmr⟩:∃m:BT,m=(if s then l else r)/\(∀x∈m.nodes,x∈l.nodes∨x∈r.nodes)/\kid (σ i) (1-sd s)=m.root:=by
    cases s with
    | false=>exact⟨r,rfl,fun x hx=>.inr hx,by simpa[sd,kid] using hik1⟩
    | true=>exact⟨l,rfl,fun x hx=>.inl hx,by simpa[sd,kid] using hik0⟩
  have hRm:Rep σ m i:=by rw[hm];split<;>assumption
  have ndm:m.nodes.Nodup:=by rw[hm];split<;>assumption
  have hki:kid (σ i) (1-sd s)≠i:=by
    rw[hmr];intro e;have:=hmn _ (BT.root_mem (by rw[e];exact hi0));rw[e]at this;exact this.elim dil dir
  have hkp:kid (σ i) (1-sd s)≠p:=by
    rw[hmr];intro e;have:=hmn _ (BT.root_mem (by rw[e];exact hp0));rw[e]at this;exact this.elim dpl dpr
  have key:(∀x,x≠i->x≠p->(x≠m.root∨m.root=0)->(c=[]∨x≠oH c u)->dB σ i x=σ x)/\dB σ i i={ aV (σ i) (1-sd s) p with up:=oH c u }/\dB σ i p={ aV (σ p) (sd s) m.root with up:=i } /\
      (m.root≠0->dB σ i m.root={ σ m.root with up:=p })/\(∀b c', c=b::c' -> dB σ i b.p=aV (σ b.p) (sd b.s) i):=by
    cases c with
    | nil=>
      have h2:bD σ p=(0,false):=tD (ns:=NS) (by rw[hpu];rfl) hO ((hmem p).2 (by simp));have hx:=aIJ (vM s) hiu (by rw[hpu]) h1 h2 dpi hi0 hp0 hki hkp;rw[hmr]at hx hki hkp;refine⟨fun x e1 e2 e3 _=>?_,?_,?_,fun hm0=>?_,fun b c' e=>by cases e⟩
      · rw[hx,qC e1,qC e2,qC (fun h=>e3.elim (fun e=>e h.1) h.2)]
      · rw[hx,qD rfl]
      · rw[hx,qC dpi,qD rfl]
      · rw[hx,qC hki,qC hkp,qD ⟨rfl,hm0⟩]
    | cons b c' =>
      obtain⟨⟨hb0,hbu,hbf,hbk,hbo⟩,hRb,_,_⟩:=hC';simp only[oH]at hpu;have hbc:b.p∈bB (b::c'):=by simp[bB]
      have dbi:b.p≠i:=fun e=>dic (e▸hbc);have dbp:b.p≠p:=fun e=>dpc (e▸hbc);have h2:bD σ p=(sd b.s,true):=by
        refine gN hp0 hb0 hpu hbk hbo ?_;intro e;by_cases h0:b.o.root=0
        · exact hp0 (e.symm.trans h0)
        · exact dpc (by simp only[bB,zB,qB,qE];exact .inr (.inl (e▸BT.root_mem h0)))
      have hkg:kid (σ i) (1-sd s)≠b.p∨kid (σ i) (1-sd s)=0:=by
        rw[hmr];by_cases h0:m.root=0
        · exact .inr h0
        · refine .inl (fun e => ?_)
          have:=hmn _ (BT.root_mem h0);rw[e]at this;exact this.elim (fun h=>dlc _ h hbc) (fun h=>drc _ h hbc)
      have hx:=aML (vM s) hiu hpu h1 h2 dpi dbi dbp hi0 hp0 hki hkp hkg;rw[hmr]at hx hki hkp hkg;refine⟨fun x e1 e2 e3 e4=>?_,?_,?_,fun hm0=>?_,fun b' c'' e=>?_⟩
      · rw[hx,qC e1,qC e2,qC (show x≠b.p from e4.elim (fun h=>by cases h) id),qC (fun h=>e3.elim (fun e=>e h.1) h.2)]
      · rw[hx,qD rfl];rfl
      · rw[hx,qC dpi,qD rfl]
      · rw[hx,qC hki,qC hkp,qC (hkg.elim id (fun h=>absurd h hm0)),qD ⟨rfl,hm0⟩]
      · cases e;rw[hx,qC dbi,qC dbp,qD rfl]
  obtain⟨k1,k2,k3,k4,k5⟩:=key;have hupc:c=[]∨oH c u∈bB c:=by cases c with
    | nil=>exact .inl rfl
    | cons b c' =>right;simp[oH,bB]
  have dmi:∀x∈m.nodes,x≠i:=fun x hx e=>(hmn x hx).elim (fun h=>dil (e▸h)) (fun h=>dir (e▸h));have dmp:∀x∈m.nodes,x≠p:=fun x hx e=>(hmn x hx).elim (fun h=>dpl (e▸h)) (fun h=>dpr (e▸h));have dmc:∀x∈m.nodes,c=[]∨x≠oH c u:=fun x hx=>hupc.imp id (fun hc e=>(hmn x hx).elim (fun h=>dlc _ h (e▸hc)) (fun h=>drc _ h (e▸hc)));have hRm3:Rep (dB σ i) m p:=hRm.reup ndm (fun x hx hne=>k1 x (dmi x hx) (dmp x hx) (.inl hne) (dmc x hx)) k4;have hRo3:Rep (dB σ i) o p:=hRo.congr (fun x hx=>k1 x (fun e=>dio (e▸hx)) (fun e=>dpo (e▸hx)) (.inl (fun e=>by
    have h0:m.root≠0:=by rw[<-e];exact hRo.ne0 hx
    exact(hmn _ (BT.root_mem h0)).elim (fun h=>dlo _ h (e▸hx)) (fun h=>dro _ h (e▸hx)))) (hupc.imp id (fun hc e=>doc x hx (e▸hc))))
  have hsr:=iJ (σ p) (sd s) m.root;have hsi:=iJ (σ i) (1-sd s) p;have nmp:p∉m.nodes:=fun hx=>dmp p hx rfl;have hP:Rep (refresh (dB σ i) p) (if s then .node false o p m else .node false m p o) i:=by
    have hk:kid (dB σ i p) (sd s)=m.root/\kid (dB σ i p) (sd !s)=o.root:=by
      rw[k3];refine⟨tC _ _ _,?_⟩;show kid (aV _ _ _) _=_
      rw[mX (vM _) (vM _) (by cases s<;>decide)];exact hpo
    cases s with
    | false=>exact dO hp0 (by rw[k3]) (by rw[k3];exact hsr.2.1.trans hpf) (by simpa[sd,kid] using hk.1) (by simpa[sd,kid] using hk.2) hRm3 hRo3 nmp dpo
    | true=>exact dO hp0 (by rw[k3]) (by rw[k3];exact hsr.2.1.trans hpf) (by simpa[sd,kid] using hk.2) (by simpa[sd,kid] using hk.1) hRo3 hRm3 dpo nmp
  have r2:∀x,x≠p->refresh (dB σ i) p x=dB σ i x:=fun x hx=>cS hx;have hI:∀(e:BT),Rep σ e i->(∀x∈e.nodes,x∉m.nodes/\x≠i/\x≠p/\x∉bB c)->Rep (refresh (dB σ i) p) e i:=by
    intro e he hd;refine he.congr (fun x hx=>?_);obtain⟨d1,d2,d3,d4⟩:=hd x hx;rw[r2 x d3];refine k1 x d2 d3 (.inl (fun e' =>?_)) (hupc.imp id (fun hc e' =>d4 (e' ▸ hc)));exact d1 (e' ▸ BT.root_mem (by rw[<-e'];exact he.ne0 hx))
  have hT2:Rep (rotate σ i) (uQ ⟨s,false,p,o⟩ l i r) (oH c u):=by
    unfold rotate;rw[hiu];have hi3:refresh (dB σ i) p i={ aV (σ i) (1-sd s) p with up:=oH c u }:=by rw[r2 i dpi.symm,k2]
    cases s with
    | false=>
      simp only[Bool.false_eq_true,if_false]at hP hm;subst hm;refine dO hi0 (by rw[hi3]) (by rw[hi3];exact hsi.2.1.trans hif) (by rw[hi3];simpa[aV,sd] using hik0) (by rw[hi3];simp[aV,sd,BT.root]) (hI l hl (fun x hx=>⟨dlr x hx,fun e=>dil (e▸hx),fun e=>dpl (e▸hx),dlc x hx⟩)) hP dil ?_;simp only[BT.nodes,qE,qB,not_or];exact⟨dir,dpi.symm,dio⟩
    | true=>
      simp only[if_true]at hP hm;subst hm;refine dO hi0 (by rw[hi3]) (by rw[hi3];exact hsi.2.1.trans hif) (by rw[hi3];simp[aV,sd,BT.root]) (by rw[hi3];simpa[aV,sd] using hik1) hP (hI r hr (fun x hx=>⟨fun h=>dlr x h hx,fun e=>dir (e▸hx),fun e=>dpr (e▸hx),drc x hx⟩)) ?_ dir;simp only[BT.nodes,qE,qB,not_or];exact⟨dio,dpi.symm,dil⟩
  have hR:∀x,x≠i->x≠p->rotate σ i x=dB σ i x:=by
    intro x e1 e2;unfold rotate;rw[cS e1,hiu,cS e2]
  have hlk3:∀x,(dB σ i x).light=(σ x).light/\(dB σ i x).key=(σ x).key:=by
    intro x;by_cases e1:x=i
    · subst e1;rw[k2];exact⟨hsi.2.2.2.2.2.1,hsi.2.2.1⟩
    by_cases e2:x=p
    · subst e2;rw[k3];exact⟨hsr.2.2.2.2.2.1,hsr.2.2.1⟩
    by_cases e3:c=[]∨x≠oH c u
    · by_cases e4 : x ≠ m.root ∨ m.root = 0
      · rw[k1 x e1 e2 e4 e3];exact⟨rfl,rfl⟩
      · simp only [not_or, ne_eq, Classical.not_not] at e4
        rw[e4.1,k4 e4.2];exact⟨rfl,rfl⟩
    · cases c with
      | nil=>exact absurd (.inl rfl) e3
      | cons b c' =>
        have e4:x=b.p:=by
          apply qP;intro hne;exact e3 (.inr hne)
        rw[e4,k5 b c' rfl];have:=iJ (σ b.p) (sd b.s) i;exact⟨this.2.2.2.2.2.1,this.2.2.1⟩
  have hlk:∀x,(rotate σ i x).light=(σ x).light/\(rotate σ i x).key=(σ x).key:=by
    intro x;unfold rotate;have a:=@aL (refresh (dB σ i) (σ i).up) i x;have b:=@aL (dB σ i) (σ i).up x;exact⟨a.2.2.2.2.2.trans (b.2.2.2.2.2.trans (hlk3 x).1),a.2.2.2.2.1.trans (b.2.2.2.2.1.trans (hlk3 x).2)⟩
  refine⟨eN.2 ⟨hT2,?_⟩,⟨fun x hx=>?_,hlk⟩,?_⟩
  · rw [tE, show (uQ ⟨s, false, p, o⟩ l i r).root = i by unfold uQ; split <;> rfl]
    have hC2:nJ σ c p (Fm.fill ⟨s,false,p,o⟩ (.node false l i r)).nodes u:=hC'.perm (jA ⟨s,false,p,o⟩ (.node false l i r)).symm;cases c with
    | nil=>trivial
    | cons b c' =>
      have hbc:b.p∈bB (b::c'):=by simp[bB]
      refine hC2.move ?_ (fun y _=>hlk y) (fun y hy=>?_)
      · rw[hR _ (fun e=>dic (e▸hbc)) (fun e=>dpc (e▸hbc)),k5 b c' rfl]
      · have hyc : y ∈ bB (b :: c') := by simp only [bB, zB, qB]; exact .inr hy
        have hbn:y≠b.p:=by
          have:b.p∉b.o.nodes++bB c' :=by
            have:=hnd'.2.1;simp only[bB,zB,qM,qN,qE]at this;simp only[qE];grind
          exact fun e=>this (e▸hy)
        have e1:y≠i:=fun e=>dic (e▸hyc);have e2:y≠p:=fun e=>dpc (e▸hyc);rw[hR y e1 e2];refine k1 y e1 e2 ?_ (.inr hbn);by_cases h0:m.root=0
        · exact .inr h0
        · exact .inl (fun e=>(hmn _ (BT.root_mem h0)).elim (fun h=>dlc _ h (e▸hyc)) (fun h=>drc _ h (e▸hyc)))
  · have hx' : ¬ (x ∈ l.nodes ∨ x = i ∨ x ∈ r.nodes ∨ x = p ∨ x ∈ o.nodes ∨ x ∈ bB c) := fun h => hx ((hmem x).2 (by grind))
    simp only[not_or]at hx';obtain⟨e1,e2,e3,e4,e5,e6⟩:=hx';rw[hR x e2 e4];refine k1 x e2 e4 ?_ (hupc.imp id (fun hc e=>e6 (e▸hc)));by_cases h00:m.root=0
    · exact .inr h00
    · exact .inl (fun h0=>(hmn _ (BT.root_mem h00)).elim (fun h=>e1 (h0▸h)) (fun h=>e3 (h0▸h)))
  · rw [hiu, k3, k2]
    refine⟨?_,?_,?_,?_⟩
    · cases s with
      | false=>simp only[aV,sd,Bool.false_eq_true,if_false,if_true];rw[<-hmr];exact hkp
      | true=>
        simp[sd,kid]at hpo;simp[aV,sd];rw[hpo];intro e;exact dpo (e▸BT.root_mem (by rw[e];exact hp0))
    · cases s with
      | false=>
        simp[sd,kid]at hpo;simp[aV,sd];rw[hpo];intro e;exact dpo (e▸BT.root_mem (by rw[e];exact hp0))
      | true=>simp[aV,sd];rw[<-hmr];exact hkp
    · cases s with
      | false=>
        simp[aV,sd];rw[hik0];intro e;exact dil (e▸BT.root_mem (by rw[e];exact hi0))
      | true=>simp[aV,sd];exact dpi
    · cases s with
      | false=>simp[aV,sd];exact dpi
      | true=>
        simp[aV,sd];rw[hik1];intro e;exact dir (e▸BT.root_mem (by rw[e];exact hi0))
def Way:BT->List Nat->Prop
  | .nil,_=>False
  | .node _ _ _ _,[]=>False
  | .node _ l v r,x::ps=>x=v/\(ps=[]∨Way l ps∨Way r ps)
theorem zN(t:BT)(ps:List Nat):Way t.flip ps↔Way t ps:=by
 cases t with
 | nil=>exact Iff.rfl
 | node f l v r=>cases ps<;>exact Iff.rfl
theorem aIM(a:Fm){t:BT}{ps:List Nat}(h:Way t ps):Way (a.fill t) (a.p::ps):=by
 unfold Fm.fill;split
 · exact⟨rfl,.inr (.inr h)⟩
 · exact⟨rfl,.inr (.inl h)⟩
theorem zO:∀(c:List Fm) {t:BT} {ps:List Nat},Way t ps->Way (aZ c t) ((c.map Fm.p).reverse++ps)
  | [],_,_,h=>by simpa[aZ] using h
  | a::c,t,ps,h=>by
    have:=zO c (aIM a h);simpa[aZ] using this
theorem vN(c:List Fm)(a:Fm)(t:BT):aZ (c++[a]) t=a.fill (aZ c t):=by
 induction c generalizing t with
 | nil=>rfl
 | cons b c ih=>exact ih (b.fill t)
theorem aCD{i:Nat}:∀{t:BT},i∈t.nodes->∃c f l r,t=aZ c (.node f l i r)
  | .nil,h=>by cases h
  | .node f l v r,h=>by
    simp only[BT.nodes,qE,qB]at h;rcases h with h|rfl|h
    · obtain ⟨c, f', l', r', e⟩ := aCD h
      exact⟨c++[⟨false,f,v,r⟩],f', l', r', by rw[vN,<-e];rfl⟩
    · exact⟨[],f,l,r,rfl⟩
    · obtain ⟨c, f', l', r', e⟩ := aCD h
      exact⟨c++[⟨true,f,v,l⟩],f', l', r', by rw[vN,<-e];rfl⟩
theorem aDV{σ:Tbl}:∀{c:List Fm} {t:BT} {u:Nat},Rep σ (aZ c t) u->t.root≠0->(aZ c t).nodes.Nodup->Out σ u (aZ c t).nodes ->
    (∀k x y,(t.root::c.map Fm.p)[k]? =some x->(t.root::c.map Fm.p)[k+1]? =some y->(bD σ x).2=true/\(σ x).up=y)/\(∀x,(t.root::c.map Fm.p)[c.length]? =some x->(bD σ x).2=false)
  | [],t,u,h,h0,_,hO=>by
    refine⟨fun k x y _ h2=>by simp at h2,fun x hx=>?_⟩;simp at hx;subst hx;cases t with
    | nil=>exact absurd rfl h0
    | node f l v r=>
      simp only[aZ]at h hO;show(bD σ v).snd=false
      rw[tD h.1.2.1 hO (by simp[BT.nodes])]
  | a::c,t,u,h,h0,hnd,hO=>by
    have hi:=aDV (c:=c) (t:=a.fill t) (u:=u) h (by rw[jB];exact((eN.1 h).2).1.1) hnd hO;rw[jB]at hi;obtain⟨hT,hC⟩:=eN.1 h;obtain⟨⟨hp0,_,_,hpk,hpo⟩,hRo,_⟩:=hC;refine⟨fun k x y h1 h2=>?_,fun x hx=>?_⟩
    · cases k with
      | zero=>
        simp at h1 h2;subst h1;subst h2;have hup:(σ t.root).up=a.p:=by
          cases t with
          | nil=>exact absurd rfl h0
          | node f l v r=>exact hT.1.2.1
        refine⟨?_,hup⟩;rw[gN h0 hp0 hup hpk hpo];intro e;have hor:a.o.root≠0:=by rw[e];exact h0
        have h1:=BT.root_mem hor;have h2:=BT.root_mem h0;have:=(bK (a::c) t).nodup_iff.1 hnd;rw[qM]at this;exact this.2.2 _ h2 _ (by simp only[bB,zB,qB,qE];exact .inr (.inl h1)) e.symm
      | succ k=>exact hi.1 k x y (by simpa using h1) (by simpa using h2)
    · exact hi.2 x (by simpa using hx)
theorem jD(σ:Tbl)(k x:Nat):kY σ k x=if x=k/\k≠0 then { σ x with flip:= !(σ x).flip } else σ x:=by
 unfold kY;by_cases h:k=0
 · rw[qD h,qC (fun e=>e.2 h)]
 {
 rw[qC h];by_cases e:x=k
 · subst e;rw[aM,qD ⟨rfl,h⟩]
 · rw[aJ e,qC (fun h=>e h.1)]}
theorem InR.push{N:Nat}{σ:Tbl}(h:InR N σ)(i:Nat)(hi:i<N):InR N (push σ i):=by
 have hK:∀(τ:Tbl) (k:Nat),InR N τ->InR N (kY τ k):=by {
 intro τ k hτ j hj;rw[jD];split<;>exact hτ j hj};unfold Proofs.YtjdgpcjbgjnahaaGreatDoor.push;split
 {
 refine hK _ _ (hK _ _ ?_);exact h.upd ⟨(h i hi).2.1,(h i hi).1,(h i hi).2.2.1,(h i hi).2.2.2⟩}
 · exact h
theorem Rep.flip{σ σ' :Tbl}{t:BT}{u:Nat}(h:Rep σ t u)(hnd:t.nodes.Nodup)(ho:∀x∈t.nodes,x≠t.root->σ' x=σ x)(hr:t.root≠0->σ' t.root={ σ t.root with flip:= !(σ t.root).flip }):Rep σ' t.flip u:=by
 cases t with
 | nil=>trivial
 | node f l v r=>{
 obtain⟨h1,hl,hrr,h2,h3,h4⟩:=h;have hv:σ' v={ σ v with flip:= !(σ v).flip }:=hr h1.1;simp only[BT.nodes,qM,qN]at hnd;have hnl:∀x∈l.nodes,x≠v:=fun x hx e=>hnd.2.2 x hx v (by simp) e;have hnr:∀x∈r.nodes,x≠v:=fun x hx e=>hnd.2.1.1 (e▸hx);have hlk:∀x∈(BT.node f l v r).nodes,(σ' x).light=(σ x).light/\(σ' x).key=(σ x).key:=by {
 intro x hx;by_cases e:x=v
 · subst e;rw[hv];exact⟨rfl,rfl⟩
 · rw[ho x hx e];exact⟨rfl,rfl⟩};refine⟨by rw[hv];exact⟨h1.1,h1.2.1,by rw[h1.2.2.1],h1.2.2.2⟩,hl.congr (fun x hx=>ho x (by simp[BT.nodes,hx]) (hnl x hx)),hrr.congr (fun x hx=>ho x (by simp[BT.nodes,hx]) (hnr x hx)),by rw[hv];exact h2,?_,?_⟩
 · rw[hv];show _=wrap64 (tot σ' (BT.node f l v r).nodes);rw[bZ (fun x hx=>(hlk x hx).1)];exact h3
 · rw[hv];exact dE (σ:=σ) (fun x hx=>(hlk x hx).2) h4}
def BT.pushed:BT->BT
  | .nil=>.nil
  | .node f l v r=>if f then .node false r.flip v l.flip else .node false l v r
theorem tF(t:BT):t.pushed.seq=t.seq:=by
 cases t with
 | nil=>rfl
 | node f l v r=>cases f<;>simp[BT.pushed,BT.seq,BT.seq_flip]
theorem lB(t:BT):t.pushed.nodes.Perm t.nodes:=by
 cases t with
 | nil=>exact .nil
 | node f l v r=>{
 cases f with
 | false=>exact .refl _
 | true=>{
 simp only[BT.pushed,if_true,BT.nodes,BT.nodes_flip];exact List.perm_middle.trans (((List.perm_append_comm).cons v).trans List.perm_middle.symm)}}
theorem zP(t:BT):t.pushed.root=t.root:=by
 cases t with
 | nil=>rfl
 | node f l v r=>cases f<;>rfl
theorem zQ{σ:Tbl}{c:List Fm}{f:Bool}{l r:BT}{v u:Nat}(h:Rep σ (aZ c (.node f l v r)) u)(hnd:(aZ c (.node f l v r)).nodes.Nodup):
    Rep (push σ v) (aZ c (BT.node f l v r).pushed) u/\cQ σ (push σ v) (aZ c (.node f l v r)).nodes:=by
 have hpm:=bK c (.node f l v r);have hnd' :=hpm.nodup_iff.1 hnd;have hmem:∀x,x∈(aZ c (.node f l v r)).nodes↔x∈(BT.node f l v r).nodes++bB c:=fun x=>hpm.mem_iff;obtain⟨hT,hC⟩:=eN.1 h;obtain⟨⟨hv0,hvu,hvf,hk0,hk1⟩,hl,hr,hs,ht,hb⟩:=id hT;simp only[BT.nodes,qM,qN,qE,qB,List.append_assoc]at hnd' hmem;cases f with
 | false=>{
 have e:push σ v=σ:=by unfold push;rw[qC (by simp[hvf])]
 rw[e];exact⟨h,fun _ _=>rfl,fun _=>⟨rfl,rfl⟩⟩}
 | true=>{
 have dvl:v∉l.nodes:=by grind
 have dvr:v∉r.nodes:=by grind
 have dlr:∀x∈l.nodes,x∉r.nodes:=by grind
 have ndl:l.nodes.Nodup:=by grind
 have ndr:r.nodes.Nodup:=by grind
 have dvc:v∉bB c:=by grind
 have dlc:∀x∈l.nodes,x∉bB c:=by grind
 have drc:∀x∈r.nodes,x∉bB c:=by grind
 have hlv:l.root≠v:=fun e=>dvl (e▸BT.root_mem (by rw[e];exact hv0));have hrv:r.root≠v:=fun e=>dvr (e▸BT.root_mem (by rw[e];exact hv0));have hx:∀x,push σ v x=if x=v then { σ v with flip:=false,k0:=r.root,k1:=l.root } else if (x=l.root∨x=r.root)/\x≠0 then { σ x with flip:= !(σ x).flip } else σ x:=by {
 intro x;unfold push;rw[qD hvf];show kY (kY (kK σ v) (σ v).k1) (σ v).k0 x=_
 rw[hk0,hk1,jD];by_cases e:x=v
 {
 subst e;rw[qC (fun h=>hlv h.1.symm),jD,qC (fun h=>hrv h.1.symm),qD rfl];simp only[kK,aM,hk0,hk1]}
 {
 rw[qC e];have e0:kK σ v x=σ x:=by simp only[kK,aJ e]
 by_cases e1:x=l.root
 {
 by_cases e2:x=0
 {
 have hl0:l.root=0:=e1.symm.trans e2;rw[qC (by simp[hl0]),jD,qC (by rintro⟨h1,h2⟩;exact h2 (h1.symm.trans e2)),qC (by simp[e2]),e0]}
 {
 rw[qD ⟨e1,fun h=>e2 (e1.trans h)⟩,qD ⟨.inl e1,e2⟩];have:kY (kK σ v) r.root x=σ x:=by rw[jD,qC (by rintro⟨h1,h2⟩;exact dlr x (e1▸BT.root_mem (fun h0=>e2 (e1.trans h0))) (h1▸BT.root_mem h2)),e0]
 rw[this]}}
 {
 rw[qC (fun h=>e1 h.1),jD];by_cases e2:x=r.root
 {
 by_cases e3:x=0
 · rw[qC (fun h=>h.2 (e2.symm.trans e3)),qC (fun h=>h.2 e3),e0]
 · rw[qD ⟨e2,fun h=>e3 (e2.trans h)⟩,qD ⟨.inr e2,e3⟩,e0]}
 · rw[qC (fun h=>e2 h.1),qC (fun h=>h.1.elim e1 e2),e0]}}};have hlk:∀x,(push σ v x).light=(σ x).light/\(push σ v x).key=(σ x).key:=by {
 intro x;rw[hx];split
 · rename_i e;subst e;exact⟨rfl,rfl⟩
 · split<;>exact⟨rfl,rfl⟩};have hoth:∀x,x≠v->x∉l.nodes->x∉r.nodes->push σ v x=σ x:=by {
 intro x e1 e2 e3;rw[hx,qC e1,qC];rintro⟨e|e,h0⟩
 · exact e2 (e▸BT.root_mem (fun h=>h0 (e.trans h)))
 · exact e3 (e▸BT.root_mem (fun h=>h0 (e.trans h)))};have hvv:push σ v v={ σ v with flip:=false,k0:=r.root,k1:=l.root }:=by rw[hx,qD rfl]
 have hpp:=lB (.node true l v r);refine⟨eN.2 ⟨?_,?_⟩,fun x hxn=>?_,hlk⟩
 {
 simp only[BT.pushed,if_true];have hll:Rep (push σ v) l.flip v:=hl.flip ndl (fun x hxn hne=>by
     rw[hx,qC (by rintro rfl;exact dvl hxn),qC];rintro⟨e|e,h0⟩
     · exact hne e
     · exact dlr x hxn (e▸BT.root_mem (fun h=>h0 (e.trans h)))) (fun h0=>by rw[hx,qC hlv,qD ⟨.inl rfl,h0⟩])
 have hrr:Rep (push σ v) r.flip v:=hr.flip ndr (fun x hxn hne=>by
     rw[hx,qC (by rintro rfl;exact dvr hxn),qC];rintro⟨e|e,h0⟩
     · exact dlr x (e▸BT.root_mem (fun h=>h0 (e.trans h))) hxn
     · exact hne e) (fun h0=>by rw[hx,qC hrv,qD ⟨.inr rfl,h0⟩])
 refine⟨⟨hv0,by rw[hvv];exact hvu,by rw[hvv],by rw[hvv,BT.root_flip],by rw[hvv,BT.root_flip]⟩,hrr,hll,?_,?_,?_⟩
 · rw[hvv];show(σ v).size=_;rw[hs];exact congrArg (fun n:Nat=>wrap64 n) hpp.length_eq.symm
 · rw[hvv];show(σ v).total=_;rw[bZ (fun x _=>(hlk x).1),ht];exact congrArg wrap64 (lA hpp.symm)
 · rw[hvv];exact dE (fun x _=>(hlk x).2) (iZ hpp.symm hb)}
 {
 rw[zP];refine nJ.perm hpp.symm (hC.congr (fun y hy=>hoth y (fun e=>dvc (e▸hy)) (fun h=>dlc y h hy) (fun h=>drc y h hy)) (fun y _=>hlk y))}
 {
 have hx' :¬(x∈l.nodes∨x=v∨x∈r.nodes∨x∈bB c):=fun h=>hxn ((hmem x).2 (by grind));simp only[not_or]at hx';exact hoth x hx'.2.1 hx'.1 hx'.2.2.1}}
def pushAll(σ:Tbl)(ps:List Nat):Tbl:=ps.foldl push σ
theorem cQ.trans{σ τ υ:Tbl}{ns:List Nat}(h:cQ σ τ ns)(k:cQ τ υ ns):cQ σ υ ns:=
  ⟨fun x hx=>(k.other x hx).trans (h.other x hx),fun x=>⟨(k.lk x).1.trans (h.lk x).1,(k.lk x).2.trans (h.lk x).2⟩⟩
theorem cQ.perm{σ τ:Tbl}{ns ms:List Nat}(h:cQ σ τ ns)(hm:∀x,x∈ns↔x∈ms):cQ σ τ ms:=⟨fun x hx=>h.other x (fun e=>hx ((hm x).1 e)),h.lk⟩
theorem pZ{σ:Tbl}:∀{ps:List Nat} {c:List Fm} {t:BT} {u i:Nat},Rep σ (aZ c t) u->(aZ c t).nodes.Nodup->(∀a∈c,a.f=false)->Way t (ps++[i]) ->
    ∃c' l r,Rep (pushAll σ (ps++[i])) (aZ c' (.node false l i r)) u/\(∀a∈c', a.f=false)/\(aZ c' (.node false l i r)).seq=(aZ c t).seq/\(aZ c' (.node false l i r)).nodes.Perm (aZ c t).nodes /\
      cQ σ (pushAll σ (ps++[i])) (aZ c t).nodes
  | [],c,.nil,u,i,_,_,_,hw=>hw.elim
  | [],c,.node f l v r,u,i,h,hnd,hc,hw=>by
    obtain⟨rfl,_⟩:i=v/\_:=hw;obtain⟨h1,h2⟩:=zQ h hnd;have e:∃l' r', (BT.node f l i r).pushed=.node false l' i r' :=by cases f<;>exact⟨_,_,rfl⟩
    obtain⟨l', r', e⟩:=e;refine⟨c,l', r', by rw[<-e];exact h1,hc,by rw[<-e];exact jC c (tF _),?_,h2⟩;rw[<-e];exact(bK c _).trans (((lB (.node f l i r)).append_right _).trans (bK c _).symm)
  | p::ps,c,.nil,u,i,_,_,_,hw=>hw.elim
  | p::ps,c,.node f l v r,u,i,h,hnd,hc,hw=>by
    obtain⟨rfl,hw⟩:p=v/\_:=hw;obtain⟨h1,h2⟩:=zQ h hnd;have hw:Way l (ps++[i])∨Way r (ps++[i]):=hw.elim (fun e=>by simp at e) id;have e:∃l' r', (BT.node f l p r).pushed=.node false l' p r' /\ (Way l' (ps++[i])∨Way r' (ps++[i])):=by
      cases f with
      | false=>exact⟨_,_,rfl,hw⟩
      | true=>exact⟨_,_,rfl,hw.symm.imp (zN _ _).2 (zN _ _).2⟩
    obtain⟨l', r', e,hw'⟩:=e;have hperm:(aZ c (.node false l' p r')).nodes.Perm (aZ c (.node f l p r)).nodes:=by
      rw[<-e];exact(bK c _).trans (((lB (.node f l p r)).append_right _).trans (bK c _).symm)
    have hseq:(aZ c (.node false l' p r')).seq=(aZ c (.node f l p r)).seq:=by rw[<-e];exact jC c (tF _)
    rw[e]at h1
    have step:∀(a:Fm) (t' :BT),a.fill t' =.node false l' p r' -> a.f=false->Way t' (ps++[i]) ->
        ∃c' l r,Rep (pushAll (push σ p) (ps++[i])) (aZ c' (.node false l i r)) u/\(∀a∈c', a.f=false)/\(aZ c' (.node false l i r)).seq=(aZ c (.node false l' p r')).seq/\(aZ c' (.node false l i r)).nodes.Perm (aZ c (.node false l' p r')).nodes /\
          cQ (push σ p) (pushAll (push σ p) (ps++[i])) (aZ c (.node false l' p r')).nodes:=by
      intro a t' ha haf hwt
      have := pZ (σ := push σ p) (ps := ps) (c := a :: c) (t := t') (u := u) (i := i) (by simp only [aZ]; rw [ha]; exact h1) (by simp only [aZ]; rw [ha]; exact hperm.nodup_iff.2 hnd)
        (fun b hb=>(qB.1 hb).elim (fun e=>by rw[e];exact haf) (hc b)) hwt
      simp only[aZ]at this;rw[ha]at this;exact this
    have fin:∃c' l r,Rep (pushAll (push σ p) (ps++[i])) (aZ c' (.node false l i r)) u/\(∀a∈c', a.f=false)/\(aZ c' (.node false l i r)).seq=(aZ c (.node false l' p r')).seq/\(aZ c' (.node false l i r)).nodes.Perm (aZ c (.node false l' p r')).nodes /\
          cQ (push σ p) (pushAll (push σ p) (ps++[i])) (aZ c (.node false l' p r')).nodes:=by
      rcases hw' with hw' | hw'
      · exact step ⟨false,false,p,r'⟩ l' rfl rfl hw'
      · exact step ⟨true,false,p,l'⟩ r' rfl rfl hw'
    obtain⟨c', l2,r2,a1,a2,a3,a4,a5⟩:=fin;refine⟨c', l2,r2,a1,a2,a3.trans hseq,a4.trans hperm,?_⟩;exact h2.trans (a5.perm (fun x=>hperm.mem_iff))
end Go.Proofs.YtjdgpcjbgjnahaaGreatDoor
