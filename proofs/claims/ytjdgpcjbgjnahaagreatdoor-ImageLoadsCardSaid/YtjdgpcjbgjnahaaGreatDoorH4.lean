/- lct: rotation of a tree in its frames. -/
import Derived.Test.YtjdgpcjbgjnahaaGreatDoorH3
import Derived.Deep.QuietTactic
import Derived.BigQuiet
set_option maxRecDepth 10000
set_option maxHeartbeats 800000
set_option linter.unusedSimpArgs false
set_option linter.unusedVariables false
/- The nodes of a link-cut forest in memory. -/
namespace Go.Proofs.YtjdgpcjbgjnahaaGreatDoor
open Go.RowKit
structure Nd where
  k0:Nat
  k1:Nat
  up:Nat
  flip:Bool
  key:Int
  size:Int
  first:Nat
  light:Int
  total:Int
def fv(n:Nd):Nat->Value
  | 0=>.int .i64 n.k0
  | 1=>.int .i64 n.k1
  | 2=>.int .i64 n.up
  | 3=>.bool n.flip
  | 4=>.int .i64 n.key
  | 5=>.int .i64 n.size
  | 6=>.int .i64 n.first
  | 7=>.int .i64 n.light
  | _=>.int .i64 n.total
abbrev Tbl:=Nat->Nd
def Tbl.upd(σ:Tbl)(i:Nat)(n:Nd):Tbl:=fun j=>if j=i then n else σ j
def aZ(w:World)(g N:Nat)(σ:Tbl):Prop:=
  ∃arr:Array Value,w.heap[g]? =some (.cells arr 251 (0,0))/\N*9<=arr.size/\∀i,i<N->∀f,f<9->arr[i*9+f]? =some (fv (σ i) f)
theorem aZ.cell{w:World}{g N:Nat}{σ:Tbl}(h:aZ w g N σ){i f:Nat}(hi:i<N)(hf:f<9):w.cell? ⟨g,i*9+f,none⟩=some (fv (σ i) f):=by
 obtain⟨arr,h1,_,h2⟩:=h;simp[World.cell?,h1];exact h2 i hi f hf
theorem aZ.frozen{w:World}{g N:Nat}{σ:Tbl}(h:aZ w g N σ)(c:Nat):w.frozen? ⟨g,c,none⟩=false:=by
 obtain⟨arr,h1,_⟩:=h;simp[World.frozen?,h1]
theorem aZ.lt{w:World}{g N:Nat}{σ:Tbl}(h:aZ w g N σ):g<w.heap.size:=by
 obtain⟨arr,h1,_⟩:=h;exact(qM.1 h1).1
theorem aZ.same{w w' :World}{g N:Nat}{σ:Tbl}(h:aZ w g N σ)(e:w'.heap[g]? =w.heap[g]?):aZ w' g N σ:=by
 obtain⟨arr,h1,r⟩:=h;exact⟨arr,e.trans h1,r⟩
theorem aZ.eqv{w w' :World}{g N:Nat}{σ:Tbl}(h:aZ w g N σ)(e:Eqv w' w):aZ w' g N σ:=h.same (by rw[e.heap])
theorem aZ.congr{w:World}{g N:Nat}{σ τ:Tbl}(h:aZ w g N σ)(e:∀i,i<N->σ i=τ i):aZ w g N τ:=by
 obtain⟨arr,h1,h2,h3⟩:=h;exact⟨arr,h1,h2,fun i hi f hf=>by rw[<-e i hi];exact h3 i hi f hf⟩
theorem aZ.store{w:World}{g N:Nat}{σ:Tbl}(h:aZ w g N σ){i f:Nat}(hi:i<N)(hf:f<9)(n:Nd)(v:Value)(hv:fv n f=v)(ho:∀f', f' < 9->f' ≠ f->fv n f' =fv (σ i) f'):
    aZ (w.setCell ⟨g,i*9+f,none⟩ v) g N (σ.upd i n):=by
 obtain⟨arr,h1,h2,h3⟩:=h;refine⟨arr.setIfInBounds (i*9+f) v,?_,by simpa using h2,fun j hj f' hf' =>?_⟩
 {
 simp only[World.setCell,Array.getElem?_modify];simp[h1]}
 {
 rw[Array.getElem?_setIfInBounds];by_cases e:i*9+f=j*9+f'
 {
 have e1:i=j:=by omega
 have e2:f=f' :=by omega
 subst e1;subst e2;rw[qD rfl,qD (by omega)];simp[Tbl.upd,hv]}
 {
 rw[qC e,h3 j hj f' hf'];simp only[Tbl.upd];by_cases ej:j=i
 · subst ej;rw[qD rfl,ho f' hf' (fun e' =>e (by omega))]
 · rw[qC ej]}}
section
variable {w:World} {g N:Nat} {σ:Tbl} (h:aZ w g N σ)
include h
theorem aZ.c0:∀i,i<N->w.cell? ⟨g,i*9,none⟩=some (.int .i64 (σ i).k0):=fun i hi=>h.cell (f:=0) hi (by decide)
theorem aZ.c1:∀i,i<N->w.cell? ⟨g,i*9+1,none⟩=some (.int .i64 (σ i).k1):=fun i hi=>h.cell (f:=1) hi (by decide)
theorem aZ.c2:∀i,i<N->w.cell? ⟨g,i*9+2,none⟩=some (.int .i64 (σ i).up):=fun i hi=>h.cell (f:=2) hi (by decide)
theorem aZ.c3:∀i,i<N->w.cell? ⟨g,i*9+3,none⟩=some (.bool (σ i).flip):=fun i hi=>h.cell (f:=3) hi (by decide)
theorem aZ.c4:∀i,i<N->w.cell? ⟨g,i*9+4,none⟩=some (.int .i64 (σ i).key):=fun i hi=>h.cell (f:=4) hi (by decide)
theorem aZ.c5:∀i,i<N->w.cell? ⟨g,i*9+5,none⟩=some (.int .i64 (σ i).size):=fun i hi=>h.cell (f:=5) hi (by decide)
theorem aZ.c6:∀i,i<N->w.cell? ⟨g,i*9+6,none⟩=some (.int .i64 (σ i).first):=fun i hi=>h.cell (f:=6) hi (by decide)
theorem aZ.c7:∀i,i<N->w.cell? ⟨g,i*9+7,none⟩=some (.int .i64 (σ i).light):=fun i hi=>h.cell (f:=7) hi (by decide)
theorem aZ.c8:∀i,i<N->w.cell? ⟨g,i*9+8,none⟩=some (.int .i64 (σ i).total):=fun i hi=>h.cell (f:=8) hi (by decide)
end
structure aE (w:World) (pf g N:Nat) (cap:Nat) (σ:Tbl) (edges:Int):Prop where
  hd:Blk w pf 253 [.pointer (some ⟨pf,0,none⟩),.slice (some ⟨g,0,none⟩) N cap,.int .i64 edges]
  nodes:aZ w g N σ
  ne:pf≠g
  le:N<=65537
  cap:N<=cap
def bC(σ:Tbl)(i j:Nat):Bool:=decide ((σ i).key<(σ j).key)||(decide ((σ i).key=(σ j).key)&&decide (i<j))
theorem aIB{w:World}{pf g N cap:Nat}{σ:Tbl}{ed:Int}(h:aE w pf g N cap σ ed)(i j:Nat)(hi:i<N)(hj:j<N):
    Calls Tryz.prog 203 #[.pointer (some ⟨pf,0,none⟩),.int .i64 i,.int .i64 j] w fun e w' =>e=.returned (.bool (bC σ i j))/\∃n,w' =w.drewN n:=by
 have c1:=h.hd.cell 1;simp only[zJ,zK]at c1;have ci:=h.nodes.c4 i hi;have cj:=h.nodes.c4 j hj;have hN:=h.le;have hi2:(i:Int)<N:=by omega
 have hj2:(j:Int)<N:=by omega
 by_cases h1:(σ i).key<(σ j).key
 {
 have d1:decide ((σ i).key<(σ j).key)=true:=qG h1;have hr:bC σ i j=true:=by simp[bC,h1]
 rw[hr];clear hr;go_enter Tryz.func203,Tryz.ntmps203
 go_wp2
 go_quiet (fail)
 go_wp2
 go_ret;exact⟨rfl,_,rfl⟩}
 {
 have d1:decide ((σ i).key<(σ j).key)=false:=qF h1;by_cases h2:(σ i).key=(σ j).key
 {
 have d2:((σ i).key == (σ j).key)=true:=beq_iff_eq.2 h2;have hr:bC σ i j=decide (i<j):=by simp[bC,h2]
 rw[hr];clear hr;have H2:=qA h2;clear h2;by_cases h3:i<j
 {
 have d3:decide ((i:Int)<(j:Int))=true:=qG (by omega);have d4:decide (i<j)=true:=qG h3;rw[d4];clear d4;go_enter Tryz.func203,Tryz.ntmps203
 go_wp2
 go_quiet (fail)
 go_wp2
 go_ret;exact⟨rfl,_,rfl⟩}
 {
 have d3:decide ((i:Int)<(j:Int))=false:=qF (by omega);have d4:decide (i<j)=false:=qF h3;rw[d4];clear d4;go_enter Tryz.func203,Tryz.ntmps203
 go_wp2
 go_quiet (fail)
 go_wp2
 go_ret;exact⟨rfl,_,rfl⟩}}
 {
 have d2:((σ i).key == (σ j).key)=false:=qR.2 h2;have hr:bC σ i j=false:=by simp[bC,h1,h2]
 rw[hr];clear hr;have H2:=qA h2;clear h2;go_enter Tryz.func203,Tryz.ntmps203
 go_wp2
 go_quiet (fail)
 go_wp2
 go_ret;exact⟨rfl,_,rfl⟩}}
def aR(σ:Tbl)(i k:Nat):Tbl:=
  if k=0 then σ else
    let σ1:=σ.upd i { σ i with size:=wrap64 ((σ i).size+(σ k).size) }
    let σ2:=σ1.upd i { σ1 i with total:=wrap64 ((σ1 i).total+(σ1 k).total) }
    if bC σ2 (σ2 k).first (σ2 i).first then σ2.upd i { σ2 i with first:=(σ2 k).first } else σ2
def dE(σ:Tbl)(i:Nat):Tbl:=σ.upd i { σ i with size:=1,first:=i,total:=wrap64 (1+(σ i).light) }
def aBZ(σ:Tbl)(i:Nat):Nat->Tbl
  | 0=>dE σ i
  | 1=>aR (dE σ i) i (σ i).k0
  | _=>aR (aR (dE σ i) i (σ i).k0) i (σ i).k1
def refresh(σ:Tbl)(i:Nat):Tbl:=aBZ σ i 2
theorem aH(σ:Tbl)(i:Nat)(n:Nd):σ.upd i n i=n:=by simp[Tbl.upd]
theorem aF{σ:Tbl}{i j:Nat}{n:Nd}(h:j≠i):σ.upd i n j=σ j:=by simp[Tbl.upd,h]
def InR(N:Nat)(σ:Tbl):Prop:=∀i,i<N->(σ i).k0<N/\(σ i).k1<N/\(σ i).up<N/\(σ i).first<N
theorem fN{σ:Tbl}{i k j:Nat}(h:j≠i):aR σ i k j=σ j:=by
 unfold aR;by_cases hk:k=0
 · rw[qD hk]
 · rw[qC hk];dsimp only;split<;>simp[aF h]
theorem gS{σ:Tbl}{i k j:Nat}:(aR σ i k j).k0=(σ j).k0/\(aR σ i k j).k1=(σ j).k1/\(aR σ i k j).up=(σ j).up/\(aR σ i k j).flip=(σ j).flip/\(aR σ i k j).key=(σ j).key/\(aR σ i k j).light=(σ j).light:=by
 by_cases h:j=i
 {
 subst h;unfold aR;by_cases hk:k=0
 · rw[qD hk];simp
 · rw[qC hk];dsimp only;split<;>simp[aH]}
 · rw[fN h];simp
theorem nA{N:Nat}{σ:Tbl}{i k:Nat}(h:InR N σ)(hi:i<N)(hk:k<N)(hki:k≠i):InR N (aR σ i k):=by
 intro j hj;obtain⟨a,b,c,_⟩:=@gS σ i k j;rw[a,b,c];refine⟨(h j hj).1,(h j hj).2.1,(h j hj).2.2.1,?_⟩;by_cases e:j=i
 {
 subst e;unfold aR;by_cases hk0:k=0
 · rw[qD hk0];exact(h j hj).2.2.2
 {
 rw[qC hk0];dsimp only;split
 · simp[aH,aF hki];exact(h k hk).2.2.2
 · simp[aH];exact(h j hj).2.2.2}}
 · rw[fN e];exact(h j hj).2.2.2
theorem sN{N:Nat}{σ:Tbl}{i:Nat}(h:InR N σ)(hi:i<N):InR N (dE σ i):=by
 intro j hj;by_cases e:j=i
 · subst e;simp only[dE,aH];exact⟨(h j hj).1,(h j hj).2.1,(h j hj).2.2.1,hi⟩
 · simp only[dE,aF e];exact h j hj
theorem yW{N:Nat}{σ:Tbl}{i:Nat}(h:InR N σ)(hi:i<N)(h0:(σ i).k0≠i)(h1:(σ i).k1≠i)(t:Nat):InR N (aBZ σ i t):=by
 match t with
 | 0=>exact sN h hi
 | 1=>exact nA (sN h hi) hi (h i hi).1 h0
 | t+2=>exact nA (nA (sN h hi) hi (h i hi).1 h0) hi (h i hi).2.1 h1
theorem aE.store{w w0:World}{pf g N cap:Nat}{σ:Tbl}{ed:Int}(h:aE w pf g N cap σ ed)(hF:Fr [g] w0 w){i f:Nat}(hi:i<N)(hf:f<9)(n:Nd)(v:Value)(hv:fv n f=v)(ho:∀f', f' < 9->f' ≠ f->fv n f' =fv (σ i) f'):
    aE (w.setCell ⟨g,i*9+f,none⟩ v) pf g N cap (σ.upd i n) ed/\Fr [g] w0 (w.setCell ⟨g,i*9+f,none⟩ v):=
  ⟨⟨h.hd.other _ _ h.ne,h.nodes.store hi hf n v hv ho,h.ne,h.le,h.cap⟩,hF.setCell _ _ (.inl (by simp))⟩
theorem aE.eqv{w w' :World}{pf g N cap:Nat}{σ:Tbl}{ed:Int}(h:aE w pf g N cap σ ed)(e:Eqv w' w):aE w' pf g N cap σ ed:=
  ⟨e.blk h.hd,h.nodes.eqv e,h.ne,h.le,h.cap⟩
section
variable {w w0:World} {pf g N cap:Nat} {σ:Tbl} {ed:Int} (h:aE w pf g N cap σ ed) (hF:Fr [g] w0 w) {i:Nat} (hi:i<N)
include h hF hi
theorem aE.st0(x:Nat):aE (w.setCell ⟨g,i*9,none⟩ (.int .i64 x)) pf g N cap (σ.upd i { σ i with k0:=x }) ed/\Fr [g] w0 (w.setCell ⟨g,i*9,none⟩ (.int .i64 x)):=
  h.store hF hi (f:=0) (by decide) _ _ rfl (by intro f' h1 h2;match f', h1,h2 with|1,_,_=>rfl|2,_,_=>rfl|3,_,_=>rfl|4,_,_=>rfl|5,_,_=>rfl|6,_,_=>rfl|7,_,_=>rfl|_+8,_,_=>rfl)
theorem aE.st1(x:Nat):aE (w.setCell ⟨g,i*9+1,none⟩ (.int .i64 x)) pf g N cap (σ.upd i { σ i with k1:=x }) ed/\Fr [g] w0 (w.setCell ⟨g,i*9+1,none⟩ (.int .i64 x)):=
  h.store hF hi (f:=1) (by decide) _ _ rfl (by intro f' h1 h2;match f', h1,h2 with|0,_,_=>rfl|2,_,_=>rfl|3,_,_=>rfl|4,_,_=>rfl|5,_,_=>rfl|6,_,_=>rfl|7,_,_=>rfl|_+8,_,_=>rfl)
theorem aE.st2(x:Nat):aE (w.setCell ⟨g,i*9+2,none⟩ (.int .i64 x)) pf g N cap (σ.upd i { σ i with up:=x }) ed/\Fr [g] w0 (w.setCell ⟨g,i*9+2,none⟩ (.int .i64 x)):=
  h.store hF hi (f:=2) (by decide) _ _ rfl (by intro f' h1 h2;match f', h1,h2 with|0,_,_=>rfl|1,_,_=>rfl|3,_,_=>rfl|4,_,_=>rfl|5,_,_=>rfl|6,_,_=>rfl|7,_,_=>rfl|_+8,_,_=>rfl)
theorem aE.st3(x:Bool):aE (w.setCell ⟨g,i*9+3,none⟩ (.bool x)) pf g N cap (σ.upd i { σ i with flip:=x }) ed/\Fr [g] w0 (w.setCell ⟨g,i*9+3,none⟩ (.bool x)):=
  h.store hF hi (f:=3) (by decide) _ _ rfl (by intro f' h1 h2;match f', h1,h2 with|0,_,_=>rfl|1,_,_=>rfl|2,_,_=>rfl|4,_,_=>rfl|5,_,_=>rfl|6,_,_=>rfl|7,_,_=>rfl|_+8,_,_=>rfl)
theorem aE.st4(x:Int):aE (w.setCell ⟨g,i*9+4,none⟩ (.int .i64 x)) pf g N cap (σ.upd i { σ i with key:=x }) ed/\Fr [g] w0 (w.setCell ⟨g,i*9+4,none⟩ (.int .i64 x)):=
  h.store hF hi (f:=4) (by decide) _ _ rfl (by intro f' h1 h2;match f', h1,h2 with|0,_,_=>rfl|1,_,_=>rfl|2,_,_=>rfl|3,_,_=>rfl|5,_,_=>rfl|6,_,_=>rfl|7,_,_=>rfl|_+8,_,_=>rfl)
theorem aE.st5(x:Int):aE (w.setCell ⟨g,i*9+5,none⟩ (.int .i64 x)) pf g N cap (σ.upd i { σ i with size:=x }) ed/\Fr [g] w0 (w.setCell ⟨g,i*9+5,none⟩ (.int .i64 x)):=
  h.store hF hi (f:=5) (by decide) _ _ rfl (by intro f' h1 h2;match f', h1,h2 with|0,_,_=>rfl|1,_,_=>rfl|2,_,_=>rfl|3,_,_=>rfl|4,_,_=>rfl|6,_,_=>rfl|7,_,_=>rfl|_+8,_,_=>rfl)
theorem aE.st6(x:Nat):aE (w.setCell ⟨g,i*9+6,none⟩ (.int .i64 x)) pf g N cap (σ.upd i { σ i with first:=x }) ed/\Fr [g] w0 (w.setCell ⟨g,i*9+6,none⟩ (.int .i64 x)):=
  h.store hF hi (f:=6) (by decide) _ _ rfl (by intro f' h1 h2;match f', h1,h2 with|0,_,_=>rfl|1,_,_=>rfl|2,_,_=>rfl|3,_,_=>rfl|4,_,_=>rfl|5,_,_=>rfl|7,_,_=>rfl|_+8,_,_=>rfl)
theorem aE.st7(x:Int):aE (w.setCell ⟨g,i*9+7,none⟩ (.int .i64 x)) pf g N cap (σ.upd i { σ i with light:=x }) ed/\Fr [g] w0 (w.setCell ⟨g,i*9+7,none⟩ (.int .i64 x)):=
  h.store hF hi (f:=7) (by decide) _ _ rfl (by intro f' h1 h2;match f', h1,h2 with|0,_,_=>rfl|1,_,_=>rfl|2,_,_=>rfl|3,_,_=>rfl|4,_,_=>rfl|5,_,_=>rfl|6,_,_=>rfl|_+8,_,_=>rfl)
theorem aE.st8(x:Int):aE (w.setCell ⟨g,i*9+8,none⟩ (.int .i64 x)) pf g N cap (σ.upd i { σ i with total:=x }) ed/\Fr [g] w0 (w.setCell ⟨g,i*9+8,none⟩ (.int .i64 x)):=
  h.store hF hi (f:=8) (by decide) _ _ rfl (by intro f' h1 h2;match f', h1,h2 with|0,_,_=>rfl|1,_,_=>rfl|2,_,_=>rfl|3,_,_=>rfl|4,_,_=>rfl|5,_,_=>rfl|6,_,_=>rfl|7,_,_=>rfl|m+8,h1,h2=>exact absurd (show m+8=8 by omega) h2)
end
theorem pB(x y:Value)(w:World):(Instr.index 249 (.agg #[x,y]) (.int .i64 0)).run Tryz.prog w=.ok x w:=by kernel_rfl
theorem pC(x y:Value)(w:World):(Instr.index 249 (.agg #[x,y]) (.int .i64 1)).run Tryz.prog w=.ok y w:=by kernel_rfl
theorem aIC{w:World}{pf g N cap:Nat}{σ:Tbl}{ed:Int}(h:aE w pf g N cap σ ed){i:Nat}(hi:i<N):
    aE (((w.setCell ⟨g,i*9+5,none⟩ (.int .i64 1)).setCell ⟨g,i*9+6,none⟩ (.int .i64 i)).setCell ⟨g,i*9+8,none⟩ (.int .i64 (wrap64 (1+(σ i).light)))) pf g N cap (dE σ i) ed /\
      Fr [g] w (((w.setCell ⟨g,i*9+5,none⟩ (.int .i64 1)).setCell ⟨g,i*9+6,none⟩ (.int .i64 i)).setCell ⟨g,i*9+8,none⟩ (.int .i64 (wrap64 (1+(σ i).light)))):=by
 obtain⟨h1,f1⟩:=h.st5 (Fr.refl _ _) hi 1;obtain⟨h2,f2⟩:=h1.st6 f1 hi i;obtain⟨h3,f3⟩:=h2.st8 f2 hi (wrap64 (1+(σ i).light));refine⟨⟨h3.hd,h3.nodes.congr ?_,h3.ne,h3.le,h3.cap⟩,f3⟩;intro j _;by_cases e:j=i
 · subst e;simp[dE,aH]
 · simp[dE,aF e]
theorem aID(n:Int):IntKind.i64.wrap n=wrap64 n:=by rw[IntKind.wrap_i64];unfold wrap64;omega
theorem dU{w:World}{pf g N cap:Nat}{σ:Tbl}{ed:Int}(h:aE w pf g N cap σ ed)(i:Nat)(hi:i<N)(hR:InR N σ)(h0:(σ i).k0≠i)(h1:(σ i).k1≠i):
    Calls Tryz.prog 167 #[.pointer (some ⟨pf,0,none⟩),.int .i64 i] w fun e w' =>e=.returned (.tuple #[])/\aE w' pf g N cap (refresh σ i) ed/\Fr [g] w w' :=by
 have c1:=h.hd.cell 1;simp only[zJ,zK]at c1;have hN:=h.le;have a0:=h.nodes.c0 i hi;have a1:=h.nodes.c1 i hi;have a5:=h.nodes.c5 i hi;have a6:=h.nodes.c6 i hi;have a7:=h.nodes.c7 i hi;have a8:=h.nodes.c8 i hi;have hfz:=h.nodes.frozen;have hi2:(i:Int)<N:=by omega
 obtain⟨hm0,hf0⟩:=aIC h hi;have HR:=qA hR;clear hR;have H0:=qA h0;clear h0;have H1:=qA h1;clear h1;go_enter Tryz.func167,Tryz.ntmps167
 go_wp2
 generalize hW:(((w.setCell ⟨g,i*9+5,none⟩ (.int .i64 1)).setCell ⟨g,i*9+6,none⟩ (.int .i64 i)).setCell ⟨g,i*9+8,none⟩ (.int .i64 (wrap64 (1+(σ i).light))))=W0 at *;clear hW a0 a1 a5 a6 a7 a8 hfz c1;go_loopw [33] (fun x wr=>∃t:Nat,t<=2/\x=.int .i64 t/\aE wr pf g N cap (aBZ σ i t) ed/\Fr [g] w wr) (fun x _=>2-(intOf x).toNat)
 case atStart=>exact⟨0,by omega,rfl,hm0,hf0⟩
 case round=>
  clear hm0 hf0;obtain⟨t,ht,rfl,hL,hF⟩:=hrel;by_cases hlt:t<2
  {
  have hInR:=yW HR.out hi H0.out H1.out t;obtain⟨k,hix,hkN,hki,hnx⟩:∃k:Nat,(∀W:World,(Instr.index 249 (.agg #[.int .i64 (σ i).k0,.int .i64 (σ i).k1]) (.int .i64 t)).run Tryz.prog W=.ok (.int .i64 k) W)/\k<N/\k≠i/\aBZ σ i (t+1)=aR (aBZ σ i t) i k:=by {
  rcases(show t=0∨t=1 by omega) with rfl|rfl
  · exact⟨(σ i).k0,fun W=>pB _ _ W,(HR.out i hi).1,H0.out,rfl⟩
  · exact⟨(σ i).k1,fun W=>pC _ _ W,(HR.out i hi).2.1,H1.out,rfl⟩};have Hnx:=qA hnx;clear hnx;have HIn:=qA hInR;clear hInR;generalize aBZ σ i t=τ at *;by_cases hk0:k=0
  {
  subst hk0;go_wp2
  go_roundw
  case rel=>exact⟨t+1,by omega,by go_num,by rw[Hnx.out];exact hL,hF⟩
  case measure=>simp[intOf];omega}
  {
  have hb0:((k:Int) == 0)=false:=qR.2 (by omega);have hk2:(k:Int)<N:=by omega
  have c1:=hL.hd.cell 1;simp only[zJ,zK]at c1;have a5:=hL.nodes.c5 i hi;have b5:=hL.nodes.c5 k hkN;have hfz:=hL.nodes.frozen;go_wp2
  refine bS 11 (fun w' =>aE w' pf g N cap (τ.upd i { τ i with size:=wrap64 ((τ i).size+(τ k).size) }) ed/\Fr [g] w w') (by kernel_rfl) (by kernel_rfl) (by kernel_rfl) ?_;iterate 11 (refine cK (by decide) (fun K hK=>?_);go_simp;refine hK _ ?_;clear hK K)
  refine bL rfl undef (fun w' hw' =>?_) ?_
  {
  obtain⟨nq,rfl⟩:=hw';go_simp;rw[aID];exact(hL.eqv (Eqv.drewN wr nq)).st5 (hF.drewN nq) hi _};refine cL ?_;rintro w2 ⟨hL2,hF2⟩;have hk1:τ.upd i { τ i with size:=wrap64 ((τ i).size+(τ k).size) } k=τ k:=aF hki;have c1' :=hL2.hd.cell 1;simp only[zJ,zK]at c1';have a8:=hL2.nodes.c8 i hi;have b8:=hL2.nodes.c8 k hkN;rw[hk1]at b8;rw[aH]at a8;have hfz2:=hL2.nodes.frozen;clear a5 b5 hfz c1 hk1;go_wp2
  refine bS 11 (fun w' =>aE w' pf g N cap ((τ.upd i { τ i with size:=wrap64 ((τ i).size+(τ k).size) }).upd i { τ i with size:=wrap64 ((τ i).size+(τ k).size),total:=wrap64 ((τ i).total+(τ k).total) }) ed/\Fr [g] w w') (by kernel_rfl) (by kernel_rfl) (by kernel_rfl) ?_;iterate 11 (refine cK (by decide) (fun K hK=>?_);go_simp;refine hK _ ?_;clear hK K)
  refine bL rfl undef (fun w' hw' =>?_) ?_
  {
  obtain⟨nq,rfl⟩:=hw';go_simp;have:=(hL2.eqv (Eqv.drewN w2 nq)).st8 (hF2.drewN nq) hi (wrap64 ((τ i).total+(τ k).total));rw[aH]at this;rw[aID];exact this};refine cL ?_;rintro w3 ⟨hL3,hF3⟩;clear a8 b8 hfz2 c1' hL hL2 hF hF2;have hns:aR τ i k=if bC ((τ.upd i { τ i with size:=wrap64 ((τ i).size+(τ k).size) }).upd i { τ i with size:=wrap64 ((τ i).size+(τ k).size),total:=wrap64 ((τ i).total+(τ k).total) }) (τ k).first (τ i).first then((τ.upd i { τ i with size:=wrap64 ((τ i).size+(τ k).size) }).upd i { τ i with size:=wrap64 ((τ i).size+(τ k).size),total:=wrap64 ((τ i).total+(τ k).total) }).upd i { τ i with size:=wrap64 ((τ i).size+(τ k).size),total:=wrap64 ((τ i).total+(τ k).total),first:=(τ k).first } else((τ.upd i { τ i with size:=wrap64 ((τ i).size+(τ k).size) }).upd i { τ i with size:=wrap64 ((τ i).size+(τ k).size),total:=wrap64 ((τ i).total+(τ k).total) }):=by {
  unfold aR;rw[qC hk0];simp only[aH,aF hki]};have Hns:=qA hns;clear hns;have c6:=hL3.nodes.c6 i hi;have d6:=hL3.nodes.c6 k hkN;have hk1:((τ.upd i { τ i with size:=wrap64 ((τ i).size+(τ k).size) }).upd i { τ i with size:=wrap64 ((τ i).size+(τ k).size),total:=wrap64 ((τ i).total+(τ k).total) }) k=τ k:=by rw[aF hki,aF hki]
  have hi1:((τ.upd i { τ i with size:=wrap64 ((τ i).size+(τ k).size) }).upd i { τ i with size:=wrap64 ((τ i).size+(τ k).size),total:=wrap64 ((τ i).total+(τ k).total) }) i={ τ i with size:=wrap64 ((τ i).size+(τ k).size),total:=wrap64 ((τ i).total+(τ k).total) }:=aH _ _ _;rw[hi1]at c6;rw[hk1]at d6;have hst:=fun nq:Nat=>(hL3.eqv (Eqv.drewN w3 nq)).st6 (hF3.drewN nq) hi (τ k).first
  rw[hi1]at hst;generalize ((τ.upd i { τ i with size:=wrap64 ((τ i).size+(τ k).size) }).upd i { τ i with size:=wrap64 ((τ i).size+(τ k).size),total:=wrap64 ((τ i).total+(τ k).total) })=τ2 at *;have hbf:=fun W (hW:aE W pf g N cap τ2 ed)=>aIB hW (τ k).first (τ i).first (HIn.out k hkN).2.2.2 (HIn.out i hi).2.2.2
  have Hbf:=qA hbf;clear hbf hk1 hi1;have hfz3:=hL3.nodes.frozen;have Hst:=qA hst;clear hst;dsimp only at c6
  cases hB:bC τ2 (τ k).first (τ i).first with
  | true=>{
  rw[hB]at Hbf Hns;clear hB;go_wp2
  go_quiet ((go_at_call 203;exact Calls.quiet_of (Hbf.out _ (hL3.eqv (Eqv.drewN _ _)))))
  go_wp2
  exact⟨⟨t+1,by omega,by go_num,by rw[Hnx.out,Hns.out,qD trivial];exact(Hst.out nq).1,(Hst.out nq).2⟩,by simp[intOf];omega⟩}
  | false=>{
  rw[hB]at Hbf Hns;clear hB;go_wp2
  go_quiet ((go_at_call 203;exact Calls.quiet_of (Hbf.out _ (hL3.eqv (Eqv.drewN _ _)))))
  go_wp2
  exact⟨⟨t+1,by omega,by go_num,by rw[Hnx.out,Hns.out,qC (by decide)];exact hL3.eqv (Eqv.drewN w3 nq),hF3.drewN nq⟩,by simp[intOf];omega⟩}}}
  {
  obtain rfl:t=2:=by omega
  go_wp2
  go_end0
  exact⟨rfl,hL,hF⟩}
def kS(σ:Tbl)(k:Nat):Tbl:=if k=0 then σ else σ.upd k { σ k with flip:= !(σ k).flip }
def kB(σ:Tbl)(i:Nat):Tbl:=σ.upd i { σ i with flip:=false,k0:=(σ i).k1,k1:=(σ i).k0 }
def vD(σ:Tbl)(i:Nat):Nat->Tbl
  | 0=>kB σ i
  | 1=>kS (kB σ i) (σ i).k1
  | _=>kS (kS (kB σ i) (σ i).k1) (σ i).k0
def push(σ:Tbl)(i:Nat):Tbl:=if (σ i).flip then vD σ i 2 else σ
theorem aE.congr{w:World}{pf g N cap:Nat}{σ τ:Tbl}{ed:Int}(h:aE w pf g N cap σ ed)(e:∀i,σ i=τ i):aE w pf g N cap τ ed:=by
 have:σ=τ:=funext e;rw[<-this];exact h
theorem aQH{w:World}{pf g N cap:Nat}{σ:Tbl}{ed:Int}(h:aE w pf g N cap σ ed)(i:Nat)(hi:i<N)(hR:InR N σ):
    Calls Tryz.prog 227 #[.pointer (some ⟨pf,0,none⟩),.int .i64 i] w fun e w' =>e=.returned (.tuple #[])/\aE w' pf g N cap (push σ i) ed/\Fr [g] w w' :=by
 have c1:=h.hd.cell 1;simp only[zJ,zK]at c1;have hN:=h.le;have a3:=h.nodes.c3 i hi;have hfz:=h.nodes.frozen;have hi2:(i:Int)<N:=by omega
 have HR:=qA hR;clear hR;by_cases hfl:(σ i).flip=true
 {
 have hp:push σ i=vD σ i 2:=by unfold push;rw[qD hfl]
 have Hp:=qA hp;clear hp;rw[hfl]at a3;have Hfl:=qA hfl;clear hfl;obtain⟨h1,f1⟩:=h.st3 (Fr.refl _ _) hi false;go_enter Tryz.func227,Tryz.ntmps227
 go_wp2
 generalize hW:w.setCell ⟨g,i*9+3,none⟩ (.bool false)=W0 at *;clear hW a3 c1 hfz;have a0:=h1.nodes.c0 i hi;have a1:=h1.nodes.c1 i hi;rw[aH]at a0 a1;dsimp only at a0 a1
 have hfz:=h1.nodes.frozen;have c1:=h1.hd.cell 1;simp only[zJ,zK]at c1;refine kQ [15,19] [1] (fun q w' =>match q with
   | 0=>∃n,w' =W0.drewN n
   | 1=>aE w' pf g N cap ((σ.upd i { σ i with flip:=false }).upd i { σ i with flip:=false,k0:=(σ i).k1 }) ed/\Fr [g] w w'
   | _=>aE w' pf g N cap (kB σ i) ed/\Fr [g] w w') (fun w' =>Iff.rfl) (by kernel_rfl) (by kernel_rfl) (by kernel_rfl) ?_
 refine gW (by decide) (fun K hK=>?_);go_simp;refine hK _ ?_;clear hK K;refine fV (by decide) (fun K hK=>?_);go_simp;refine hK _ ?_;clear hK K;iterate 13 (refine gW (by decide) (fun K hK=>?_);go_simp;refine hK _ ?_;clear hK K)
 refine fD (q:=0) (by decide) rfl undef (fun w' hw' =>?_) ?_
 {
 obtain⟨nq,rfl⟩:=hw';go_simp;have:=(h1.eqv (Eqv.drewN W0 nq)).st0 (f1.drewN nq) hi (σ i).k1;rw[aH]at this;exact this};iterate 3 (refine fV (by decide) (fun K hK=>?_);go_simp;refine hK _ ?_;clear hK K)
 refine fD (q:=1) (by decide) rfl undef (fun w' hw' =>?_) ?_
 {
 obtain⟨hA,hB⟩:=hw';have hfz' :=hA.nodes.frozen;have b1:=hA.nodes.c1 i hi;go_simp;have:=hA.st1 hB hi (σ i).k0;rw[aH]at this;refine⟨this.1.congr ?_,this.2⟩;intro j;by_cases e:j=i
 · subst e;simp[kB,aH]
 · simp[kB,aF e]};refine oY ?_;rintro w2 ⟨h2,f2⟩;clear a0 a1 hfz c1 h1 f1;have a0:=h2.nodes.c0 i hi;have a1:=h2.nodes.c1 i hi;simp only[kB,aH]at a0 a1;go_wp2
 clear a0 a1;go_loopw [43] (fun x wr=>∃t:Nat,t<=2/\x=.int .i64 t/\aE wr pf g N cap (vD σ i t) ed/\Fr [g] w wr) (fun x _=>2-(intOf x).toNat)
 case atStart=>exact⟨0,by omega,rfl,h2,f2⟩
 case round=>
  clear h2 f2;obtain⟨t,ht,rfl,hL,hF⟩:=hrel;by_cases hlt:t<2
  {
  obtain⟨k,hix,hkN,hnx⟩:∃k:Nat,(∀W:World,(Instr.index 249 (.agg #[.int .i64 (σ i).k1,.int .i64 (σ i).k0]) (.int .i64 t)).run Tryz.prog W=.ok (.int .i64 k) W)/\k<N/\vD σ i (t+1)=kS (vD σ i t) k:=by {
  rcases(show t=0∨t=1 by omega) with rfl|rfl
  · exact⟨(σ i).k1,fun W=>pB _ _ W,(HR.out i hi).2.1,rfl⟩
  · exact⟨(σ i).k0,fun W=>pC _ _ W,(HR.out i hi).1,rfl⟩};have Hnx:=qA hnx;clear hnx;generalize vD σ i t=τ at *;by_cases hk0:k=0
  {
  subst hk0;go_wp2
  exact⟨⟨t+1,by omega,by go_num,by rw[Hnx.out];exact hL,hF⟩,by simp[intOf];omega⟩}
  {
  have hb0:((k:Int) == 0)=false:=qR.2 (by omega);have hk2:(k:Int)<N:=by omega
  have c1:=hL.hd.cell 1;simp only[zJ,zK]at c1;have a3:=hL.nodes.c3 k hkN;have hfz:=hL.nodes.frozen;go_wp2
  refine bS 16 (fun w' =>aE w' pf g N cap (τ.upd k { τ k with flip:= !(τ k).flip }) ed/\Fr [g] w w') (by kernel_rfl) (by kernel_rfl) (by kernel_rfl) ?_;iterate 16 (refine cK (by decide) (fun K hK=>?_);go_simp;refine hK _ ?_;clear hK K)
  refine bL rfl undef (fun w' hw' =>?_) ?_
  {
  obtain⟨nq,rfl⟩:=hw';go_simp;exact(hL.eqv (Eqv.drewN wr nq)).st3 (hF.drewN nq) hkN _};refine cL ?_;rintro w3 ⟨h3,f3⟩;go_wp2
  exact⟨⟨t+1,by omega,by go_num,by rw[Hnx.out];unfold kS;rw[qC hk0];exact h3,f3⟩,by simp[intOf];omega⟩}}
  {
  obtain rfl:t=2:=by omega
  go_wp2
  go_end0
  exact⟨rfl,by rw[Hp.out];exact hL,hF⟩}}
 {
 have hfl:(σ i).flip=false:=by simpa using hfl
 have hp:push σ i=σ:=by unfold push;rw[qC (by simp[hfl])]
 rw[hp];clear hp;rw[hfl]at a3;go_enter Tryz.func227,Tryz.ntmps227
 go_wp2
 refine bodyPost_ret (results_none rfl _ _ _) rfl ?_;exact⟨rfl,h,Fr.refl _ _⟩}
def aT(σ:Tbl)(i:Nat):Nat×Bool:=
  if (σ i).up=0 then(0,false) else if (σ (σ i).up).k0=i then(0,true) else if (σ (σ i).up).k1=i then(1,true) else(0,false)
def aO(n:Nd)(s k:Nat):Nd:=if s=0 then { n with k0:=k } else { n with k1:=k }
def kid(n:Nd)(s:Nat):Nat:=if s=0 then n.k0 else n.k1
def hang(σ:Tbl)(i s k:Nat):Tbl:=
  let σ1:=σ.upd i (aO (σ i) s k)
  if k=0 then σ1 else σ1.upd k { σ1 k with up:=i }
theorem pD{w:World}{pf g N cap:Nat}{σ:Tbl}{ed:Int}(h:aE w pf g N cap σ ed)(i:Nat)(hi:i<N)(hR:InR N σ):
    Calls Tryz.prog 225 #[.pointer (some ⟨pf,0,none⟩),.int .i64 i] w fun e w' =>e=.returned (.tuple #[.int .i64 (aT σ i).1,.bool (aT σ i).2])/\w' =w:=by
 have c1:=h.hd.cell 1;simp only[zJ,zK]at c1;have hN:=h.le;have a2:=h.nodes.c2 i hi;have hp:=(hR i hi).2.2.1;have hi2:(i:Int)<N:=by omega
 have HR:=qA hR;clear hR;have hs:aT σ i=if (σ i).up=0 then(0,false) else if (σ (σ i).up).k0=i then(0,true) else if (σ (σ i).up).k1=i then(1,true) else(0,false):=rfl;generalize hpp:(σ i).up=p at *;have Hs:=qA hs;clear hs;by_cases hp0:p=0
 {
 subst hp0;rw[Hs.out,qD rfl];clear Hs;go_enter Tryz.func225,Tryz.ntmps225
 go_wp2
 go_ret2;exact⟨rfl,rfl⟩}
 {
 have hp2:(p:Int)<N:=by omega
 have hb0:((p:Int) == 0)=false:=qR.2 (by omega);have b0:=h.nodes.c0 p hp;have b1:=h.nodes.c1 p hp;have Hp0:=qA hp0;clear hp0;go_enter Tryz.func225,Tryz.ntmps225
 go_wp2
 clear a2 b0 b1 c1;go_loopw [27] (fun x wr=>∃t:Nat,t<=2/\x=.int .i64 t/\wr=w/\(0<t->(σ p).k0≠i)/\(1<t->(σ p).k1≠i)) (fun x _=>2-(intOf x).toNat)
 case atStart=>exact⟨0,by omega,rfl,rfl,by omega,by omega⟩
 case round=>
  obtain⟨t,ht,rfl,rfl,he0,he1⟩:=hrel;by_cases hlt:t<2
  {
  obtain⟨k,hix,hkN,hy,hn0,hn1⟩:∃k:Nat,(∀W:World,(Instr.index 249 (.agg #[.int .i64 (σ p).k0,.int .i64 (σ p).k1]) (.int .i64 t)).run Tryz.prog W=.ok (.int .i64 k) W)/\k<N/\(k=i->aT σ i=(t,true))/\(k≠i->0<t+1->(σ p).k0≠i)/\(k≠i->1<t+1->(σ p).k1≠i):=by {
  rcases(show t=0∨t=1 by omega) with rfl|rfl
  · exact⟨(σ p).k0,fun W=>pB _ _ W,(HR.out p hp).1,fun e=>by rw[Hs.out,qC Hp0.out,qD e],fun e _=>e,fun _ e=>by omega⟩
  · exact⟨(σ p).k1,fun W=>pC _ _ W,(HR.out p hp).2.1,fun e=>by rw[Hs.out,qC Hp0.out,qC (he0 (by decide)),qD e],fun _ _=>he0 (by decide),fun e _=>e⟩};have Hy:=qA hy;clear hy;have Hn0:=qA hn0;clear hn0;have Hn1:=qA hn1;clear hn1;clear he0 he1;by_cases hki:k=i
  {
  have hb:((k:Int) == (i:Int))=true:=beq_iff_eq.2 (by omega);go_wp2
  go_ret2;rw[Hy.out hki];exact⟨rfl,rfl⟩}
  {
  have hb:((k:Int) == (i:Int))=false:=qR.2 (by omega);go_wp2
  exact⟨⟨t+1,by omega,by go_num,trivial,Hn0.out hki,Hn1.out hki⟩,by simp[intOf];omega⟩}}
  {
  obtain rfl:t=2:=by omega
  have hs:aT σ i=(0,false):=by rw[Hs.out,qC Hp0.out,qC (he0 (by decide)),qC (he1 (by decide))]
  have Hs' :=qA hs;clear hs;clear Hs he0 he1;go_wp2
  go_ret2;rw[Hs'.out];exact⟨rfl,rfl⟩}}
theorem jO{w:World}{pf g N cap:Nat}{σ:Tbl}{ed:Int}(h:aE w pf g N cap σ ed)(i s k:Nat)(hi:i<N)(hs:s<2)(hk:k<N):
    Calls Tryz.prog 244 #[.pointer (some ⟨pf,0,none⟩),.int .i64 i,.int .i64 s,.int .i64 k] w fun e w' =>e=.returned (.tuple #[])/\aE w' pf g N cap (hang σ i s k) ed/\Fr [g] w w' :=by
 have c1:=h.hd.cell 1;simp only[zJ,zK]at c1;have hN:=h.le;have hfz:=h.nodes.frozen;have hi2:(i:Int)<N:=by omega
 have hk2:(k:Int)<N:=by omega
 have key:∀W1:World,aE W1 pf g N cap (σ.upd i (aO (σ i) s k)) ed/\Fr [g] w W1->(k=0->aE W1 pf g N cap (hang σ i s k) ed/\Fr [g] w W1)/\(k≠0->aE (W1.setCell ⟨g,k*9+2,none⟩ (.int .i64 i)) pf g N cap (hang σ i s k) ed/\Fr [g] w (W1.setCell ⟨g,k*9+2,none⟩ (.int .i64 i))):=by {
 intro W1 ⟨h1,f1⟩;constructor
 · intro e;unfold hang;rw[qD e];exact⟨h1,f1⟩
 · intro e;unfold hang;rw[qC e];exact h1.st2 f1 hk i};have Key:=qA key;clear key;rcases(show s=0∨s=1 by omega) with rfl|rfl
 {
 obtain⟨h1,f1⟩:=h.st0 (Fr.refl _ _) hi k;have a0:=h.nodes.c0 i hi;have K:=qA (Key.out _ ⟨h1,f1⟩);clear Key f1;by_cases hk0:k=0
 {
 have r:=K.out.1 hk0;clear K h1;subst hk0;go_enter Tryz.func244,Tryz.ntmps244
 go_wp2
 go_end0
 exact⟨rfl,r⟩}
 {
 have hb0:((k:Int) == 0)=false:=qR.2 (by omega);have hfz1:=h1.nodes.frozen;have d1:=h1.hd.cell 1;simp only[zJ,zK]at d1;have b2:=h1.nodes.c2 k hk;have r:=K.out.2 hk0;clear K h1;go_enter Tryz.func244,Tryz.ntmps244
 go_wp2
 go_end0
 exact⟨rfl,r⟩}}
 {
 obtain⟨h1,f1⟩:=h.st1 (Fr.refl _ _) hi k;have a0:=h.nodes.c1 i hi;have K:=qA (Key.out _ ⟨h1,f1⟩);clear Key f1;by_cases hk0:k=0
 {
 have r:=K.out.1 hk0;clear K h1;subst hk0;go_enter Tryz.func244,Tryz.ntmps244
 go_wp2
 go_end0
 exact⟨rfl,r⟩}
 {
 have hb0:((k:Int) == 0)=false:=qR.2 (by omega);have hfz1:=h1.nodes.frozen;have d1:=h1.hd.cell 1;simp only[zJ,zK]at d1;have b2:=h1.nodes.c2 k hk;have r:=K.out.2 hk0;clear K h1;go_enter Tryz.func244,Tryz.ntmps244
 go_wp2
 go_end0
 exact⟨rfl,r⟩}}
def rot1(σ:Tbl)(i:Nat):Tbl:=
  if (aT σ (σ i).up).2 then hang σ (σ (σ i).up).up (aT σ (σ i).up).1 i else σ.upd i { σ i with up:=(σ (σ i).up).up }
def uE(σ:Tbl)(i:Nat):Tbl:=hang (rot1 σ i) (σ i).up (aT σ i).1 (kid (rot1 σ i i) (1-(aT σ i).1))
def cV(σ:Tbl)(i:Nat):Tbl:=hang (uE σ i) i (1-(aT σ i).1) (σ i).up
def rotate(σ:Tbl)(i:Nat):Tbl:=refresh (refresh (cV σ i) (σ i).up) i
theorem Fr.then{g:Nat}{a b c:World}(h:Fr [g] a b)(h' :Fr [g] b c):Fr [g] a c:=h.trans h' (fun _ h=>.inl h)
theorem vE(σ:Tbl)(i:Nat):(aT σ i).1<2:=by unfold aT;split<;>(try split)<;>(try split)<;>decide
theorem InR.upd{N:Nat}{σ:Tbl}(h:InR N σ){i:Nat}{n:Nd}(hn:n.k0<N/\n.k1<N/\n.up<N/\n.first<N):InR N (σ.upd i n):=by
 intro j hj;by_cases e:j=i
 · subst e;rw[aH];exact hn
 · rw[aF e];exact h j hj
theorem InR.hang{N:Nat}{σ:Tbl}(h:InR N σ){i s k:Nat}(hi:i<N)(hk:k<N):InR N (hang σ i s k):=by
 have h1:InR N (σ.upd i (aO (σ i) s k)):=by {
 refine h.upd ?_;unfold aO;have:=h i hi;split
 · exact⟨hk,this.2⟩
 · exact⟨this.1,hk,this.2.2⟩};unfold Proofs.YtjdgpcjbgjnahaaGreatDoor.hang;dsimp only
 split
 · exact h1
 · exact h1.upd ⟨(h1 k hk).1,(h1 k hk).2.1,hi,(h1 k hk).2.2.2⟩
theorem InR.refresh{N:Nat}{σ:Tbl}(h:InR N σ){i:Nat}(hi:i<N)(h0:(σ i).k0≠i)(h1:(σ i).k1≠i):InR N (refresh σ i):=yW h hi h0 h1 2
theorem InR.kid{N:Nat}{σ:Tbl}(h:InR N σ){i:Nat}(hi:i<N)(s:Nat):kid (σ i) s<N:=by
 unfold Proofs.YtjdgpcjbgjnahaaGreatDoor.kid;split
 · exact(h i hi).1
 · exact(h i hi).2.1
theorem InR.rot1{N:Nat}{σ:Tbl}(h:InR N σ){i:Nat}(hi:i<N):InR N (rot1 σ i):=by
 have hp:=(h i hi).2.2.1;have hg:=(h _ hp).2.2.1;unfold Proofs.YtjdgpcjbgjnahaaGreatDoor.rot1;split
 · exact h.hang hg hi
 · exact h.upd ⟨(h i hi).1,(h i hi).2.1,hg,(h i hi).2.2.2⟩
theorem aG{σ:Tbl}{i j:Nat}:(refresh σ i j).k0=(σ j).k0/\(refresh σ i j).k1=(σ j).k1/\(refresh σ i j).up=(σ j).up/\(refresh σ i j).flip=(σ j).flip/\(refresh σ i j).key=(σ j).key/\(refresh σ i j).light=(σ j).light:=by
 unfold refresh aBZ;have a:=@gS (aR (dE σ i) i (σ i).k0) i (σ i).k1 j;have b:=@gS (dE σ i) i (σ i).k0 j;have c:(dE σ i j).k0=(σ j).k0/\(dE σ i j).k1=(σ j).k1/\(dE σ i j).up=(σ j).up/\(dE σ i j).flip=(σ j).flip/\(dE σ i j).key=(σ j).key/\(dE σ i j).light=(σ j).light:=by {
 by_cases e:j=i
 · subst e;simp[dE,aH]
 · simp[dE,aF e]};refine⟨a.1.trans (b.1.trans c.1),a.2.1.trans (b.2.1.trans c.2.1),a.2.2.1.trans (b.2.2.1.trans c.2.2.1),a.2.2.2.1.trans (b.2.2.2.1.trans c.2.2.2.1),a.2.2.2.2.1.trans (b.2.2.2.2.1.trans c.2.2.2.2.1),a.2.2.2.2.2.trans (b.2.2.2.2.2.trans c.2.2.2.2.2)⟩
theorem cJ{σ:Tbl}{i j:Nat}(h:j≠i):refresh σ i j=σ j:=by
 show aR (aR (dE σ i) i (σ i).k0) i (σ i).k1 j=_
 rw[fN h,fN h,dE,aF h]
theorem kT{w:World}{pf g N cap:Nat}{σ:Tbl}{ed:Int}(h:aE w pf g N cap σ ed)(i:Nat)(hi:i<N)(hR:InR N σ)
    (q0:(cV σ i (σ i).up).k0≠(σ i).up) (q1:(cV σ i (σ i).up).k1≠(σ i).up) (q2:(cV σ i i).k0≠i) (q3:(cV σ i i).k1≠i):
    Calls Tryz.prog 228 #[.pointer (some ⟨pf,0,none⟩),.int .i64 i] w fun e w' =>e=.returned (.tuple #[])/\aE w' pf g N cap (rotate σ i) ed/\Fr [g] w w' :=by
 have c1:=h.hd.cell 1;simp only[zJ,zK]at c1;have hN:=h.le;have hi2:(i:Int)<N:=by omega
 have hp:=(hR i hi).2.2.1;have hp2:((σ i).up:Int)<N:=by omega
 have hg:=(hR _ hp).2.2.1;have a2:=h.nodes.c2 i hi;have b2:=h.nodes.c2 _ hp;have hfz:=h.nodes.frozen;have hR1:=hR.rot1 hi;have hs:=vE σ i;have hs' :=vE σ (σ i).up;have hR2:InR N (uE σ i):=hR1.hang hp (hR1.kid hi _);have hR3:InR N (cV σ i):=hR2.hang hi hp;have HR:=qA hR;clear hR;have HR1:=qA hR1;clear hR1;have HR2:=qA hR2;clear hR2;have HR3:=qA hR3;clear hR3;have Q:=qA (zI (zI q0 q1) (zI q2 q3));clear q0 q1 q2 q3;have Hst:=qA (h.st2 (Fr.refl _ _) hi (σ (σ i).up).up);have hr1t:(aT σ (σ i).up).2=true->rot1 σ i=hang σ (σ (σ i).up).up (aT σ (σ i).up).1 i:=fun e=>by unfold rot1;rw[qD e]
 have hr1f:(aT σ (σ i).up).2=false->rot1 σ i=σ.upd i { σ i with up:=(σ (σ i).up).up }:=fun e=>by unfold rot1;rw[qC (by simp[e])]
 have Hr1t:=qA hr1t;clear hr1t;have Hr1f:=qA hr1f;clear hr1f;have Hr2:=qA (show uE σ i=hang (rot1 σ i) (σ i).up (aT σ i).1 (kid (rot1 σ i i) (1-(aT σ i).1)) from rfl);have Hr3:=qA (show cV σ i=hang (uE σ i) i (1-(aT σ i).1) (σ i).up from rfl);have s1:=pD h i hi HR.out;have s2:=pD h (σ i).up hp HR.out;have hh:=fun s (hs:s<2)=>jO h (σ (σ i).up).up s i hg hs hi;generalize hsi:aT σ i=si at *;generalize hsp:aT σ (σ i).up=sp at *;obtain⟨s,ok⟩:=si;obtain⟨s', b⟩:=sp;dsimp only at s1 s2 hs hs' Hr1t Hr1f Hr2 Hr3
 clear hsi hsp;have S1:=qA s1;clear s1;have S2:=qA s2;clear s2;have Hh:=qA (hh s' hs');clear hh hs';generalize hτ1:rot1 σ i=τ1 at *;generalize hτ2:uE σ i=τ2 at *;generalize hτ3:cV σ i=τ3 at *;have Hrot:=qA (show rotate σ i=refresh (refresh τ3 (σ i).up) i by rw[<-hτ3];rfl);clear hτ1 hτ2 hτ3;rcases(show s=0∨s=1 by omega) with rfl|rfl
 {
 have Hr2:=qA (show τ2=hang τ1 (σ i).up 0 (τ1 i).k1 from Hr2.out);have Hr3:=qA (show τ3=hang τ2 i 1 (σ i).up from Hr3.out);cases b with
 | true=>{
 have hr:=Hr1t.out rfl;have Hr:=qA hr;clear hr Hr1t Hr1f Hst;go_enter Tryz.func228,Tryz.ntmps228
 go_wp2_with fail
 refine S1.out.mono ?_;rintro _ _ ⟨rfl,rfl⟩;go_wp2_with fail
 refine S2.out.mono ?_;rintro _ _ ⟨rfl,rfl⟩;go_wp2_with fail
 refine Hh.out.mono ?_;rintro _ w1 ⟨rfl,hL1,hF1⟩;rw[<-Hr.out]at hL1;have k0:=hL1.nodes.c0 i hi;have k1:=hL1.nodes.c1 i hi;have u2:=hL1.nodes.c2 i hi;have hfz1:=hL1.nodes.frozen;have d1:=hL1.hd.cell 1;simp only[zJ,zK]at d1;go_wp2_with fail
 refine(jO hL1 (σ i).up 0 (τ1 i).k1 hp (by decide) (HR1.out i hi).2.1).mono ?_;rintro _ w2 ⟨rfl,hL2,hF2⟩;rw[<-Hr2.out]at hL2;clear hfz1 k0 k1 d1 hL1 u2;go_wp2_with fail
 refine(jO hL2 i 1 (σ i).up hi (by decide) hp).mono ?_;rintro _ w3 ⟨rfl,hL3,hF3⟩;rw[<-Hr3.out]at hL3;clear hL2;go_wp2_with fail
 refine(dU hL3 (σ i).up hp HR3.out Q.out.1.1 Q.out.1.2).mono ?_;rintro _ w4 ⟨rfl,hL4,hF4⟩;clear hL3;go_wp2_with fail
 refine(dU hL4 i hi (HR3.out.refresh hp Q.out.1.1 Q.out.1.2) (by rw[aG.1];exact Q.out.2.1) (by rw[aG.2.1];exact Q.out.2.2)).mono ?_;rintro _ w5 ⟨rfl,hL5,hF5⟩;clear hL4;go_wp2
 go_end0
 rw[<-Hrot.out]at hL5;exact⟨rfl,hL5,hF1.then (hF2.then (hF3.then (hF4.then hF5)))⟩}
 | false=>{
 have hr:=Hr1f.out rfl;have hst:=Hst.out;rw[<-hr]at hst;obtain⟨hL1,hF1⟩:=hst;clear hr Hr1t Hr1f Hst;go_enter Tryz.func228,Tryz.ntmps228
 go_wp2_with fail
 refine S1.out.mono ?_;rintro _ _ ⟨rfl,rfl⟩;go_wp2_with fail
 refine S2.out.mono ?_;rintro _ _ ⟨rfl,rfl⟩;have k0:=hL1.nodes.c0 i hi;have k1:=hL1.nodes.c1 i hi;have u2:=hL1.nodes.c2 i hi;have hfz1:=hL1.nodes.frozen;have d1:=hL1.hd.cell 1;simp only[zJ,zK]at d1;go_wp2_with fail
 refine(jO hL1 (σ i).up 0 (τ1 i).k1 hp (by decide) (HR1.out i hi).2.1).mono ?_;rintro _ w2 ⟨rfl,hL2,hF2⟩;rw[<-Hr2.out]at hL2;clear hfz1 k0 k1 d1 hL1 u2;go_wp2_with fail
 refine(jO hL2 i 1 (σ i).up hi (by decide) hp).mono ?_;rintro _ w3 ⟨rfl,hL3,hF3⟩;rw[<-Hr3.out]at hL3;clear hL2;go_wp2_with fail
 refine(dU hL3 (σ i).up hp HR3.out Q.out.1.1 Q.out.1.2).mono ?_;rintro _ w4 ⟨rfl,hL4,hF4⟩;clear hL3;go_wp2_with fail
 refine(dU hL4 i hi (HR3.out.refresh hp Q.out.1.1 Q.out.1.2) (by rw[aG.1];exact Q.out.2.1) (by rw[aG.2.1];exact Q.out.2.2)).mono ?_;rintro _ w5 ⟨rfl,hL5,hF5⟩;clear hL4;go_wp2
 go_end0
 rw[<-Hrot.out]at hL5;exact⟨rfl,hL5,hF1.then (hF2.then (hF3.then (hF4.then hF5)))⟩}}
 {
 have Hr2:=qA (show τ2=hang τ1 (σ i).up 1 (τ1 i).k0 from Hr2.out);have Hr3:=qA (show τ3=hang τ2 i 0 (σ i).up from Hr3.out);cases b with
 | true=>{
 have hr:=Hr1t.out rfl;have Hr:=qA hr;clear hr Hr1t Hr1f Hst;go_enter Tryz.func228,Tryz.ntmps228
 go_wp2_with fail
 refine S1.out.mono ?_;rintro _ _ ⟨rfl,rfl⟩;go_wp2_with fail
 refine S2.out.mono ?_;rintro _ _ ⟨rfl,rfl⟩;go_wp2_with fail
 refine Hh.out.mono ?_;rintro _ w1 ⟨rfl,hL1,hF1⟩;rw[<-Hr.out]at hL1;have k0:=hL1.nodes.c0 i hi;have k1:=hL1.nodes.c1 i hi;have u2:=hL1.nodes.c2 i hi;have hfz1:=hL1.nodes.frozen;have d1:=hL1.hd.cell 1;simp only[zJ,zK]at d1;go_wp2_with fail
 refine(jO hL1 (σ i).up 1 (τ1 i).k0 hp (by decide) (HR1.out i hi).1).mono ?_;rintro _ w2 ⟨rfl,hL2,hF2⟩;rw[<-Hr2.out]at hL2;clear hfz1 k0 k1 d1 hL1 u2;go_wp2_with fail
 refine(jO hL2 i 0 (σ i).up hi (by decide) hp).mono ?_;rintro _ w3 ⟨rfl,hL3,hF3⟩;rw[<-Hr3.out]at hL3;clear hL2;go_wp2_with fail
 refine(dU hL3 (σ i).up hp HR3.out Q.out.1.1 Q.out.1.2).mono ?_;rintro _ w4 ⟨rfl,hL4,hF4⟩;clear hL3;go_wp2_with fail
 refine(dU hL4 i hi (HR3.out.refresh hp Q.out.1.1 Q.out.1.2) (by rw[aG.1];exact Q.out.2.1) (by rw[aG.2.1];exact Q.out.2.2)).mono ?_;rintro _ w5 ⟨rfl,hL5,hF5⟩;clear hL4;go_wp2
 go_end0
 rw[<-Hrot.out]at hL5;exact⟨rfl,hL5,hF1.then (hF2.then (hF3.then (hF4.then hF5)))⟩}
 | false=>{
 have hr:=Hr1f.out rfl;have hst:=Hst.out;rw[<-hr]at hst;obtain⟨hL1,hF1⟩:=hst;clear hr Hr1t Hr1f Hst;go_enter Tryz.func228,Tryz.ntmps228
 go_wp2_with fail
 refine S1.out.mono ?_;rintro _ _ ⟨rfl,rfl⟩;go_wp2_with fail
 refine S2.out.mono ?_;rintro _ _ ⟨rfl,rfl⟩;have k0:=hL1.nodes.c0 i hi;have k1:=hL1.nodes.c1 i hi;have u2:=hL1.nodes.c2 i hi;have hfz1:=hL1.nodes.frozen;have d1:=hL1.hd.cell 1;simp only[zJ,zK]at d1;go_wp2_with fail
 refine(jO hL1 (σ i).up 1 (τ1 i).k0 hp (by decide) (HR1.out i hi).1).mono ?_;rintro _ w2 ⟨rfl,hL2,hF2⟩;rw[<-Hr2.out]at hL2;clear hfz1 k0 k1 d1 hL1 u2;go_wp2_with fail
 refine(jO hL2 i 0 (σ i).up hi (by decide) hp).mono ?_;rintro _ w3 ⟨rfl,hL3,hF3⟩;rw[<-Hr3.out]at hL3;clear hL2;go_wp2_with fail
 refine(dU hL3 (σ i).up hp HR3.out Q.out.1.1 Q.out.1.2).mono ?_;rintro _ w4 ⟨rfl,hL4,hF4⟩;clear hL3;go_wp2_with fail
 refine(dU hL4 i hi (HR3.out.refresh hp Q.out.1.1 Q.out.1.2) (by rw[aG.1];exact Q.out.2.1) (by rw[aG.2.1];exact Q.out.2.2)).mono ?_;rintro _ w5 ⟨rfl,hL5,hF5⟩;clear hL4;go_wp2
 go_end0
 rw[<-Hrot.out]at hL5;exact⟨rfl,hL5,hF1.then (hF2.then (hF3.then (hF4.then hF5)))⟩}}
inductive BT where
  | nil
  | node (f:Bool) (l:BT) (v:Nat) (r:BT)
namespace BT
def root:BT->Nat
  | nil=>0
  | node _ _ v _=>v
def nodes:BT->List Nat
  | nil=>[]
  | node _ l v r=>l.nodes++v::r.nodes
def seq:BT->List Nat
  | nil=>[]
  | node f l v r=>if f then(l.seq++v::r.seq).reverse else l.seq++v::r.seq
def flip:BT->BT
  | nil=>nil
  | node f l v r=>node (!f) l v r
theorem seq_flip(t:BT):t.flip.seq=t.seq.reverse:=by
 cases t with
 | nil=>rfl
 | node f l v r=>cases f<;>simp[flip,seq]
theorem nodes_flip(t:BT):t.flip.nodes=t.nodes:=by cases t<;>rfl
theorem root_flip(t:BT):t.flip.root=t.root:=by cases t<;>rfl
theorem seq_perm(t:BT):t.seq.Perm t.nodes:=by
 induction t with
 | nil=>exact .nil
 | node f l v r hl hr=>{
 have h:(l.seq++v::r.seq).Perm (l.nodes++v::r.nodes):=hl.append (hr.cons v);cases f with
 | false=>simpa[seq,nodes] using h
 | true=>simp only[seq,nodes,if_true];exact(List.reverse_perm _).trans h}
theorem root_mem{t:BT}(h:t.root≠0):t.root∈t.nodes:=by
 cases t with
 | nil=>exact absurd rfl h
 | node f l v r=>simp[root,nodes]
end BT
def tot(σ:Tbl)(l:List Nat):Int:=(l.map fun v=>1+(σ v).light).sum
def eM(σ:Tbl)(l:List Nat)(x:Nat):Prop:=x∈l/\∀y∈l,y≠x->bC σ x y=true
def Rep(σ:Tbl):BT->Nat->Prop
  | .nil,_=>True
  | .node f l v r,u=>(v≠0/\(σ v).up=u/\(σ v).flip=f/\(σ v).k0=l.root/\(σ v).k1=r.root)/\Rep σ l v/\Rep σ r v /\
      (σ v).size=wrap64 (BT.node f l v r).nodes.length/\(σ v).total=wrap64 (tot σ (BT.node f l v r).nodes)/\eM σ (BT.node f l v r).nodes (σ v).first
theorem bP{σ σ' :Tbl}{l:List Nat}(h:∀x∈l,(σ' x).light=(σ x).light):tot σ' l=tot σ l:=by
 unfold tot;congr 1;exact List.map_congr_left (fun x hx=>by rw[h x hx])
theorem kU{σ:Tbl}{l m:List Nat}(h:l.Perm m):tot σ l=tot σ m:=by
 unfold tot;induction h with
 | nil=>rfl
 | cons x _ ih=>simp[ih]
 | swap x y l=>simp;omega
 | trans _ _ h1 h2=>exact h1.trans h2
theorem cZ{σ σ' :Tbl}{l:List Nat}{x:Nat}(h:∀x∈l,(σ' x).key=(σ x).key)(hb:eM σ l x):eM σ' l x:=by
 refine⟨hb.1,fun y hy hne=>?_⟩;have:=hb.2 y hy hne;unfold bC at this ⊢;rw[h x hb.1,h y hy];exact this
theorem Rep.congr{σ σ' :Tbl}:∀{t:BT} {u:Nat},(∀x∈t.nodes,σ' x=σ x)->Rep σ t u->Rep σ' t u
  | .nil,_,_,_=>trivial
  | .node f l v r,u,h,⟨h1,hl,hr,h2,h3,h4⟩=>by
    have hv:=h v (by simp[BT.nodes]);refine⟨by rw[hv];exact h1,hl.congr (fun x hx=>h x (by simp[BT.nodes,hx])),hr.congr (fun x hx=>h x (by simp[BT.nodes,hx])),by rw[hv];exact h2,?_,?_⟩
    · rw[hv,bP (fun x hx=>by rw[h x hx])];exact h3
    · rw[hv];exact cZ (fun x hx=>by rw[h x hx]) h4
theorem Rep.reup{σ σ' :Tbl}{t:BT}{u u' :Nat}(h:Rep σ t u)(hnd:t.nodes.Nodup)(ho:∀x∈t.nodes,x≠t.root->σ' x=σ x)(hr:t.root≠0->σ' t.root={ σ t.root with up:=u' }):Rep σ' t u' :=by
 cases t with
 | nil=>trivial
 | node f l v r=>{
 obtain⟨h1,hl,hrr,h2,h3,h4⟩:=h;have hv:σ' v={ σ v with up:=u' }:=hr h1.1;have hnl:∀x∈l.nodes,x≠v:=by {
 intro x hx e;subst e;simp only[BT.nodes]at hnd;exact(qN.1 hnd).2.2 x hx x (by simp) rfl};have hnr:∀x∈r.nodes,x≠v:=by {
 intro x hx e;subst e;simp only[BT.nodes]at hnd;exact(qO.1 (qN.1 hnd).2.1).1 hx};have hlk:∀x∈(BT.node f l v r).nodes,(σ' x).light=(σ x).light/\(σ' x).key=(σ x).key:=by {
 intro x hx;by_cases e:x=v
 · subst e;rw[hv];exact⟨rfl,rfl⟩
 · rw[ho x hx e];exact⟨rfl,rfl⟩};refine⟨by rw[hv];exact⟨h1.1,rfl,h1.2.2⟩,hl.congr (fun x hx=>ho x (by simp[BT.nodes,hx]) (hnl x hx)),hrr.congr (fun x hx=>ho x (by simp[BT.nodes,hx]) (hnr x hx)),by rw[hv];exact h2,?_,?_⟩
 · rw[hv,bP (fun x hx=>(hlk x hx).1)];exact h3
 · rw[hv];exact cZ (fun x hx=>(hlk x hx).2) h4}
theorem sO(a b:Int):wrap64 (wrap64 a+wrap64 b)=wrap64 (a+b):=by unfold wrap64;omega
theorem xC{σ:Tbl}{x y:Nat}(h:x≠y):bC σ x y= !bC σ y x:=by
 unfold bC;by_cases h1:(σ x).key<(σ y).key
 {
 have h2:¬(σ y).key<(σ x).key:=by omega
 have h3:¬(σ y).key=(σ x).key:=by omega
 simp[h1,h2,h3]}
 {
 by_cases h2:(σ y).key<(σ x).key
 {
 have h3:¬(σ x).key=(σ y).key:=by omega
 simp[h1,h2,h3]}
 {
 have h3:(σ x).key=(σ y).key:=by omega
 by_cases h4:x<y
 {
 have:¬y<x:=by omega
 simp[h3,h4,this]}
 {
 have:y<x:=by omega
 simp[h3,h4,this]}}}
theorem nT{σ:Tbl}{x y z:Nat}(h1:bC σ x y=true)(h2:bC σ y z=true):bC σ x z=true:=by
 unfold bC at *;simp only[Bool.or_eq_true,qX,decide_eq_true_eq]at *;omega
theorem aFU{σ:Tbl}{l m:List Nat}{x y:Nat}(hx:eM σ l x)(hy:eM σ m y):eM σ (l++m) (if bC σ y x then y else x):=by
 by_cases hb:bC σ y x=true
 {
 rw[qD hb];refine⟨by simp[hy.1],fun z hz hne=>?_⟩;rcases qE.1 hz with hz|hz
 {
 by_cases e:z=x
 · rw[e];exact hb
 · exact nT hb (hx.2 z hz e)}
 · exact hy.2 z hz hne}
 {
 rw[qC hb];refine⟨by simp[hx.1],fun z hz hne=>?_⟩;rcases qE.1 hz with hz|hz
 · exact hx.2 z hz hne
 {
 by_cases e:x=y
 · exact hy.2 z hz (by rw[<-e];exact hne) |> fun h=>by rw[e];exact h
 {
 have hxy:bC σ x y=true:=by rw[xC e];simpa using hb
 by_cases e' :z=y
 · rw[e'];exact hxy
 · exact nT hxy (hy.2 z hz e')}}}
theorem iU{σ:Tbl}{l m:List Nat}{x:Nat}(h:l.Perm m)(hx:eM σ l x):eM σ m x:=
  ⟨h.mem_iff.1 hx.1,fun y hy=>hx.2 y (h.mem_iff.2 hy)⟩
theorem sP{σ:Tbl}{i:Nat}{k:BT}{l:List Nat}(hi:i∉k.nodes)(hk:Rep σ k i)(hsz:(σ i).size=wrap64 l.length)(htot:(σ i).total=wrap64 (tot σ l))(hb:eM σ l (σ i).first):
    (aR σ i k.root i).size=wrap64 (l++k.nodes).length/\(aR σ i k.root i).total=wrap64 (tot σ (l++k.nodes))/\eM σ (l++k.nodes) (aR σ i k.root i).first:=by
 cases k with
 | nil=>simpa[aR,BT.root,BT.nodes] using ⟨hsz,htot,hb⟩
 | node f a v b=>{
 obtain⟨h1,_,_,h2,h3,h4⟩:=hk;have hvi:v≠i:=by rintro rfl;exact hi (by simp[BT.nodes])
 have hj:=aFU hb h4;have hbef:∀τ:Tbl,(∀x,(τ x).key=(σ x).key)->∀x y,bC τ x y=bC σ x y:=by intro τ hτ x y;unfold bC;rw[hτ,hτ]
 have hfirst:(aR σ i v i).first=if bC σ (σ v).first (σ i).first then(σ v).first else(σ i).first:=by {
 unfold aR;rw[qC h1.1];simp only[aH,aF hvi];rw[hbef _ (fun x=>by by_cases e:x=i<;>simp[Tbl.upd,e])];split<;>simp[aH]};have hsize:(aR σ i v i).size=wrap64 ((σ i).size+(σ v).size)/\(aR σ i v i).total=wrap64 ((σ i).total+(σ v).total):=by {
 unfold aR;rw[qC h1.1];simp only[aH,aF hvi];split<;>simp[aH]};show(aR σ i v i).size=_/\(aR σ i v i).total=_/\eM σ _ (aR σ i v i).first
 refine⟨?_,?_,?_⟩
 · rw[hsize.1,hsz,h2,sO,zF,Int.natCast_add]
 · rw[hsize.2,htot,h3,sO];unfold tot;rw[List.map_append,List.sum_append]
 · rw[hfirst];exact hj}
theorem dJ{σ:Tbl}{f:Bool}{l r:BT}{v u:Nat}(hv:v≠0)(hup:(σ v).up=u)(hf:(σ v).flip=f)(h0:(σ v).k0=l.root)(h1:(σ v).k1=r.root)(hl:Rep σ l v)(hr:Rep σ r v)(nl:v∉l.nodes)(nr:v∉r.nodes):
    Rep (refresh σ v) (.node f l v r) u:=by
 have hlk:=@aG σ v v;have hc:∀x,x≠v->refresh σ v x=σ x:=fun x hx=>cJ hx;have key:(refresh σ v v).size=wrap64 (([v]++l.nodes)++r.nodes).length/\(refresh σ v v).total=wrap64 (tot σ (([v]++l.nodes)++r.nodes))/\eM σ (([v]++l.nodes)++r.nodes) (refresh σ v v).first:=by {
 have a:=sP (σ:=dE σ v) (i:=v) (k:=l) (l:=[v]) nl (hl.congr (fun x hx=>by rw[dE,aF (by rintro rfl;exact nl hx)])) (by simp[dE,aH,wrap64]) (by simp[dE,aH,tot]) (by simp[dE,aH,eM]);have hk0:∀x,(dE σ v x).light=(σ x).light/\(dE σ v x).key=(σ x).key:=by {
 intro x;by_cases e:x=v
 · subst e;simp[dE,aH]
 · simp[dE,aF e]};have hk1:∀x,(aR (dE σ v) v l.root x).light=(σ x).light/\(aR (dE σ v) v l.root x).key=(σ x).key:=by {
 intro x;have:=@gS (dE σ v) v l.root x;exact⟨this.2.2.2.2.2.trans (hk0 x).1,this.2.2.2.2.1.trans (hk0 x).2⟩};have b:=sP (σ:=aR (dE σ v) v l.root) (i:=v) (k:=r) (l:=[v]++l.nodes) nr (hr.congr (fun x hx=>by
   have:x≠v:=by rintro rfl;exact nr hx
   rw[fN this,dE,aF this])) a.1 (by rw[a.2.1,bP (fun x _=>(hk0 x).1),bP (σ' :=aR (dE σ v) v l.root) (fun x _=>(hk1 x).1)]) (cZ (fun x _=>by rw[(hk1 x).2,(hk0 x).2]) a.2.2)
 have e:refresh σ v=aR (aR (dE σ v) v l.root) v r.root:=by {
 show aR (aR (dE σ v) v (σ v).k0) v (σ v).k1=_
 rw[h0,h1]};rw[e];refine⟨b.1,?_,?_⟩
 · rw[b.2.1,bP (fun x _=>(hk1 x).1)]
 · exact cZ (fun x _=>((hk1 x).2).symm) b.2.2};have hp:(([v]++l.nodes)++r.nodes).Perm (l.nodes++v::r.nodes):=by {
 simp only[zC];exact List.perm_middle.symm};refine⟨⟨hv,by rw[hlk.2.2.1];exact hup,by rw[hlk.2.2.2.1];exact hf,by rw[hlk.1];exact h0,by rw[hlk.2.1];exact h1⟩,hl.congr (fun x hx=>hc x (by rintro rfl;exact nl hx)),hr.congr (fun x hx=>hc x (by rintro rfl;exact nr hx)),?_,?_,?_⟩
 · rw[key.1,hp.length_eq];rfl
 · rw[key.2.1,bP (σ:=σ) (σ' :=refresh σ v) (fun x _=>aG.2.2.2.2.2),kU hp];rfl
 · exact cZ (fun x _=>aG.2.2.2.2.1) (iU hp key.2.2)
theorem nU{σ:Tbl}{i s k x:Nat}(hik:k≠i):hang σ i s k x=if x=i then aO (σ i) s k else if x=k/\k≠0 then { σ k with up:=i } else σ x:=by
 unfold hang;by_cases hk:k=0
 {
 simp only[qD hk];by_cases e:x=i
 · subst e;rw[aH,qD rfl]
 · rw[aF e,qC e,qC (by simp[hk])]}
 {
 simp only[qC hk];by_cases e:x=k
 · subst e;rw[aH,qC hik,qD ⟨rfl,hk⟩,aF hik]
 {
 rw[aF e];by_cases e' :x=i
 · subst e'; rw[aH,qD rfl]
 · rw[aF e', qC e', qC (by simp[e])]}}
theorem sQ(n:Nd)(s k:Nat):kid (aO n s k) s=k:=by unfold kid aO;split<;>rfl
theorem mN{n:Nd}{s s' k:Nat}(hs:s<2)(hs' :s' < 2)(h:s' ≠ s):kid (aO n s k) s' =kid n s' :=by
 unfold kid aO;rcases(show s=0∨s=1 by omega) with rfl|rfl
 · rw[qC h,qC h];simp
 {
 obtain rfl:s' =0:=by omega
 simp}
theorem iI(n:Nd)(s k:Nat):(aO n s k).up=n.up/\(aO n s k).flip=n.flip/\(aO n s k).key=n.key/\(aO n s k).size=n.size/\(aO n s k).first=n.first/\(aO n s k).light=n.light/\(aO n s k).total=n.total:=by
 unfold aO;split<;>simp
theorem aIE(n:Nd)(s u:Nat):kid { n with up:=u } s=kid n s:=rfl
theorem aMY{σ:Tbl}{i p g s s' :Nat}(_hs:s<2)(hp:(σ i).up=p)(hg:(σ p).up=g)(h1:aT σ i=(s,true))(h2:aT σ p=(s', true))(hpi:p≠i)(hgi:g≠i)(hgp:g≠p)(hi0:i≠0)(hp0:p≠0)
    (hki:kid (σ i) (1-s)≠i) (hkp:kid (σ i) (1-s)≠p) (hkg:kid (σ i) (1-s)≠g∨kid (σ i) (1-s)=0) (x:Nat):
    cV σ i x=if x=i then { aO (σ i) (1-s) p with up:=g } else if x=p then { aO (σ p) s (kid (σ i) (1-s)) with up:=i } else if x=g then aO (σ g) s' i else if x=kid (σ i) (1-s)/\kid (σ i) (1-s)≠0 then { σ x with up:=p } else σ x:=by
 have a1:∀x,rot1 σ i x=if x=g then aO (σ g) s' i else if x=i then { σ i with up:=g } else σ x:=by {
 intro x;unfold rot1;rw[hp,h2,hg,qD rfl,nU (fun e=>hgi e.symm)];by_cases e:x=g
 · rw[qD e,qD e]
 {
 rw[qC e,qC e];by_cases e' :x=i
 · rw[qD ⟨e', hi0⟩,qD e']
 · rw[qC (fun h=>e' h.1),qC e']}};have hk1:kid (rot1 σ i i) (1-s)=kid (σ i) (1-s):=by rw[a1,qC (fun e=>hgi e.symm),qD rfl,aIE]
 generalize hk:kid (σ i) (1-s)=k at *;have a2:∀x,uE σ i x=if x=p then aO (σ p) s k else if x=k/\k≠0 then { rot1 σ i k with up:=p } else rot1 σ i x:=by {
 intro x;unfold uE;rw[hp,h1,hk1,nU hkp];have e:rot1 σ i p=σ p:=by rw[a1 p,qC (fun e=>hgp e.symm),qC hpi]
 rw[e]};unfold cV;rw[hp,h1,nU hpi];by_cases e1:x=i
 {
 subst e1;rw[qD rfl,qD rfl,a2,qC (fun e=>hpi e.symm),qC (fun h=>hki h.1.symm),a1,qC (fun e=>hgi e.symm),qD rfl];dsimp only;unfold aO;split<;>rfl}
 {
 rw[qC e1,qC e1];by_cases e2:x=p
 {
 subst e2;rw[qD ⟨rfl,hp0⟩,qD rfl,a2,qD rfl]}
 {
 rw[qC (fun h=>e2 h.1),qC e2,a2,qC e2];by_cases e3:x=k/\k≠0
 {
 have hxg:x≠g:=by {
 intro e;rcases hkg with h|h
 · exact h (e3.1.symm.trans e)
 · exact e3.2 h};rw[qD e3,qC hxg,qD e3,<-e3.1,a1,qC hxg,qC e1]}
 {
 rw[qC e3,a1];by_cases e4:x=g
 · rw[qD e4,qD e4]
 · rw[qC e4,qC e4,qC e1,qC e3]}}}
theorem aIF{σ:Tbl}{i p g s s' :Nat}(_hs:s<2)(hp:(σ i).up=p)(hg:(σ p).up=g)(h1:aT σ i=(s,true))(h2:aT σ p=(s', false))(hpi:p≠i)(hi0:i≠0)(hp0:p≠0)
    (hki:kid (σ i) (1-s)≠i) (hkp:kid (σ i) (1-s)≠p) (x:Nat):
    cV σ i x=if x=i then { aO (σ i) (1-s) p with up:=g } else if x=p then { aO (σ p) s (kid (σ i) (1-s)) with up:=i } else if x=kid (σ i) (1-s)/\kid (σ i) (1-s)≠0 then { σ x with up:=p } else σ x:=by
 have a1:∀x,rot1 σ i x=if x=i then { σ i with up:=g } else σ x:=by {
 intro x;unfold rot1;rw[hp,h2,hg,qC (by simp)];rfl};have hk1:kid (rot1 σ i i) (1-s)=kid (σ i) (1-s):=by rw[a1,qD rfl,aIE]
 generalize hk:kid (σ i) (1-s)=k at *;have a2:∀x,uE σ i x=if x=p then aO (σ p) s k else if x=k/\k≠0 then { rot1 σ i k with up:=p } else rot1 σ i x:=by {
 intro x;unfold uE;rw[hp,h1,hk1,nU hkp];have e:rot1 σ i p=σ p:=by rw[a1 p,qC hpi]
 rw[e]};unfold cV;rw[hp,h1,nU hpi];by_cases e1:x=i
 {
 subst e1;rw[qD rfl,qD rfl,a2,qC (fun e=>hpi e.symm),qC (fun h=>hki h.1.symm),a1,qD rfl];dsimp only;unfold aO;split<;>rfl}
 {
 rw[qC e1,qC e1];by_cases e2:x=p
 {
 subst e2;rw[qD ⟨rfl,hp0⟩,qD rfl,a2,qD rfl]}
 {
 rw[qC (fun h=>e2 h.1),qC e2,a2,qC e2];by_cases e3:x=k/\k≠0
 · rw[qD e3,qD e3,<-e3.1,a1,qC e1]
 · rw[qC e3,a1,qC e1,qC e3]}}
structure Fm where
  s:Bool
  f:Bool
  p:Nat
  o:BT
def Fm.fill(a:Fm)(t:BT):BT:=if a.s then .node a.f a.o a.p t else .node a.f t a.p a.o
def aQ:List Fm->BT->BT
  | [],t=>t
  | a::c,t=>aQ c (a.fill t)
def nV:List Fm->Nat->Nat
  | [],u=>u
  | a::_,_=>a.p
def sd(b:Bool):Nat:=if b then 1 else 0
def nB(σ:Tbl):List Fm->Nat->List Nat->Nat->Prop
  | [],_,_,_=>True
  | a::c,x,ns,u=>(a.p≠0/\(σ a.p).up=nV c u/\(σ a.p).flip=a.f/\kid (σ a.p) (sd a.s)=x/\kid (σ a.p) (sd !a.s)=a.o.root)/\Rep σ a.o a.p /\
      ((σ a.p).size=wrap64 (ns++a.p::a.o.nodes).length/\(σ a.p).total=wrap64 (tot σ (ns++a.p::a.o.nodes))/\eM σ (ns++a.p::a.o.nodes) (σ a.p).first)/\nB σ c a.p (ns++a.p::a.o.nodes) u
theorem iV(a:Fm)(t:BT):(a.fill t).nodes.Perm (t.nodes++a.p::a.o.nodes):=by
 unfold Fm.fill;cases a.s with
 | false=>exact .refl _
 | true=>{
 simp only[if_true,BT.nodes];refine List.perm_middle.trans (((List.perm_append_comm).cons a.p).trans List.perm_middle.symm)}
theorem iW(a:Fm)(t:BT):(a.fill t).root=a.p:=by unfold Fm.fill;split<;>rfl
theorem nB.perm{σ:Tbl}:∀{c:List Fm} {x:Nat} {ns ms:List Nat} {u:Nat},ns.Perm ms->nB σ c x ns u->nB σ c x ms u
  | [],_,_,_,_,_,_=>trivial
  | a::c,x,ns,ms,u,hp,⟨h1,h2,⟨h3,h4,h5⟩,h6⟩=>by
    have hq:(ns++a.p::a.o.nodes).Perm (ms++a.p::a.o.nodes):=hp.append_right _;exact⟨h1,h2,⟨by rw[h3,hq.length_eq],by rw[h4,kU hq],iU hq h5⟩,h6.perm hq⟩
theorem aIG{σ:Tbl}{a:Fm}{t:BT}{u:Nat}:Rep σ (a.fill t) u↔Rep σ t a.p/\(a.p≠0/\(σ a.p).up=u/\(σ a.p).flip=a.f/\kid (σ a.p) (sd a.s)=t.root/\kid (σ a.p) (sd !a.s)=a.o.root)/\Rep σ a.o a.p /\
      ((σ a.p).size=wrap64 (t.nodes++a.p::a.o.nodes).length/\(σ a.p).total=wrap64 (tot σ (t.nodes++a.p::a.o.nodes))/\eM σ (t.nodes++a.p::a.o.nodes) (σ a.p).first):=by
 have hp:=iV a t;obtain⟨s,f,p,o⟩:=a;cases s with
 | false=>{
 simp only[Fm.fill,Rep,kid,sd,Bool.not_false,if_true,Bool.false_eq_true,if_false,BT.nodes,Nat.one_ne_zero];constructor
 · rintro⟨⟨a1,a2,a3,a4,a5⟩,b,c,d⟩;exact⟨b,⟨a1,a2,a3,a4,a5⟩,c,d⟩
 · rintro⟨b,⟨a1,a2,a3,a4,a5⟩,c,d⟩;exact⟨⟨a1,a2,a3,a4,a5⟩,b,c,d⟩}
 | true=>{
 simp only[Fm.fill,if_true,BT.nodes]at hp;simp only[Fm.fill,Rep,kid,sd,Bool.not_true,if_true,Bool.false_eq_true,if_false,BT.nodes,Nat.one_ne_zero];rw[hp.length_eq,kU hp];constructor
 · rintro⟨⟨a1,a2,a3,a4,a5⟩,b,c,d,e,g⟩;exact⟨c,⟨a1,a2,a3,a5,a4⟩,b,d,e,iU hp g⟩
 · rintro⟨c,⟨a1,a2,a3,a5,a4⟩,b,d,e,g⟩;exact⟨⟨a1,a2,a3,a4,a5⟩,b,c,d,e,iU hp.symm g⟩}
theorem eQ{σ:Tbl}:∀{c:List Fm} {t:BT} {u:Nat},Rep σ (aQ c t) u↔Rep σ t (nV c u)/\nB σ c t.root t.nodes u
  | [],t,u=>by simp[aQ,nV,nB]
  | a::c,t,u=>by
    simp only[aQ,nV,nB];rw[eQ,aIG,iW];constructor
    · rintro⟨⟨h1,h2,h3,h4⟩,h5⟩;exact⟨h1,h2,h3,h4,h5.perm (iV a t)⟩
    · rintro⟨h1,h2,h3,h4,h5⟩;exact⟨⟨h1,h2,h3,h4⟩,h5.perm (iV a t).symm⟩
def aS:List Fm->List Nat
  | []=>[]
  | a::c=>a.p::a.o.nodes++aS c
def Out(σ:Tbl)(u:Nat)(ns:List Nat):Prop:=u=0∨(u∉ns/\(σ u).k0∉ns/\(σ u).k1∉ns)
theorem vF(b:Bool):sd b<2:=by cases b<;>decide
theorem gT{σ:Tbl}{i p o:Nat}{s:Bool}(_hi:i≠0)(hp:p≠0)(hup:(σ i).up=p)(h1:kid (σ p) (sd s)=i)(h2:kid (σ p) (sd !s)=o)(ho:o≠i):aT σ i=(sd s,true):=by
 unfold aT;rw[hup,qC hp];cases s with
 | false=>simp only[sd,kid]at h1;rw[qD (by simpa using h1)];rfl
 | true=>{
 simp[sd,kid]at h1 h2;rw[qC (by rw[h2];exact ho),qD h1];rfl}
theorem sR{σ:Tbl}{i u:Nat}{ns:List Nat}(hup:(σ i).up=u)(h:Out σ u ns)(hi:i∈ns):aT σ i=(0,false):=by
 unfold aT;rw[hup];rcases h with h|⟨_,h0,h1⟩
 · rw[qD h]
 {
 by_cases e:u=0
 · rw[qD e]
 · rw[qC e,qC (by rintro rfl;exact h0 hi),qC (by rintro rfl;exact h1 hi)]}
def uF(a:Fm)(l:BT)(i:Nat)(r:BT):BT:=if a.s then .node false (.node false a.o a.p l) i r else .node false l i (.node false r a.p a.o)
theorem aIH(a:Fm)(hf:a.f=false)(l:BT)(i:Nat)(r:BT):(uF a l i r).seq=(a.fill (.node false l i r)).seq:=by
 obtain⟨s,f,p,o⟩:=a;subst hf;cases s<;>simp[uF,Fm.fill,BT.seq]
theorem sS(a:Fm)(l:BT)(i:Nat)(r:BT):(uF a l i r).nodes=(a.fill (.node false l i r)).nodes:=by
 obtain⟨s,f,p,o⟩:=a;cases s<;>simp[uF,Fm.fill,BT.nodes]
theorem iX:∀(c:List Fm) {t t' :BT},t.seq=t'.seq->(aQ c t).seq=(aQ c t').seq
  | [],_,_,h=>h
  | a::c,t,t', h=>iX c (by unfold Fm.fill;split<;>simp[BT.seq,h])
theorem aY:∀(c:List Fm) (t:BT),(aQ c t).nodes.Perm (t.nodes++aS c)
  | [],t=>by simp[aQ,aS]
  | a::c,t=>by
    refine(aY c (a.fill t)).trans ?_;simp only[aS];have:=(iV a t).append_right (aS c);simpa using this
theorem Rep.ne0{σ:Tbl}:∀{t:BT} {u x:Nat},Rep σ t u->x∈t.nodes->x≠0
  | .nil,_,_,_,hx=>by cases hx
  | .node f l v r,u,x,⟨h1,hl,hr,_⟩,hx=>by
    simp only[BT.nodes,qE,qB]at hx;rcases hx with hx|rfl|hx
    · exact hl.ne0 hx
    · exact h1.1
    · exact hr.ne0 hx
theorem nB.congr{σ σ' :Tbl}:∀{c:List Fm} {x:Nat} {ns:List Nat} {u:Nat},(∀y∈aS c,σ' y=σ y)->(∀y∈ns,(σ' y).light=(σ y).light/\(σ' y).key=(σ y).key)->nB σ c x ns u->nB σ' c x ns u
  | [],_,_,_,_,_,_=>trivial
  | a::c,x,ns,u,hc,hn,⟨h1,h2,⟨h3,h4,h5⟩,h6⟩=>by
    have hp:σ' a.p=σ a.p:=hc a.p (by simp[aS]);have ho:∀y∈a.o.nodes,σ' y=σ y:=fun y hy=>hc y (by simp[aS,hy]);have hlk:∀y∈ns++a.p::a.o.nodes,(σ' y).light=(σ y).light/\(σ' y).key=(σ y).key:=by
      intro y hy;simp only[qE,qB]at hy;rcases hy with hy|rfl|hy
      · exact hn y hy
      · rw[hp];exact⟨rfl,rfl⟩
      · rw[ho y hy];exact⟨rfl,rfl⟩
    refine⟨by rw[hp];exact h1,h2.congr ho,⟨by rw[hp];exact h3,by rw[hp,bP (fun y hy=>(hlk y hy).1)];exact h4,by rw[hp];exact cZ (fun y hy=>(hlk y hy).2) h5⟩,?_⟩;exact h6.congr (fun y hy=>hc y (by simp[aS,hy])) hlk
theorem nB.move{σ σ' :Tbl}{a:Fm}{c:List Fm}{x x' :Nat}{ns:List Nat}{u:Nat}(h:nB σ (a::c) x ns u)(hp:σ' a.p=aO (σ a.p) (sd a.s) x')(hn:∀y∈ns,(σ' y).light=(σ y).light/\(σ' y).key=(σ y).key)
    (ho:∀y∈a.o.nodes++aS c,σ' y=σ y):nB σ' (a::c) x' ns u:=by
 obtain⟨⟨h1,h1a,h1b,h1c,h1d⟩,h2,⟨h3,h4,h5⟩,h6⟩:=h;have hr:=iI (σ a.p) (sd a.s) x';have hlk:∀y∈ns++a.p::a.o.nodes,(σ' y).light=(σ y).light/\(σ' y).key=(σ y).key:=by {
 intro y hy;simp only[qE,qB]at hy;rcases hy with hy|rfl|hy
 · exact hn y hy
 · rw[hp];exact⟨hr.2.2.2.2.2.1,hr.2.2.1⟩
 · rw[ho y (by simp[hy])];exact⟨rfl,rfl⟩};refine⟨⟨h1,by rw[hp,hr.1];exact h1a,by rw[hp,hr.2.1];exact h1b,by rw[hp,sQ],?_⟩,h2.congr (fun y hy=>ho y (by simp[hy])),⟨by rw[hp,hr.2.2.2.1];exact h3,?_,?_⟩,?_⟩
 · rw[hp,mN (vF _) (vF _) (by cases a.s<;>decide)];exact h1d
 · rw[hp,hr.2.2.2.2.2.2,bP (fun y hy=>(hlk y hy).1)];exact h4
 · rw[hp,hr.2.2.2.2.1];exact cZ (fun y hy=>(hlk y hy).2) h5
 · exact h6.congr (fun y hy=>ho y (by simp[hy])) hlk
structure cE (σ σ' :Tbl) (ns:List Nat):Prop where
  other:∀x,x∉ns->σ' x=σ x
  lk:∀x,(σ' x).light=(σ x).light/\(σ' x).key=(σ x).key
theorem nC{σ:Tbl}{a:Fm}{c:List Fm}{l r:BT}{i u:Nat}(h:Rep σ (aQ (a::c) (.node false l i r)) u)(haf:a.f=false)(hnd:(aQ (a::c) (.node false l i r)).nodes.Nodup)
    (hO:Out σ u (aQ (a::c) (.node false l i r)).nodes):
    Rep (rotate σ i) (aQ c (uF a l i r)) u/\cE σ (rotate σ i) (aQ (a::c) (.node false l i r)).nodes /\
      ((cV σ i (σ i).up).k0≠(σ i).up/\(cV σ i (σ i).up).k1≠(σ i).up/\(cV σ i i).k0≠i/\(cV σ i i).k1≠i):=by
  have hpm:=aY (a::c) (.node false l i r);have hnd' :=hpm.nodup_iff.1 hnd;have hmem:∀x,x∈(aQ (a::c) (.node false l i r)).nodes↔x∈(BT.node false l i r).nodes++aS (a::c):=fun x=>hpm.mem_iff;have hall0:∀x,x∈(aQ (a::c) (.node false l i r)).nodes->x≠0:=fun x hx=>h.ne0 hx;obtain⟨hT,hC⟩:=eQ.1 h;generalize hNS:(aQ (a::c) (BT.node false l i r)).nodes=NS at *;obtain⟨s,f,p,o⟩:=a;dsimp only at haf;subst haf
  obtain⟨⟨hi0,hiu,hif,hik0,hik1⟩,hl,hr,_⟩:=hT;obtain⟨⟨hp0,hpu,hpf,hpk,hpo⟩,hRo,_,hC'⟩:=id hC;simp only[nV]at hiu hl hr;dsimp only at hp0 hpu hpf hpk hpo hRo hC'
  replace hpk:kid (σ p) (sd s)=i:=hpk;simp only[aS,BT.nodes,qN,qO,qE,qB,zC,List.append_assoc]at hnd' hmem;have dil:i∉l.nodes:=by grind
  have dir:i∉r.nodes:=by grind
  have dio:i∉o.nodes:=by grind
  have dic:i∉aS c:=by grind
  have dpi:p≠i:=by grind
  have dpl:p∉l.nodes:=by grind
  have dpr:p∉r.nodes:=by grind
  have dpo:p∉o.nodes:=by grind
  have dpc:p∉aS c:=by grind
  have ndl:l.nodes.Nodup:=by grind
  have ndr:r.nodes.Nodup:=by grind
  have dlr:∀x∈l.nodes,x∉r.nodes:=by grind
  have dlo:∀x∈l.nodes,x∉o.nodes:=by grind
  have dro:∀x∈r.nodes,x∉o.nodes:=by grind
  have dlc:∀x∈l.nodes,x∉aS c:=by grind
  have drc:∀x∈r.nodes,x∉aS c:=by grind
  have doc:∀x∈o.nodes,x∉aS c:=by grind
  have h1:aT σ i=(sd s,true):=by
    refine gT hi0 hp0 hiu hpk hpo ?_;intro e;by_cases h0:o.root=0
    · exact hi0 (e.symm.trans h0)
    · exact dio (e▸BT.root_mem h0)
  obtain⟨m,hm,hmn,hmr⟩:∃m:BT,m=(if s then l else r)/\(∀x∈m.nodes,x∈l.nodes∨x∈r.nodes)/\kid (σ i) (1-sd s)=m.root:=by
    cases s with
    | false=>exact⟨r,rfl,fun x hx=>.inr hx,by simpa[sd,kid] using hik1⟩
    | true=>exact⟨l,rfl,fun x hx=>.inl hx,by simpa[sd,kid] using hik0⟩
  have hRm:Rep σ m i:=by rw[hm];split<;>assumption
  have ndm:m.nodes.Nodup:=by rw[hm];split<;>assumption
  have hki:kid (σ i) (1-sd s)≠i:=by
    rw[hmr];intro e;have:=hmn _ (BT.root_mem (by rw[e];exact hi0));rw[e]at this;exact this.elim dil dir
  have hkp:kid (σ i) (1-sd s)≠p:=by
    rw[hmr];intro e;have:=hmn _ (BT.root_mem (by rw[e];exact hp0));rw[e]at this;exact this.elim dpl dpr
  have key:(∀x,x≠i->x≠p->(x≠m.root∨m.root=0)->(c=[]∨x≠nV c u)->cV σ i x=σ x)/\cV σ i i={ aO (σ i) (1-sd s) p with up:=nV c u }/\cV σ i p={ aO (σ p) (sd s) m.root with up:=i } /\
      (m.root≠0->cV σ i m.root={ σ m.root with up:=p })/\(∀b c', c=b::c' -> cV σ i b.p=aO (σ b.p) (sd b.s) i):=by
    cases c with
    | nil=>
      have h2:aT σ p=(0,false):=sR (ns:=NS) (by rw[hpu];rfl) hO ((hmem p).2 (by simp));have hx:=aIF (vF s) hiu (by rw[hpu]) h1 h2 dpi hi0 hp0 hki hkp;rw[hmr]at hx hki hkp;refine⟨fun x e1 e2 e3 _=>?_,?_,?_,fun hm0=>?_,fun b c' e=>by cases e⟩
      · rw[hx,qC e1,qC e2,qC (fun h=>e3.elim (fun e=>e h.1) h.2)]
      · rw[hx,qD rfl]
      · rw[hx,qC dpi,qD rfl]
      · rw[hx,qC hki,qC hkp,qD ⟨rfl,hm0⟩]
    | cons b c' =>
      obtain⟨⟨hb0,hbu,hbf,hbk,hbo⟩,hRb,_,_⟩:=hC';simp only[nV]at hpu;have hbc:b.p∈aS (b::c'):=by simp[aS]
      have dbi:b.p≠i:=fun e=>dic (e▸hbc);have dbp:b.p≠p:=fun e=>dpc (e▸hbc);have h2:aT σ p=(sd b.s,true):=by
        refine gT hp0 hb0 hpu hbk hbo ?_;intro e;by_cases h0:b.o.root=0
        · exact hp0 (e.symm.trans h0)
        · exact dpc (by simp only[aS,zC,qB,qE];exact .inr (.inl (e▸BT.root_mem h0)))
      have hkg:kid (σ i) (1-sd s)≠b.p∨kid (σ i) (1-sd s)=0:=by
        rw[hmr];by_cases h0:m.root=0
        · exact .inr h0
        · refine .inl (fun e => ?_)
          have:=hmn _ (BT.root_mem h0);rw[e]at this;exact this.elim (fun h=>dlc _ h hbc) (fun h=>drc _ h hbc)
      have hx:=aMY (vF s) hiu hpu h1 h2 dpi dbi dbp hi0 hp0 hki hkp hkg;rw[hmr]at hx hki hkp hkg;refine⟨fun x e1 e2 e3 e4=>?_,?_,?_,fun hm0=>?_,fun b' c'' e=>?_⟩
      · rw[hx,qC e1,qC e2,qC (show x≠b.p from e4.elim (fun h=>by cases h) id),qC (fun h=>e3.elim (fun e=>e h.1) h.2)]
      · rw[hx,qD rfl];rfl
      · rw[hx,qC dpi,qD rfl]
      · rw[hx,qC hki,qC hkp,qC (hkg.elim id (fun h=>absurd h hm0)),qD ⟨rfl,hm0⟩]
      · cases e;rw[hx,qC dbi,qC dbp,qD rfl]
  obtain⟨k1,k2,k3,k4,k5⟩:=key;have hupc:c=[]∨nV c u∈aS c:=by cases c with
    | nil=>exact .inl rfl
    | cons b c' =>right;simp[nV,aS]
  have dmi:∀x∈m.nodes,x≠i:=fun x hx e=>(hmn x hx).elim (fun h=>dil (e▸h)) (fun h=>dir (e▸h));have dmp:∀x∈m.nodes,x≠p:=fun x hx e=>(hmn x hx).elim (fun h=>dpl (e▸h)) (fun h=>dpr (e▸h));have dmc:∀x∈m.nodes,c=[]∨x≠nV c u:=fun x hx=>hupc.imp id (fun hc e=>(hmn x hx).elim (fun h=>dlc _ h (e▸hc)) (fun h=>drc _ h (e▸hc)));have hRm3:Rep (cV σ i) m p:=hRm.reup ndm (fun x hx hne=>k1 x (dmi x hx) (dmp x hx) (.inl hne) (dmc x hx)) k4;have hRo3:Rep (cV σ i) o p:=hRo.congr (fun x hx=>k1 x (fun e=>dio (e▸hx)) (fun e=>dpo (e▸hx)) (.inl (fun e=>by
    have h0:m.root≠0:=by rw[<-e];exact hRo.ne0 hx
    exact(hmn _ (BT.root_mem h0)).elim (fun h=>dlo _ h (e▸hx)) (fun h=>dro _ h (e▸hx)))) (hupc.imp id (fun hc e=>doc x hx (e▸hc))))
  have hsr:=iI (σ p) (sd s) m.root;have hsi:=iI (σ i) (1-sd s) p;have nmp:p∉m.nodes:=fun hx=>dmp p hx rfl;have hP:Rep (refresh (cV σ i) p) (if s then .node false o p m else .node false m p o) i:=by
    have hk:kid (cV σ i p) (sd s)=m.root/\kid (cV σ i p) (sd !s)=o.root:=by
      rw[k3];refine⟨sQ _ _ _,?_⟩;show kid (aO _ _ _) _=_
      rw[mN (vF _) (vF _) (by cases s<;>decide)];exact hpo
    cases s with
    | false=>exact dJ hp0 (by rw[k3]) (by rw[k3];exact hsr.2.1.trans hpf) (by simpa[sd,kid] using hk.1) (by simpa[sd,kid] using hk.2) hRm3 hRo3 nmp dpo
    | true=>exact dJ hp0 (by rw[k3]) (by rw[k3];exact hsr.2.1.trans hpf) (by simpa[sd,kid] using hk.2) (by simpa[sd,kid] using hk.1) hRo3 hRm3 dpo nmp
  have r2:∀x,x≠p->refresh (cV σ i) p x=cV σ i x:=fun x hx=>cJ hx;have hI:∀(e:BT),Rep σ e i->(∀x∈e.nodes,x∉m.nodes/\x≠i/\x≠p/\x∉aS c)->Rep (refresh (cV σ i) p) e i:=by
    intro e he hd;refine he.congr (fun x hx=>?_);obtain⟨d1,d2,d3,d4⟩:=hd x hx;rw[r2 x d3];refine k1 x d2 d3 (.inl (fun e' =>?_)) (hupc.imp id (fun hc e' =>d4 (e' ▸ hc)));exact d1 (e' ▸ BT.root_mem (by rw[<-e'];exact he.ne0 hx))
  have hT2:Rep (rotate σ i) (uF ⟨s,false,p,o⟩ l i r) (nV c u):=by
    unfold rotate;rw[hiu];have hi3:refresh (cV σ i) p i={ aO (σ i) (1-sd s) p with up:=nV c u }:=by rw[r2 i dpi.symm,k2]
    cases s with
    | false=>
      simp only[Bool.false_eq_true,if_false]at hP hm;subst hm;refine dJ hi0 (by rw[hi3]) (by rw[hi3];exact hsi.2.1.trans hif) (by rw[hi3];simpa[aO,sd] using hik0) (by rw[hi3];simp[aO,sd,BT.root]) (hI l hl (fun x hx=>⟨dlr x hx,fun e=>dil (e▸hx),fun e=>dpl (e▸hx),dlc x hx⟩)) hP dil ?_;simp only[BT.nodes,qE,qB,not_or];exact⟨dir,dpi.symm,dio⟩
    | true=>
      simp only[if_true]at hP hm;subst hm;refine dJ hi0 (by rw[hi3]) (by rw[hi3];exact hsi.2.1.trans hif) (by rw[hi3];simp[aO,sd,BT.root]) (by rw[hi3];simpa[aO,sd] using hik1) hP (hI r hr (fun x hx=>⟨fun h=>dlr x h hx,fun e=>dir (e▸hx),fun e=>dpr (e▸hx),drc x hx⟩)) ?_ dir;simp only[BT.nodes,qE,qB,not_or];exact⟨dio,dpi.symm,dil⟩
  have hR:∀x,x≠i->x≠p->rotate σ i x=cV σ i x:=by
    intro x e1 e2;unfold rotate;rw[cJ e1,hiu,cJ e2]
  have hlk3:∀x,(cV σ i x).light=(σ x).light/\(cV σ i x).key=(σ x).key:=by
    intro x;by_cases e1:x=i
    · subst e1;rw[k2];exact⟨hsi.2.2.2.2.2.1,hsi.2.2.1⟩
    by_cases e2:x=p
    · subst e2;rw[k3];exact⟨hsr.2.2.2.2.2.1,hsr.2.2.1⟩
    by_cases e3:c=[]∨x≠nV c u
    · by_cases e4 : x ≠ m.root ∨ m.root = 0
      · rw[k1 x e1 e2 e4 e3];exact⟨rfl,rfl⟩
      · simp only [not_or, ne_eq, Classical.not_not] at e4
        rw[e4.1,k4 e4.2];exact⟨rfl,rfl⟩
    · cases c with
      | nil=>exact absurd (.inl rfl) e3
      | cons b c' =>
        have e4:x=b.p:=by
          apply qQ;intro hne;exact e3 (.inr hne)
        rw[e4,k5 b c' rfl];have:=iI (σ b.p) (sd b.s) i;exact⟨this.2.2.2.2.2.1,this.2.2.1⟩
  have hlk:∀x,(rotate σ i x).light=(σ x).light/\(rotate σ i x).key=(σ x).key:=by
    intro x;unfold rotate;have a:=@aG (refresh (cV σ i) (σ i).up) i x;have b:=@aG (cV σ i) (σ i).up x;exact⟨a.2.2.2.2.2.trans (b.2.2.2.2.2.trans (hlk3 x).1),a.2.2.2.2.1.trans (b.2.2.2.2.1.trans (hlk3 x).2)⟩
  refine⟨eQ.2 ⟨hT2,?_⟩,⟨fun x hx=>?_,hlk⟩,?_⟩
  · rw [sS, show (uF ⟨s, false, p, o⟩ l i r).root = i by unfold uF; split <;> rfl]
    have hC2:nB σ c p (Fm.fill ⟨s,false,p,o⟩ (.node false l i r)).nodes u:=hC'.perm (iV ⟨s,false,p,o⟩ (.node false l i r)).symm;cases c with
    | nil=>trivial
    | cons b c' =>
      have hbc:b.p∈aS (b::c'):=by simp[aS]
      refine hC2.move ?_ (fun y _=>hlk y) (fun y hy=>?_)
      · rw[hR _ (fun e=>dic (e▸hbc)) (fun e=>dpc (e▸hbc)),k5 b c' rfl]
      · have hyc : y ∈ aS (b :: c') := by simp only [aS, zC, qB]; exact .inr hy
        have hbn:y≠b.p:=by
          have:b.p∉b.o.nodes++aS c' :=by
            have:=hnd'.2.1;simp only[aS,zC,qN,qO,qE]at this;simp only[qE];grind
          exact fun e=>this (e▸hy)
        have e1:y≠i:=fun e=>dic (e▸hyc);have e2:y≠p:=fun e=>dpc (e▸hyc);rw[hR y e1 e2];refine k1 y e1 e2 ?_ (.inr hbn);by_cases h0:m.root=0
        · exact .inr h0
        · exact .inl (fun e=>(hmn _ (BT.root_mem h0)).elim (fun h=>dlc _ h (e▸hyc)) (fun h=>drc _ h (e▸hyc)))
  · have hx' : ¬ (x ∈ l.nodes ∨ x = i ∨ x ∈ r.nodes ∨ x = p ∨ x ∈ o.nodes ∨ x ∈ aS c) := fun h => hx ((hmem x).2 (by grind))
    simp only[not_or]at hx';obtain⟨e1,e2,e3,e4,e5,e6⟩:=hx';rw[hR x e2 e4];refine k1 x e2 e4 ?_ (hupc.imp id (fun hc e=>e6 (e▸hc)));by_cases h00:m.root=0
    · exact .inr h00
    · exact .inl (fun h0=>(hmn _ (BT.root_mem h00)).elim (fun h=>e1 (h0▸h)) (fun h=>e3 (h0▸h)))
  · rw [hiu, k3, k2]
    refine⟨?_,?_,?_,?_⟩
    · cases s with
      | false=>simp only[aO,sd,Bool.false_eq_true,if_false,if_true];rw[<-hmr];exact hkp
      | true=>
        simp[sd,kid]at hpo;simp[aO,sd];rw[hpo];intro e;exact dpo (e▸BT.root_mem (by rw[e];exact hp0))
    · cases s with
      | false=>
        simp[sd,kid]at hpo;simp[aO,sd];rw[hpo];intro e;exact dpo (e▸BT.root_mem (by rw[e];exact hp0))
      | true=>simp[aO,sd];rw[<-hmr];exact hkp
    · cases s with
      | false=>
        simp[aO,sd];rw[hik0];intro e;exact dil (e▸BT.root_mem (by rw[e];exact hi0))
      | true=>simp[aO,sd];exact dpi
    · cases s with
      | false=>simp[aO,sd];exact dpi
      | true=>
        simp[aO,sd];rw[hik1];intro e;exact dir (e▸BT.root_mem (by rw[e];exact hi0))
end Go.Proofs.YtjdgpcjbgjnahaaGreatDoor
