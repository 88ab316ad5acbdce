/- forest: its contracts, for the laws. -/
import Derived.BigQuiet
import Derived.WalkSpells
import Derived.Test.YtjdgpcjbgjnahaaGreatDoorE7
import Derived.Test.YtjdgpcjbgjnahaaGreatDoorE2
import Derived.Test.YtjdgpcjbgjnahaaGreatDoorE8
import Derived.Deep.RegionHeld3
import Derived.Test.YtjdgpcjbgjnahaaGreatDoorE4
import Derived.Maps.RangeWalk
import Derived.Shelf.Sort.Plain
import Derived.Shelf.Lay
import Derived.Shelf.Small.Bits
import Derived.Ground.NamesProg
import Derived.Sort.OwnSortedInts
import Derived.Test.YtjdgpcjbgjnahaaGreatDoorE1
set_option maxRecDepth 10000
set_option maxHeartbeats 1600000
set_option linter.unusedSimpArgs false
set_option linter.unusedVariables false
/- forest: its state in memory; valid, has, Count, Len, Tree. -/
namespace Go.Proofs.YtjdgpcjbgjnahaaGreatDoor
open Go.RowKit Classical
abbrev cH(b:Nat):Value:=.pointer (some ⟨b,0,none⟩)
def edV(e:Nat×Nat×Int)(t:Bool):Value:=.agg #[.int .i64 e.1,.int .i64 e.2.1,.int .i64 e.2.2,.bool t]
def edZ:Value:=.agg #[.int .i64 0,.int .i64 0,.int .i64 0,.bool false]
noncomputable def gU(G:bX)(T:Nat->Prop):Int->Option Value:=fun k=>if 0<=k then(G k.toNat).map (fun e=>edV e (decide (T k.toNat))) else none
theorem cT(G:bX)(T:Nat->Prop)(s:Nat):gU G T s=(G s).map (fun e=>edV e (decide (T s))):=by simp[gU]
def qOf(G:bX):Nat->Option Int:=fun i=>(G i).map fun e=>e.2.2
def okA:Value->Bool:=fun _=>true
structure FB (w:World) (pf pl g ph mb S V:Nat) (G:bX) (T:Nat->Prop) (key:Nat->Int) (n:Nat):Prop where
  hd:Blk w pf 152 [.int .i64 V,.int .i64 S,cH pl,cH ph,.map (some mb),.int .i64 (cF S T)]
  lct:LM w pl g (S+V) (TE S G T) key
  edges:dA Tryz.prog 3 .i64 okA w mb (gU G T) n
  gw:GW S V G
  keys:aTE S V G T key
  cn:n=cF S (fun s=>(G s).isSome=true)
  leS:S<=16384
  leV:V<=4096
  ne1:pf≠pl
  ne2:pf≠g
  ne3:pf≠mb
  ne4:pl≠mb
  ne5:g≠mb
section
variable {w w' :World} {pf pl g ph mb S V n:Nat} {G:bX} {T:Nat->Prop} {key:Nat->Int} {l:List Nat}
theorem FB.fr{X:List Nat}(h:FB w pf pl g ph mb S V G T key n)(hf:Fr X w w')(h1:pf∉X)(h2:pl∉X)(h3:g∉X)(h4:mb∉X):FB w' pf pl g ph mb S V G T key n:=
  ⟨hf.blk h.hd h1,h.lct.fr hf h2 h3,h.edges.same (hf.keep mb h.edges.lt h4),h.gw,h.keys,h.cn,h.leS,h.leV,h.ne1,h.ne2,h.ne3,h.ne4,h.ne5⟩
theorem FB.fr0(h:FB w pf pl g ph mb S V G T key n)(hf:Fr [] w w'):FB w' pf pl g ph mb S V G T key n:=h.fr hf (by simp) (by simp) (by simp) (by simp)
theorem FB.lt(h:FB w pf pl g ph mb S V G T key n):pf<w.heap.size/\pl<w.heap.size/\g<w.heap.size/\mb<w.heap.size:=⟨h.hd.lt,(LG.lts h.lct).1,(LG.lts h.lct).2.1,h.edges.lt⟩
theorem FB.frs(h:FB w pf pl g ph mb S V G T key n):Frs (TE S G T):=LG.frs h.lct
@[go_sem] theorem aXV(w:World)(r:Option Nat):(binOp .neq 150 (.map r) (.map none)).run Tryz.prog w=.ok (.bool (!r.isNone)) w:=run_neq_map_nil w _ _ _ r Tryz.underlying150
theorem iM(h:FB w pf pl g ph mb S V G T key n):Calls Tryz.prog 99 #[cH pf] w fun e w' =>e=.returned (.bool true)/\w' =w:=by
 have c4:=h.hd.cell 4;simp only[zJ,zK]at c4;clear h;go_enter Tryz.func99,Tryz.ntmps99
 go_wp2
 go_ret;exact⟨rfl,rfl⟩
theorem kL(h:FB w pf pl g ph mb S V G T key n)(v:Int):Calls Tryz.prog 165 #[cH pf,.int .i64 v] w fun e w' =>e=.returned (.bool (inV V v))/\w' =w:=by
 have c0:=h.hd.cell 0;simp only[zJ]at c0;have hV:=qA (iM h);clear h;by_cases h1:0<=v
 {
 by_cases h2:v<V
 {
 have e:inV V v=true:=by simp[inV,h1,h2]
 rw[e];clear e;go_enter Tryz.func165,Tryz.ntmps165
 go_wp2_with fail
 refine hV.out.mono ?_;rintro _ w1 ⟨rfl,rfl⟩;go_wp2
 go_ret;exact⟨rfl,rfl⟩}
 {
 have e:inV V v=false:=by simp[inV,h2]
 rw[e];clear e;have t2:decide (v<V)=false:=qF h2;go_enter Tryz.func165,Tryz.ntmps165
 go_wp2_with fail
 refine hV.out.mono ?_;rintro _ w1 ⟨rfl,rfl⟩;go_wp2
 go_ret;exact⟨rfl,rfl⟩}}
 {
 have e:inV V v=false:=by simp[inV,h1]
 rw[e];clear e;go_enter Tryz.func165,Tryz.ntmps165
 go_wp2_with fail
 refine hV.out.mono ?_;rintro _ w1 ⟨rfl,rfl⟩;go_wp2
 go_ret;exact⟨rfl,rfl⟩}
theorem aNI(h:FB w pf pl g ph mb S V G T key n):Calls Tryz.prog 61 #[cH pf] w fun e w' =>e=.returned (.int .i64 ((V:Int)-cF S T))/\Fr [] w w' :=by
 have c0:=h.hd.cell 0;have c5:=h.hd.cell 5;simp only[zJ,zK]at c0 c5;have hV:=qA (iM h);have h1:=h.leV;have h2:=h.leS;have h3:=mU S T;clear h;generalize cF S T=q at *;go_enter Tryz.func61,Tryz.ntmps61
 go_wp2_with fail
 refine hV.out.mono ?_;rintro _ w1 ⟨rfl,rfl⟩;go_wp2_with fail
 go_quiet (fail)
 go_wp2
 go_ret;exact⟨rfl,(Fr.refl _ _).drewN _⟩
end
def eW(n:Nat)(key:Nat->Int)(a:Int)(k:Int):Nat->Int:=fun v=>if inV n a=true/\v=a.toNat then k else key v
def mX(n:Nat)(a:Int):Int:=if inV n a then 0 else 3
theorem aTG{w:World}{pf g n:Nat}{E:Nat->Nat->Prop}{key:Nat->Int}{ed:Int}(h:LG w pf g n E key ed)(a:Int)(k:Int):
    Calls Tryz.prog 131 #[.pointer (some ⟨pf,0,none⟩),.int .i64 a,.int .i64 k] w fun e w' =>e=.returned (.int .i64 (mX n a))/\LG w' pf g n E (eW n key a k) ed/\Fr [g] w w' :=by
 have H:=qA h;obtain⟨hp1,hg1,hn1⟩:=LG.lts h;obtain⟨cap,σ,F,par,d,rt,hL,hF,hE,hk⟩:=h;have HF:=qA hF;clear hF;have HE:=qA hE;clear hE;have HK:=qA hk;clear hk;have hLa:aE (w.alloc (.cells #[.int .i64 a] 3)) pf g (n+1) cap σ ed:=hL.below ((Below.refl _ w).alloc (qK _) _) hp1 hg1;have hblk:=Blk.new w [.int .i64 a] 3;have hFa:Fr [] w (w.alloc (.cells #[.int .i64 a] 3)):=(Fr.refl _ _).alloc _;have HMa:=qA (LG.fr H.out hFa (by simp) (by simp));have hCk:=zU hLa w.heap.size 1 (fun _=>a) (by decide) (fun k hk=>by
   rw[hblk.cell];obtain rfl:k=0:=by omega
   rfl)
 have HCk:=qA hCk;clear hCk hblk hL;go_enter Tryz.func131,Tryz.ntmps131
 go_wp2_with fail
 refine HCk.out.mono ?_;rintro _ w1 ⟨hcode,rfl⟩;clear HCk;generalize w.alloc (.cells #[.int .i64 a] 3)=w1 at *;rcases hcode with⟨rfl,hall⟩|⟨rfl,j,hj,hbad⟩
 {
 have va:inV n a=true:=hall 0 (by decide);clear hall;obtain⟨v,rfl,hv⟩:=dD va;have Hva:=qA va;clear va;go_wp2_with fail
 refine(pH hLa HF.out v hv).mono ?_;rintro _ w2 ⟨m1,τ1,l1,R1,rfl,hL1,hE1,hF1⟩;have HS:=qA (hE1.lf.set k);have HE1:=qA hE1;clear hE1;have d1:=hL1.hd.cell 1;simp only[zJ,zK]at d1;have hfz:=hL1.nodes.frozen;have a4:=hL1.nodes.c4 (v+1) (by omega);obtain⟨hL2,hF2⟩:=hL1.st4 (Fr.refl [g] w2) (i:=v+1) (by omega) k;have HL2:=qA (show aE _ pf g (n+1) cap (set1 τ1 (v+1) k) ed from hL2);clear hL2;have hv2:((v+1:Nat):Int)<((n+1:Nat):Int):=by omega
 go_wp2_with fail
 refine(mT HL2.out v hv HS.out.2.2.2.2 HS.out.2.2.1 HS.out.2.2.2.1).mono ?_;rintro _ w3 ⟨rfl,hL3,hF3⟩;have HL3:=qA hL3;clear hL3;go_wp2
 go_ret;rw[show mX n (v:Int)=0 by unfold mX;rw[Hva.out];rfl];refine⟨rfl,⟨cap,_,_,par,d,rt,HL3.out,HS.out.1,HE.out,fun x hx=>?_⟩,(hFa.mono (S' :=[g]) (by simp)).then (hF1.then (hF2.then hF3))⟩;rw[HS.out.2.1];unfold eW;by_cases e:x=v
 · subst e;rw[qD rfl,qD ⟨Hva.out,by simp⟩]
 · rw[qC (by omega),qC (by simp;omega),HE1.out.key];exact HK.out x hx}
 {
 have hva:inV n a=false:=hbad;have Hva:=qA hva;clear hva hbad;go_wp2
 go_ret;rw[show mX n a=3 by unfold mX;rw[Hva.out];rfl];refine⟨rfl,?_,hFa.mono (by simp)⟩;have:eW n key a k=key:=by funext x;unfold eW;rw[qC (by simp[Hva.out])]
 rw[this];exact HMa.out}
theorem lW{N a:Nat}(h:a<N):inV N (a:Int)=true:=by simp[inV];omega
section
variable {w w' :World} {pl g N:Nat} {E:Nat->Nat->Prop} {key:Nat->Int}
theorem aNJ(h:LM w pl g N E key){a b:Nat}(ha:a<N)(hb:b<N)(he:E a b)(b' :Int)(hb' :b' =b):
    Calls Tryz.prog 198 #[.pointer (some ⟨pl,0,none⟩),.int .i64 a,.int .i64 b'] w fun e w' =>e=.returned (.int .i64 0)/\LM w' pl g N (jA E a b) key/\Fr [pl,g] w w' :=by
 subst hb';have h1:=aXJ h a b;have e1:gR N E a b=0:=by unfold gR;rw[qD ⟨lW ha,lW hb⟩];simp[he]
 have e2:zW N E a b=jA E a b:=by unfold zW;rw[qD e1];rfl
 rw[e1,e2]at h1;exact h1
theorem link_ok' (h:LM w pl g N E key){a b:Nat}(ha:a<N)(hb:b<N)(hne:a≠b)(hc:¬bV E a b)(b' :Int)(hb' :b' =b):
    Calls Tryz.prog 214 #[.pointer (some ⟨pl,0,none⟩),.int .i64 a,.int .i64 b'] w fun e w' =>e=.returned (.int .i64 0)/\LM w' pl g N (eD E a b) key/\Fr [pl,g] w w' :=by
 subst hb';exact aQR h a b ha hb hne hc
end
section
variable {w w' :World} {pf pl g ph mb S V n:Nat} {G:bX} {T:Nat->Prop} {key:Nat->Int} {l:List Nat}
theorem aCJ{s:Nat}{e:Nat×Nat×Int}{T' :Nat->Prop}{v:Value}(hg:G s=some e)(hv:v=edV e (decide (T' s)))(hT:∀t,t≠s->(T t↔T' t)):jY (gU G T) s (some v)=gU G T' :=by
 funext k
 by_cases hk:k=(s:Int)
 · subst hk;rw[cO,cT,hg,hv];rfl
 {
 rw[bK hk];unfold gU;by_cases h0:0<=k
 {
 have:k.toNat≠s:=by omega
 simp only[hT _ this]}
 · simp only[h0,if_false]}
theorem gK{s:Nat}(h:s<=100000):(Lit.int .i64 (s:Int)).wf=true:=by
 show(decide ((-9223372036854775808:Int)<=s)&&decide ((s:Int)<=9223372036854775807))=true
 simp;omega
theorem aCK(h:FB w pf pl g ph mb S V G T key n){m ma mz:Nat}{y:Int}(hg:G m=some (ma,mz,y))(ht:T m):
    Calls Tryz.prog 151 #[cH pf,.int .i64 m] w fun e w' =>e=.returned (.tuple #[])/\FB w' pf pl g ph mb S V G (fun t=>T t/\t≠m) key n/\Fr [pf,pl,g,mb] w w' :=by
 have hms:=h.gw.slot _ _ hg;have hen:=h.gw.ends _ _ _ _ hg;have hS:=h.leS;have hV:=h.leV;have hlt:=h.lt;have hcT:=iI hms ht;have hcle:=mU S T;have hne:=zI h.ne1 (zI h.ne2 (zI h.ne3 (zI h.ne4 h.ne5)));have hl0:=h.edges.run_get (t:=150) (e:=184) (z:=edZ) Tryz.underlying3 Tryz.underlying150 (by kernel_rfl) rfl (gK (s:=m) (by omega));rw[cT,hg]at hl0;simp only[Option.map_some,Option.getD_some,ht,decide_true,edV]at hl0;have e1:TE S G T m (S+ma):=⟨m,ma,mz,y,hg,ht,.inl ⟨rfl,.inl rfl⟩⟩;have e2:jA (TE S G T) m (S+ma) m (S+mz):=⟨⟨m,ma,mz,y,hg,ht,.inl ⟨rfl,.inr rfl⟩⟩,by omega,by omega⟩;have c1:=(h.hd.alloc (.cells #[.int .i64 ma,.int .i64 mz,.int .i64 y,.bool true] 184)).cell 1;have c2:=(h.hd.alloc (.cells #[.int .i64 ma,.int .i64 mz,.int .i64 y,.bool true] 184)).cell 2;have c4:=h.hd.cell 4;simp only[zJ,zK]at c1 c2 c4;have hw1:IntKind.i64.wrap ((S:Int)+ma)=(S:Int)+ma:=zG _ (by omega);have hw2:IntKind.i64.wrap ((S:Int)+mz)=(S:Int)+mz:=zG _ (by omega);have hf0:Fr [] w (w.alloc (.cells #[.int .i64 ma,.int .i64 mz,.int .i64 y,.bool true] 184)):=(Fr.refl _ _).alloc _;have hb:=Blk.new w [.int .i64 ma,.int .i64 mz,.int .i64 y,.bool true] 184;have HC1:=qA (aNJ (h.fr0 hf0.drew).lct (a:=m) (b:=S+ma) (by omega) (by omega) e1 ((S:Int)+ma) (by omega));have H:=qA h;have E2:=qA e2;have HB:=qA (zI hf0 hb);have HN:=qA (zI hne hlt);clear h e1 e2 hf0 hb hne hlt;have x0:=HB.out.2.cell 0;have x1:=HB.out.2.cell 1;simp only[zJ,zK]at x0 x1;go_enter Tryz.func151,Tryz.ntmps151
 go_wp2
 go_region_held3 (fun w' => w'.cell? ⟨pf, 1, none⟩ = some (.int .i64 S) /\ w'.cell? ⟨pf, 2, none⟩ = some (cH pl) /\ w'.cell? ⟨w.heap.size, 0, none⟩ = some (.int .i64 ma))
   (first
     | go_keep
     | (have N:=HN.out;exact⟨hF3.cell (by simp_all) (by simp;omega),hF3.cell (by simp_all) (by simp;omega),hF3.cell (by simp_all) (by simp;omega)⟩))
   (first
     | (go_at_call 198;refine HC1.out.mono ?_;rintro e w3 ⟨rfl,hL3,hF3⟩))
 have hlt3:=HN.out.2;have hpf3:Blk w3 pf _ _:=hF3.blk ((Fr.refl [] _).drew.blk (HB.out.1.blk H.out.hd (by simp)) (by simp)) (by have N:=HN.out;simp;omega);have hbx3:Blk w3 w.heap.size _ _:=hF3.blk ((Fr.refl [] _).drew.blk HB.out.2 (by simp)) (by simp;omega);have hF3' :Fr [pl,g] w w3:=(HB.out.1.drew.mono (S' :=[pl,g]) (by simp)).trans' hF3;have HC2:=qA (aNJ (show LM w3.drew pl g (S+V) (jA (TE S G T) m (S+ma)) key from LG.fr hL3 (Fr.refl [] _).drew (by simp) (by simp)) (a:=m) (b:=S+mz) (by omega) (by omega) E2.out ((S:Int)+mz) (by omega));have d1:=hpf3.cell 1;have d2:=hpf3.cell 2;have y1:=hbx3.cell 1;simp only[zJ,zK]at d1 d2 y1;have HF3:=qA (zI hF3' (zI hpf3 hbx3));clear hF3' hpf3 hbx3 hF3 hL3 HC1 c1 c2 x0 x1;go_wp2
 go_region_held3 (fun w' => w'.cell? ⟨pf, 1, none⟩ = some (.int .i64 S) /\ w'.cell? ⟨pf, 2, none⟩ = some (cH pl) /\ w'.cell? ⟨w.heap.size, 1, none⟩ = some (.int .i64 mz))
   (first
     | go_keep
     | (have N:=HN.out;exact⟨hF4.cell (by simp_all) (by simp;omega),hF4.cell (by simp_all) (by simp;omega),hF4.cell (by simp_all) (by simp;omega)⟩))
   (first
     | (go_at_call 198;refine HC2.out.mono ?_;rintro e w4 ⟨rfl,hL4,hF4⟩))
 have hpf4:Blk w4 pf _ _:=hF4.blk ((Fr.refl [] _).drew.blk HF3.out.2.1 (by simp)) (by have N:=HN.out;simp;omega);have hbx4:Blk w4 w.heap.size _ _:=hF4.blk ((Fr.refl [] _).drew.blk HF3.out.2.2 (by simp)) (by simp;omega);have hF4' :Fr [pl,g] w w4:=(HF3.out.1.drew).trans' hF4;rw[aUN H.out.gw.slot hg]at hL4;have y3:=hbx4.cell 3;have z3:=hbx4.frozen 3;simp only[zJ,zK]at y3;have hbx5:=hbx4.set 3 (.bool false);have hpf5:=hpf4.other ⟨w.heap.size,3,none⟩ (.bool false) (by show pf≠w.heap.size;omega);have HL4:=qA (zI hL4 hF4');have HX5:=qA (zI hpf5 hbx5);clear hL4 hF4' hpf4 hbx4 hpf5 hbx5 hF4 HC2 d1 d2 y1;go_wp2
 have HS5:=qA (show Fr [w.heap.size] w4 (w4.setCell ⟨w.heap.size,3,none⟩ (.bool false)) from(Fr.refl _ _).setCell _ _ (.inl (by simp)));generalize w4.setCell ⟨w.heap.size,3,none⟩ (.bool false)=w5 at *;clear y3 z3;have hI5:dA Tryz.prog 3 .i64 okA w5 mb (gU G T) n:=H.out.edges.same (by
   rw[HS5.out.keep mb (by have:=HL4.out.2.size;omega) (by simp;omega),HL4.out.2.keep mb (by omega) (by have N:=HN.out;simp;omega)])
 have f4:=HX5.out.1.cell 4;have y0:=HX5.out.2.cell 0;have y1:=HX5.out.2.cell 1;have y2:=HX5.out.2.cell 2;have y3:=HX5.out.2.cell 3;simp only[qU,qY,zJ,zK]at f4 y0 y1 y2 y3;have HI5:=qA hI5;clear hI5;refine bF 6 (fun w' =>dA Tryz.prog 3 .i64 okA w' mb (gU G (fun t=>T t/\t≠m)) n/\Fr [mb] w5 w') (by kernel_rfl) (by kernel_rfl) (by kernel_rfl) ?_;iterate 6 (refine bM (by decide) (fun K hK=>?_);go_simp;refine hK _ ?_;clear hK K)
 refine aU rfl undef (fun w' hw' =>?_) ?_
 {
 obtain⟨nq,rfl⟩:=hw';obtain⟨w6,hrun,hI6,hF6⟩:=(HI5.out.same (w' :=w5.drewN nq) rfl).put (t:=150) (e:=184) Tryz.underlying3 Tryz.underlying150 (by rw[H.out.cn];unfold maxLen;have:=mU S (fun s=>(G s).isSome=true);omega) (gK (s:=m) (by omega)) (v:=.agg #[.int .i64 ma,.int .i64 mz,.int .i64 y,.bool false]) rfl;rw[cT,hg,aCJ (T' :=fun t=>T t/\t≠m) hg (by simp[edV]) (fun t ht=>by simp[ht])]at hI6;go_simp;exact⟨hI6,(((Fr.refl [mb] w5).drewN nq)).trans' hF6⟩};refine bN ?_;rintro w6 ⟨hI6,hF6⟩;have hpf6:=hF6.blk HX5.out.1 (by have N:=HN.out;simp;omega);rw[<-hcT]at hpf6;generalize hz:cF S (fun t=>T t/\t≠m)=z at *;have f5:w6.cell? ⟨pf,5,none⟩=some (.int .i64 ((z:Int)+1)):=hpf6.cell 5;have q5:=hpf6.frozen 5;have hw5:IntKind.i64.wrap ((z:Int)+1-1)=(z:Int):=by rw[show(z:Int)+1-1=z by omega];exact zG _ (by omega)
 have hpf7:=hpf6.set 5 (.int .i64 (z:Int));have HP7:=qA hpf7;have HI6:=qA (zI hI6 hF6);have HZ:=qA hz;clear hpf6 hpf7 hI6 hF6 hz f4 y0 y1 y2 y3;go_wp2
 go_end0
 have e7:(z:Int)+1-1=z:=by omega
 have hF7:Fr [pf] w6 (w6.setCell ⟨pf,5,none⟩ (.int .i64 (z:Int))):=(Fr.refl _ _).setCell _ _ (.inl (by simp));have N:=HN.out;have s4:=HL4.out.2.size;have hF47:Fr [w.heap.size,mb,pf] w4 (w6.setCell ⟨pf,5,none⟩ (.int .i64 (z:Int))):=
   ((HS5.out.mono (fun q hq=>.inl (by simp at hq ⊢;exact .inl hq))).trans' (HI6.out.2.mono (fun q hq=>.inl (by simp at hq ⊢;exact .inr (.inl hq))))).trans' (hF7.mono (fun q hq=>.inl (by simp at hq ⊢;exact .inr (.inr hq))))
 try rw[e7]
 refine⟨rfl,⟨?_,LG.fr HL4.out.1 hF47 (by simp;omega) (by simp;omega),HI6.out.1.same (hF7.keep mb HI6.out.1.lt (by simp;omega)),H.out.gw,⟨fun t a b x h1 h2=>H.out.keys.slot t a b x h1 h2.1,H.out.keys.vert⟩,H.out.cn,H.out.leS,H.out.leV,H.out.ne1,H.out.ne2,H.out.ne3,H.out.ne4,H.out.ne5⟩,
   (HL4.out.2.mono (fun q hq=>.inl (by simp at hq ⊢;omega))).trans hF47 (fun q hq=>by simp at hq ⊢;omega)⟩
 rw[HZ.out];exact HP7.out
theorem aUR{w:World}{pl g N:Nat}{E:Nat->Nat->Prop}{key:Nat->Int}(h:LM w pl g N E key){a:Nat}(ha:a<N)(k:Int):
    Calls Tryz.prog 131 #[.pointer (some ⟨pl,0,none⟩),.int .i64 a,.int .i64 k] w fun e w' =>e=.returned (.int .i64 0)/\LM w' pl g N E (eW N key a k)/\Fr [pl,g] w w' :=by
 refine(aTG h a k).mono ?_;rintro e w' ⟨rfl,h1,h2⟩;exact⟨by unfold mX;rw[lW ha];rfl,h1,h2.mono (fun q hq=>.inl (by simp at hq ⊢;exact .inr hq))⟩
theorem aCL{N a:Nat}(ha:a<N)(key:Nat->Int)(k:Int):eW N key a k a=k:=by
 unfold eW;rw[qD ⟨lW ha,by simp⟩]
theorem pP{N a v:Nat}(key:Nat->Int)(k:Int)(hv:v≠a):eW N key a k v=key v:=by
 unfold eW;rw[qC (by simp;omega)]
theorem aCM(h:FB w pf pl g ph mb S V G T key n){m ma mz:Nat}{y:Int}(hg:G m=some (ma,mz,y))(ht:¬T m)(hc:¬Cx G T ma mz):
    Calls Tryz.prog 178 #[cH pf,.int .i64 m] w fun e w' =>e=.returned (.tuple #[])/\FB w' pf pl g ph mb S V G (fun t=>T t∨t=m) (eW (S+V) key m y) n/\Fr [pf,pl,g,mb] w w' :=by
 have hms:=h.gw.slot _ _ hg;have hen:=h.gw.ends _ _ _ _ hg;have hS:=h.leS;have hV:=h.leV;have hlt:=h.lt;have hcT:=aMW hms ht;have hcle:=mU S T;have hne:=zI h.ne1 (zI h.ne2 (zI h.ne3 (zI h.ne4 h.ne5)));have hl0:=h.edges.run_get (t:=150) (e:=184) (z:=edZ) Tryz.underlying3 Tryz.underlying150 (by kernel_rfl) rfl (gK (s:=m) (by omega));rw[cT,hg]at hl0;simp only[Option.map_some,Option.getD_some,ht,decide_false,edV]at hl0;have hfr:=h.frs;have n1:¬bV (TE S G T) m (S+ma):=aCB ht hms (by omega) hfr;have n2:¬bV (TE S G T) m (S+mz):=aCB ht hms (by omega) hfr;have n3:¬bV (TE S G T) (S+ma) (S+mz):=fun e=>hc ((aUL h.gw.slot hfr).1 e);have e2:Frs (eD (TE S G T) m (S+ma))->¬bV (eD (TE S G T) m (S+ma)) m (S+mz):=by {
 intro h' e;rcases(aBV hfr h' _ _).1 e with e|⟨_,e⟩|⟨_,e⟩
 · exact n2 e
 · exact n3 e
 · exact n2 e};have c1:=(h.hd.alloc (.cells #[.int .i64 ma,.int .i64 mz,.int .i64 y,.bool false] 184)).cell 1;have c2:=(h.hd.alloc (.cells #[.int .i64 ma,.int .i64 mz,.int .i64 y,.bool false] 184)).cell 2;have c4:=h.hd.cell 4;simp only[zJ,zK]at c1 c2 c4;have hw1:IntKind.i64.wrap ((S:Int)+ma)=(S:Int)+ma:=zG _ (by omega);have hw2:IntKind.i64.wrap ((S:Int)+mz)=(S:Int)+mz:=zG _ (by omega);have hf0:Fr [] w (w.alloc (.cells #[.int .i64 ma,.int .i64 mz,.int .i64 y,.bool false] 184)):=(Fr.refl _ _).alloc _;have hb:=Blk.new w [.int .i64 ma,.int .i64 mz,.int .i64 y,.bool false] 184;have HC0:=qA (aUR (h.fr0 hf0.drew).lct (a:=m) (by omega) y);have H:=qA h;have E1:=qA n1;have E2:=qA e2;have HB:=qA (zI hf0 hb);have HN:=qA (zI hne hlt);clear h e2 n1 n2 n3 hf0 hb hne hlt hfr hc;have x2:=HB.out.2.cell 2;simp only[zJ,zK]at x2;go_enter Tryz.func178,Tryz.ntmps178
 go_wp2
 go_region_held3 (fun w' => w'.cell? ⟨pf, 2, none⟩ = some (cH pl) /\ w'.cell? ⟨w.heap.size, 2, none⟩ = some (.int .i64 y))
   (first
     | go_keep
     | (have N:=HN.out;exact⟨hF2.cell (by simp_all) (by simp;omega),hF2.cell (by simp_all) (by simp;omega)⟩))
   (first
     | (go_at_call 131;refine HC0.out.mono ?_;rintro e w2 ⟨rfl,hL2,hF2⟩))
 have hlt3:=HN.out.2;have hpf2:Blk w2 pf _ _:=hF2.blk ((Fr.refl [] _).drew.blk (HB.out.1.blk H.out.hd (by simp)) (by simp)) (by have N:=HN.out;simp;omega);have hbx2:Blk w2 w.heap.size _ _:=hF2.blk ((Fr.refl [] _).drew.blk HB.out.2 (by simp)) (by simp;omega);have hF2' :Fr [pl,g] w w2:=(HB.out.1.drew.mono (S' :=[pl,g]) (by simp)).trans' hF2;have HC1:=qA (link_ok' (show LM w2.drew pl g (S+V) (TE S G T) (eW (S+V) key m y) from LG.fr hL2 (Fr.refl [] _).drew (by simp) (by simp)) (a:=m) (b:=S+ma) (by omega) (by omega) (by omega) E1.out ((S:Int)+ma) (by omega));have d1:=hpf2.cell 1;have d2:=hpf2.cell 2;have y1:=hbx2.cell 0;simp only[zJ,zK]at d1 d2 y1;have HF2:=qA (zI hF2' (zI hpf2 hbx2));clear hF2' hpf2 hbx2 hF2 hL2 HC0 c1 c2 x2;go_wp2
 go_region_held3 (fun w' => w'.cell? ⟨pf, 1, none⟩ = some (.int .i64 S) /\ w'.cell? ⟨pf, 2, none⟩ = some (cH pl) /\ w'.cell? ⟨w.heap.size, 0, none⟩ = some (.int .i64 ma))
   (first
     | go_keep
     | (have N:=HN.out;exact⟨hF3.cell (by simp_all) (by simp;omega),hF3.cell (by simp_all) (by simp;omega),hF3.cell (by simp_all) (by simp;omega)⟩))
   (first
     | (go_at_call 214;refine HC1.out.mono ?_;rintro e w3 ⟨rfl,hL3,hF3⟩))
 have hpf3:Blk w3 pf _ _:=hF3.blk ((Fr.refl [] _).drew.blk HF2.out.2.1 (by simp)) (by have N:=HN.out;simp;omega);have hbx3:Blk w3 w.heap.size _ _:=hF3.blk ((Fr.refl [] _).drew.blk HF2.out.2.2 (by simp)) (by simp;omega);have hF3' :Fr [pl,g] w w3:=(HF2.out.1.drew).trans' hF3;have hL3' :LM w3.drew pl g (S+V) (eD (TE S G T) m (S+ma)) (eW (S+V) key m y):=LG.fr hL3 (Fr.refl [] _).drew (by simp) (by simp);have HC2:=qA (link_ok' hL3' (a:=m) (b:=S+mz) (by omega) (by omega) (by omega) (E2.out hL3'.frs) ((S:Int)+mz) (by omega));have d1:=hpf3.cell 1;have d2:=hpf3.cell 2;have y1:=hbx3.cell 1;simp only[zJ,zK]at d1 d2 y1;have HF3:=qA (zI hF3' (zI hpf3 hbx3));clear hF3' hpf3 hbx3 hF3 hL3 hL3' HC1;go_wp2
 go_region_held3 (fun w' => w'.cell? ⟨pf, 1, none⟩ = some (.int .i64 S) /\ w'.cell? ⟨pf, 2, none⟩ = some (cH pl) /\ w'.cell? ⟨w.heap.size, 1, none⟩ = some (.int .i64 mz))
   (first
     | go_keep
     | (have N:=HN.out;exact⟨hF4.cell (by simp_all) (by simp;omega),hF4.cell (by simp_all) (by simp;omega),hF4.cell (by simp_all) (by simp;omega)⟩))
   (first
     | (go_at_call 214;refine HC2.out.mono ?_;rintro e w4 ⟨rfl,hL4,hF4⟩))
 have hpf4:Blk w4 pf _ _:=hF4.blk ((Fr.refl [] _).drew.blk HF3.out.2.1 (by simp)) (by have N:=HN.out;simp;omega);have hbx4:Blk w4 w.heap.size _ _:=hF4.blk ((Fr.refl [] _).drew.blk HF3.out.2.2 (by simp)) (by simp;omega);have hF4' :Fr [pl,g] w w4:=(HF3.out.1.drew).trans' hF4;rw[aUM hg]at hL4;have y3:=hbx4.cell 3;have z3:=hbx4.frozen 3;simp only[zJ,zK]at y3;have hbx5:=hbx4.set 3 (.bool true);have hpf5:=hpf4.other ⟨w.heap.size,3,none⟩ (.bool true) (by show pf≠w.heap.size;omega);have HL4:=qA (zI hL4 hF4');have HX5:=qA (zI hpf5 hbx5);clear hL4 hF4' hpf4 hbx4 hpf5 hbx5 hF4 HC2 d1 d2 y1;go_wp2
 have HS5:=qA (show Fr [w.heap.size] w4 (w4.setCell ⟨w.heap.size,3,none⟩ (.bool true)) from(Fr.refl _ _).setCell _ _ (.inl (by simp)));generalize w4.setCell ⟨w.heap.size,3,none⟩ (.bool true)=w5 at *;clear y3 z3;have hI5:dA Tryz.prog 3 .i64 okA w5 mb (gU G T) n:=H.out.edges.same (by
   rw[HS5.out.keep mb (by have:=HL4.out.2.size;omega) (by simp;omega),HL4.out.2.keep mb (by omega) (by have N:=HN.out;simp;omega)])
 have f4:=HX5.out.1.cell 4;have y0:=HX5.out.2.cell 0;have y1:=HX5.out.2.cell 1;have y2:=HX5.out.2.cell 2;have y3:=HX5.out.2.cell 3;simp only[qU,qY,zJ,zK]at f4 y0 y1 y2 y3;have HI5:=qA hI5;clear hI5;refine bF 6 (fun w' =>dA Tryz.prog 3 .i64 okA w' mb (gU G (fun t=>T t∨t=m)) n/\Fr [mb] w5 w') (by kernel_rfl) (by kernel_rfl) (by kernel_rfl) ?_;iterate 6 (refine bM (by decide) (fun K hK=>?_);go_simp;refine hK _ ?_;clear hK K)
 refine aU rfl undef (fun w' hw' =>?_) ?_
 {
 obtain⟨nq,rfl⟩:=hw';obtain⟨w6,hrun,hI6,hF6⟩:=(HI5.out.same (w' :=w5.drewN nq) rfl).put (t:=150) (e:=184) Tryz.underlying3 Tryz.underlying150 (by rw[H.out.cn];unfold maxLen;have:=mU S (fun s=>(G s).isSome=true);omega) (gK (s:=m) (by omega)) (v:=.agg #[.int .i64 ma,.int .i64 mz,.int .i64 y,.bool true]) rfl;rw[cT,hg,aCJ (T' :=fun t=>T t∨t=m) hg (by simp[edV]) (fun t ht=>by simp[ht])]at hI6;go_simp;exact⟨hI6,(((Fr.refl [mb] w5).drewN nq)).trans' hF6⟩};refine bN ?_;rintro w6 ⟨hI6,hF6⟩;have hpf6:=hF6.blk HX5.out.1 (by have N:=HN.out;simp;omega);generalize hz:cF S T=z at *;have f5:w6.cell? ⟨pf,5,none⟩=some (.int .i64 (z:Int)):=hpf6.cell 5;have q5:=hpf6.frozen 5;have hw5:IntKind.i64.wrap ((z:Int)+1)=(z:Int)+1:=zG _ (by omega);have hpf7:=hpf6.set 5 (.int .i64 ((z:Int)+1));have HP7:=qA hpf7;have HI6:=qA (zI hI6 hF6);have HZ:=qA (zI hz hcT);clear hpf6 hpf7 hI6 hF6 hz hcT f4 y0 y1 y2 y3;go_wp2
 go_end0
 have hF7:Fr [pf] w6 (w6.setCell ⟨pf,5,none⟩ (.int .i64 ((z:Int)+1))):=(Fr.refl _ _).setCell _ _ (.inl (by simp));have N:=HN.out;have s4:=HL4.out.2.size;have hF47:Fr [w.heap.size,mb,pf] w4 (w6.setCell ⟨pf,5,none⟩ (.int .i64 ((z:Int)+1))):=
   ((HS5.out.mono (fun q hq=>.inl (by simp at hq ⊢;exact .inl hq))).trans' (HI6.out.2.mono (fun q hq=>.inl (by simp at hq ⊢;exact .inr (.inl hq))))).trans' (hF7.mono (fun q hq=>.inl (by simp at hq ⊢;exact .inr (.inr hq))))
 refine⟨rfl,⟨?_,LG.fr HL4.out.1 hF47 (by simp;omega) (by simp;omega),HI6.out.1.same (hF7.keep mb HI6.out.1.lt (by simp;omega)),H.out.gw,⟨fun t a b x h1 h2=>?_,fun v hv=>?_⟩,H.out.cn,H.out.leS,H.out.leV,H.out.ne1,H.out.ne2,H.out.ne3,H.out.ne4,H.out.ne5⟩,
   (HL4.out.2.mono (fun q hq=>.inl (by simp at hq ⊢;omega))).trans hF47 (fun q hq=>by simp at hq ⊢;omega)⟩
 {
 have e8:=HZ.out.2;rw[e8];exact HP7.out}
 {
 rcases h2 with h2|rfl
 {
 rw[pP _ _ (by rintro rfl;exact ht h2)];exact H.out.keys.slot t a b x h1 h2}
 {
 rw[aCL (by omega)];rw[hg]at h1;simp only[qI,zE]at h1;exact h1.2.2}}
 {
 rw[pP _ _ (by omega)];exact H.out.keys.vert v hv}
end
def FAt(w:World)(pf S V:Nat)(G:bX)(L:List Nat):Prop:=
  ∃pl g ph mb l key n,FB w pf pl g ph mb S V G (aG G) key n/\dE w ph S (qOf G) n l/\(∀b∈l,b≠pf/\b≠pl/\b≠g/\b≠mb)/\L=pf::pl::g::mb::l
noncomputable def eO(S V:Nat)(G:bX)(slot a b:Int):Int:=
  if inV S slot=true/\inV V a=true/\inV V b=true then(if a=b then 9 else if (G slot.toNat).isSome=true then 6 else 0) else 3
noncomputable def sW(S V:Nat)(G:bX)(slot a b x:Int):bX:=if eO S V G slot a b=0 then bS G slot.toNat (some (a.toNat,b.toNat,x)) else G
section
variable {w w' :World} {pf pl g ph mb S V n:Nat} {G:bX} {T T' :Nat->Prop} {key:Nat->Int} {l L:List Nat}
theorem FAt.lt(h:FAt w pf S V G L):∀b∈L,b<w.heap.size:=by
 obtain⟨pl,g,ph,mb,l,key,n,h1,h2,h3,rfl⟩:=h;have:=h1.lt;intro b hb;simp only[qB]at hb;rcases hb with rfl|rfl|rfl|rfl|hb
 · exact this.1
 · exact this.2.1
 · exact this.2.2.1
 · exact this.2.2.2
 · exact h2.lt b hb
theorem FAt.fr{X:List Nat}(h:FAt w pf S V G L)(hf:Fr X w w')(hx:∀b∈L,b∉X):FAt w' pf S V G L:=by
 obtain⟨pl,g,ph,mb,l,key,n,h1,h2,h3,rfl⟩:=h;exact⟨pl,g,ph,mb,l,key,n,h1.fr hf (hx _ (by simp)) (hx _ (by simp)) (hx _ (by simp)) (hx _ (by simp)),h2.fr hf (fun b hb=>hx b (by simp[hb])),h3,rfl⟩
theorem FB.congrT(h:FB w pf pl g ph mb S V G T key n)(hT:∀t,T t↔T' t):FB w pf pl g ph mb S V G T' key n:=by
 have:T=T' :=funext fun t=>propext (hT t);rw[<-this];exact h
theorem aNK{s:Nat}{e:Nat×Nat×Int}(ht:¬T s):jY (gU G T) s (some (edV e false))=gU (bS G s (some e)) T:=by
 funext k
 by_cases hk:k=(s:Int)
 · subst hk;rw[cO,cT,bE];simp[ht]
 {
 rw[bK hk];unfold gU;by_cases h0:0<=k
 · rw[aJ (by omega)]
 · simp only[h0,if_false]}
theorem aRJ{s:Nat}{e:Nat×Nat×Int}:nK (qOf G) s (some e.2.2)=qOf (bS G s (some e)):=by
 funext k
 by_cases hk:k=s
 · subst hk;rw[jR];simp[qOf,bE]
 · rw[gJ hk];simp[qOf,aJ hk]
theorem aRK{s:Nat}{e:Nat×Nat×Int}(hs:s<S)(h0:G s=none):cF S (fun t=>(G t).isSome=true)+1=cF S (fun t=>(bS G s (some e) t).isSome=true):=
  pJ hs (by simp[bE]) (by simp[h0]) (fun x hx=>by rw[aJ hx])
theorem FB.new(h:FB w pf pl g ph mb S V G T key n){s a b:Nat}{x:Int}(h0:G s=none)(ht:¬T s)(hs:s<S)(ha:a<V)(hb:b<V)(hab:a≠b)(hx:-9223372036854775808<=x/\x<=9223372036854775807)
    {X:List Nat} (hf:Fr X w w') (h1:pf∉X) (h2:pl∉X) (h3:g∉X) (hI:dA Tryz.prog 3 .i64 okA w' mb (gU (bS G s (some (a,b,x))) T) (n+1)):
    FB w' pf pl g ph mb S V (bS G s (some (a,b,x))) T key (n+1):=by
 have e:TE S (bS G s (some (a,b,x))) T=TE S G T:=vD (fun _=>Iff.rfl) (fun t ht' =>by rw[aJ];rintro rfl;exact ht ht');refine⟨hf.blk h.hd h1,?_,hI,h.gw.put hs ha hb hab hx,⟨fun t c d y h4 h5=>?_,h.keys.vert⟩,?_,h.leS,h.leV,h.ne1,h.ne2,h.ne3,h.ne4,h.ne5⟩
 · rw[e];exact h.lct.fr hf h2 h3
 {
 rw[aJ (by rintro rfl;exact ht h5)]at h4;exact h.keys.slot t c d y h4 h5}
 · rw[h.cn,aRK hs h0]
end
section
variable {w w' :World} {pf pl g ph mb S V n:Nat} {G:bX} {T T' :Nat->Prop} {key:Nat->Int} {l L:List Nat}
theorem aNL(h:FB w pf pl g ph mb S V G T key n)(slot a b x:Int)(hn:¬(inV S slot=true/\inV V a=true/\inV V b=true)):
    Calls Tryz.prog 138 #[cH pf,.int .i64 slot,.int .i64 a,.int .i64 b,.int .i64 x] w fun e w' =>e=.returned (.int .i64 3)/\w' =w:=by
 have c1:=h.hd.cell 1;simp only[zJ,zK]at c1;have HV:=qA (iM h);by_cases s1:0<=slot
 {
 by_cases s2:slot<S
 {
 have s3:decide (slot≥(S:Int))=false:=qF (by omega);cases ha:inV V a with
 | false=>{
 have HA:=kL h a;rw[ha]at HA;have HA:=qA HA;clear h hn;go_enter Tryz.func138,Tryz.ntmps138
 go_wp2_with fail
 refine HV.out.mono ?_;rintro _ w1 ⟨rfl,rfl⟩;go_wp2_with fail
 refine HA.out.mono ?_;rintro _ w1 ⟨rfl,rfl⟩;go_wp2
 go_ret;exact⟨rfl,rfl⟩}
 | true=>{
 have hb:inV V b=false:=by {
 cases hb:inV V b with
 | false=>rfl
 | true=>exact absurd ⟨by simp[inV,s1,s2],ha,hb⟩ hn};have HA:=kL h a;rw[ha]at HA;have HA:=qA HA;have HB:=kL h b;rw[hb]at HB;have HB:=qA HB;clear h hn;go_enter Tryz.func138,Tryz.ntmps138
 go_wp2_with fail
 refine HV.out.mono ?_;rintro _ w1 ⟨rfl,rfl⟩;go_wp2_with fail
 refine HA.out.mono ?_;rintro _ w1 ⟨rfl,rfl⟩;go_wp2_with fail
 refine HB.out.mono ?_;rintro _ w1 ⟨rfl,rfl⟩;go_wp2
 go_ret;exact⟨rfl,rfl⟩}}
 {
 have s3:decide (slot≥(S:Int))=true:=qG (by omega);have s4:(S:Int)<=slot:=by omega
 clear h hn;go_enter Tryz.func138,Tryz.ntmps138
 go_wp2_with fail
 refine HV.out.mono ?_;rintro _ w1 ⟨rfl,rfl⟩;go_wp2
 go_ret;exact⟨rfl,rfl⟩}}
 {
 have s3:slot<0:=by omega
 clear h hn;go_enter Tryz.func138,Tryz.ntmps138
 go_wp2_with fail
 refine HV.out.mono ?_;rintro _ w1 ⟨rfl,rfl⟩;go_wp2
 go_ret;exact⟨rfl,rfl⟩}
theorem aHF(h:FB w pf pl g ph mb S V G T key n){s a b:Nat}(hs:s<S)(ha:a<V)(hb:b<V)(x:Int)(hn:a=b∨(a≠b/\(G s).isSome=true)):
    Calls Tryz.prog 138 #[cH pf,.int .i64 s,.int .i64 a,.int .i64 b,.int .i64 x] w fun e w' =>e=.returned (.int .i64 (if a=b then 9 else 6))/\Fr [] w w' :=by
 have c1:=h.hd.cell 1;have c4:=h.hd.cell 4;simp only[zJ,zK]at c1 c4;have HV:=qA (iM h);have HA:=kL h a;rw[lW ha]at HA;have HA:=qA HA;have HB:=kL h b;rw[lW hb]at HB;have HB:=qA HB;have s1:(0:Int)<=s:=by omega
 have s2:(s:Int)<S:=by omega
 have s3:decide (S<=s)=false:=qF (by omega);by_cases hab:a=b
 {
 rw[qD hab];subst hab;clear h hn;go_enter Tryz.func138,Tryz.ntmps138
 go_wp2_with fail
 refine HV.out.mono ?_;rintro _ w1 ⟨rfl,rfl⟩;go_wp2_with fail
 refine HA.out.mono ?_;rintro _ w1 ⟨rfl,rfl⟩;go_wp2_with fail
 refine HB.out.mono ?_;rintro _ w1 ⟨rfl,rfl⟩;go_wp2
 go_ret;exact⟨rfl,Fr.refl _ _⟩}
 {
 rw[qC hab];obtain⟨_,hsome⟩:=hn.resolve_left hab;have t1:((a:Int) == (b:Int))=false:=by simp;omega
 have hl:=h.edges.run_ok (t:=150) (e:=184) (z:=edZ) Tryz.underlying3 Tryz.underlying150 (by kernel_rfl) rfl (gK (s:=s) (by have:=h.leS;omega));obtain⟨⟨e1,e2,e3⟩,he⟩:=qV.1 hsome;rw[cT,he]at hl;simp only[Option.map_some,Option.getD_some,edV,Option.isSome_some]at hl;generalize decide (T s)=tb at *;clear h hn;go_enter Tryz.func138,Tryz.ntmps138
 go_wp2_with fail
 refine HV.out.mono ?_;rintro _ w1 ⟨rfl,rfl⟩;go_wp2_with fail
 refine HA.out.mono ?_;rintro _ w1 ⟨rfl,rfl⟩;go_wp2_with fail
 refine HB.out.mono ?_;rintro _ w1 ⟨rfl,rfl⟩;go_wp2
 go_ret;exact⟨rfl,(Fr.refl _ _).alloc _⟩}
end
section
variable {w w' :World} {pf pl g ph mb S V n:Nat} {G:bX} {T:Nat->Prop} {key:Nat->Int}
theorem FB.asked(h:FB w pf pl g ph mb S V G T key n)(hL:LM w' pl g (S+V) (TE S G T) key)(hF:Fr [g] w w'):FB w' pf pl g ph mb S V G T key n:=
  ⟨hF.blk h.hd (by have:=h.ne2;simp;exact this),hL,h.edges.same (hF.keep mb h.edges.lt (by have:=h.ne5;simp;exact fun e=>this e.symm)),h.gw,h.keys,h.cn,h.leS,h.leV,h.ne1,h.ne2,h.ne3,h.ne4,h.ne5⟩
theorem aUS{s:Nat}(ht:¬T s)(e:Option (Nat×Nat×Int)):TE S (bS G s e) T=TE S G T:=
  vD (fun _=>Iff.rfl) (fun t ht' =>by rw[aJ];rintro rfl;exact ht ht')
theorem aNM{s a b:Nat}(ht:¬T s)(e:Option (Nat×Nat×Int)):Cx (bS G s e) T a b↔Cx G T a b:=by
 constructor
 {
 intro h;exact h.mono' fun u f h1 h2=>⟨h1,by rw[aJ (by rintro rfl;exact ht h1)]at h2;exact h2⟩}
 {
 intro h;exact h.mono' fun u f h1 h2=>⟨h1,by rw[aJ (by rintro rfl;exact ht h1)];exact h2⟩}
end
def aRL(n:Nat)(E:Nat->Nat->Prop)(key:Nat->Int)(a b r:Int)(ok:Bool):Prop:=
  (ok=false/\r=0/\¬nT n E a b)∨(ok=true/\∃(v u:Nat) (p:List Nat) (m:Nat),a=v/\b=u/\v<n/\u<n/\bP E v u p/\(∀x∈p,x<n)/\tD key p m/\r=m)
theorem aTH{w:World}{pf g n:Nat}{E:Nat->Nat->Prop}{key:Nat->Int}{ed:Int}(h:LG w pf g n E key ed)(a b:Int):Calls Tryz.prog 166 #[.pointer (some ⟨pf,0,none⟩),.int .i64 a,.int .i64 b] w fun e w' =>∃r ok,e=.returned (.tuple #[.int .i64 r,.bool ok])/\aRL n E key a b r ok/\LG w' pf g n E key ed/\Fr [g] w w' :=by
 refine(aXH h a b).mono ?_;rintro e w' ⟨⟨hn,rfl⟩|⟨v,u,p,m,h1,h2,h3,h4,h5,h6,h7,rfl⟩,hL,hF⟩
 · exact⟨0,false,rfl,.inl ⟨rfl,rfl,hn⟩,hL,hF⟩
 · exact⟨m,true,rfl,.inr ⟨rfl,v,u,p,m,h1,h2,h3,h4,h5,h6,h7,rfl⟩,hL,hF⟩
section
variable {w w' :World} {pf S V:Nat} {G:bX} {L:List Nat}
theorem aNN(h:FAt w pf S V G L){s a b:Nat}(hs:s<S)(ha:a<V)(hb:b<V)(hab:a≠b)(h0:G s=none)(x:Int)(hx:-9223372036854775808<=x/\x<=9223372036854775807):
    Calls Tryz.prog 138 #[cH pf,.int .i64 s,.int .i64 a,.int .i64 b,.int .i64 x] w fun e w' =>e=.returned (.int .i64 0)/\∃L', FAt w' pf S V (bS G s (some (a,b,x))) L' /\ Fr L w w' /\ ∀q∈L', q∈L∨w.heap.size<=q:=by
  obtain⟨pl,g,ph,mb,l,key,n,h1,hH,hD,rfl⟩:=h;have ht:¬aG G s:=by rintro⟨_,_,_,e,_⟩;rw[h0]at e;cases e
  have hlt:=h1.lt;have hllt:=hH.lt;have hS:=h1.leS;have hV:=h1.leV;have c1:=h1.hd.cell 1;have c4:=h1.hd.cell 4;have c3:=(h1.hd.alloc (.cells #[.int .i64 0,.int .i64 0,.int .i64 0,.bool false] 184)).cell 3;simp only[zJ,zK]at c1 c3 c4;have HV:=qA (iM h1);have HA:=kL h1 a;rw[lW ha]at HA;have HA:=qA HA;have HB:=kL h1 b;rw[lW hb]at HB;have HB:=qA HB;have s1:(0:Int)<=s:=by omega
  have s2:(s:Int)<S:=by omega
  have s3:decide (S<=s)=false:=qF (by omega);have t1:((a:Int) == (b:Int))=false:=by simp;omega
  have hl:=h1.edges.run_ok (t:=150) (e:=184) (z:=edZ) Tryz.underlying3 Tryz.underlying150 (by kernel_rfl) rfl (gK (s:=s) (by omega));rw[cT,h0]at hl;simp only[Option.map_none,Option.getD_none,edZ,Option.isSome_none]at hl;have hf0:Fr [] w (w.alloc (.cells #[.int .i64 0,.int .i64 0,.int .i64 0,.bool false] 184)):=(Fr.refl _ _).alloc _;have HP:=qA (aHD (hH.fr hf0 (by simp)) hs (by simp[qOf,h0]) x);have H:=qA h1;have HH:=qA (zI hD (zI hllt hlt));have HF0:=qA hf0;clear h1 hH hD hllt hf0;go_enter Tryz.func138,Tryz.ntmps138
  go_wp2_with fail
  refine HV.out.mono ?_;rintro _ w ⟨rfl,rfl⟩;go_wp2_with fail
  refine HA.out.mono ?_;rintro _ w ⟨rfl,rfl⟩;go_wp2_with fail
  refine HB.out.mono ?_;rintro _ w ⟨rfl,rfl⟩;go_wp2_with fail
  refine HP.out.mono ?_;rintro _ w2 ⟨rfl,l', hH2,hF2,hN2⟩;have hpf2:Blk w2 pf _ _:=hF2.blk (HF0.out.blk H.out.hd (by simp)) (fun hm=>(HH.out.1 _ hm).1 rfl);have hI2:dA Tryz.prog 3 .i64 okA w2 mb (gU G (aG G)) n:=H.out.edges.same (by
    rw[hF2.keep mb (by have:=HF0.out.size;omega) (fun hm=>(HH.out.1 _ hm).2.2.2 rfl),HF0.out.keep mb (by omega) (by simp)])
  have d4:=hpf2.cell 4;simp only[zJ,zK]at d4;have HF2:=qA (zI hH2 (zI hF2 (zI hN2 hpf2)));have HI2:=qA hI2;clear hH2 hF2 hN2 hpf2 hI2 c1 c3 c4 hl HP;go_wp2_with (refine sT rfl _ _ _ _ rfl HI2.out Tryz.underlying3 Tryz.underlying150 (by rw[H.out.cn];unfold maxLen;have:=mU S (fun s=>(G s).isSome=true);omega) rfl (s:Int) rfl (gK (s:=s) (by omega)) (.agg #[.int .i64 a,.int .i64 b,.int .i64 x,.bool false]) rfl rfl ?_;intro w3 hI3 hF3)
  rw[cT,h0]at hI3;simp only[Option.map_none,Option.isSome_none,Bool.false_eq_true,if_false]at hI3;have hI3' :dA Tryz.prog 3 .i64 okA w3 mb (gU (bS G s (some (a,b,x))) (aG G)) (n+1):=by rw[<-aNK ht];exact hI3
  have hF13:Fr (mb::l) w w3:=((HF0.out.mono (S' :=mb::l) (by simp)).trans' (HF2.out.2.1.mono (fun q hq=>.inl (by simp[hq])))).trans' (hF3.mono (fun q hq=>.inl (by simp at hq;simp[hq])));have hx1:pf∉mb::l:=by simp only[qB,not_or];exact⟨H.out.ne3,fun hm=>(HH.out.1 _ hm).1 rfl⟩
  have hx2:pl∉mb::l:=by simp only[qB,not_or];exact⟨H.out.ne4,fun hm=>(HH.out.1 _ hm).2.1 rfl⟩
  have hx3:g∉mb::l:=by simp only[qB,not_or];exact⟨H.out.ne5,fun hm=>(HH.out.1 _ hm).2.2.1 rfl⟩
  have hB3:=H.out.new h0 ht hs ha hb hab hx hF13 hx1 hx2 hx3 hI3';have hL3:LM w3 pl g (S+V) (TE S G (aG G)) key:=H.out.lct.fr hF13 hx2 hx3;have hH3:dE w3 ph S (qOf (bS G s (some (a,b,x)))) (n+1) l' :=by
    rw[<-aRJ (e:=(a,b,x))];exact HF2.out.1.fr hF3 (fun q hq hm=>by
      simp at hm;subst hm;rcases HF2.out.2.2.1 _ hq with e|e
      · exact(HH.out.1 _ e).2.2.2 rfl
      · simp at e;omega)
  have e1:=hB3.hd.cell 1;have e2:=hB3.hd.cell 2;simp only[zJ,zK]at e1 e2;have hw1:IntKind.i64.wrap ((S:Int)+a)=(S:Int)+a:=zG _ (by omega);have hw2:IntKind.i64.wrap ((S:Int)+b)=(S:Int)+b:=zG _ (by omega);have HM:=qA (aTH (show LG w3.drew pl g (S+V) (TE S G (aG G)) key _ from LG.fr hL3 (Fr.refl [] _).drew (by simp) (by simp)) ((S:Int)+a) ((S:Int)+b));have H3:=qA (zI hB3 (zI hH3 hF13));clear hI3 hI3' hF3 hF13 hB3 hL3 hH3 d4;have HN:=qA (zI H.out.ne1 (zI H.out.ne2 hlt))
  go_region_held3 (fun w' => w'.cell? ⟨pf, 1, none⟩ = some (.int .i64 S) /\ w'.cell? ⟨pf, 2, none⟩ = some (cH pl))
    (first
      | go_keep
      | (have N:=HN.out;exact⟨hF4.cell (by simp_all) (by simp;omega),hF4.cell (by simp_all) (by simp;omega)⟩))
    (first
      | (go_at_call 166;refine HM.out.mono ?_;rintro e w4 ⟨r,ok,rfl,hsay,hL4,hF4⟩))
  have hB4:=H3.out.1.asked (show LM w4 pl g (S+V) (TE S (bS G s (some (a,b,x))) (aG G)) key by rw[aUS ht];exact hL4) (((Fr.refl [g] w3).drew).trans' hF4);have hlen4:=hF4.size;have hH4:=H3.out.2.1.fr (((Fr.refl [g] w3).drew).trans' hF4) (fun q hq hm=>by
    simp at hm;subst hm;rcases HF2.out.2.2.1 _ hq with e|e
    · exact(HH.out.1 _ e).2.2.1 rfl
    · simp at e;omega)
  have hF04:Fr (pf::pl::g::mb::l) w w4:=(H3.out.2.2.mono (S' :=pf::pl::g::mb::l) (fun q hq=>.inl (by simp at hq ⊢;grind))).trans' ((((Fr.refl [g] w3).drew).trans' hF4).mono (fun q hq=>.inl (by simp at hq ⊢;grind)));have hdis:∀q∈l', q≠pf/\q≠pl/\q≠g/\q≠mb:=by
    intro q hq;rcases HF2.out.2.2.1 _ hq with e|e
    · exact HH.out.1 _ e
    · simp at e;omega
  have hnew:∀q∈pf::pl::g::mb::l', q∈pf::pl::g::mb::l∨w.heap.size<=q:=by
    intro q hq;simp only[qB]at hq ⊢;rcases hq with e|e|e|e|e
    · exact .inl (.inl e)
    · exact .inl (.inr (.inl e))
    · exact .inl (.inr (.inr (.inl e)))
    · exact .inl (.inr (.inr (.inr (.inl e))))
    · rcases HF2.out.2.2.1 _ e with e | e
      · exact .inl (.inr (.inr (.inr (.inr e))))
      · simp at e;exact .inr (by omega)
  have H4:=qA (zI hB4 (zI hH4 (zI hF04 (zI hdis hnew))));have HS:=qA (zI hsay hL4);clear hB4 hH4 hF04 hdis hnew hsay hL4 hF4 HM e1 e2;cases ok with
  | false=>
    have hc:¬Cx G (aG G) a b:=by
      rcases HS.out.1 with⟨_,_,hn⟩|⟨e,_⟩
      · intro hc
        exact hn ⟨by simp[inV];omega,by simp[inV];omega,by
          rw[show((S:Int)+a).toNat=S+a by omega,show((S:Int)+b).toNat=S+b by omega];exact tE (LG.frs HS.out.2) hc⟩
      · cases e
    have HFa:=qA (aCM H4.out.1 (bE _ _ _) ht (fun e=>hc ((aNM ht _).1 e)));have HC:=qA hc;clear hc;go_wp2_with fail
    refine HFa.out.mono ?_;rintro _ w5 ⟨rfl,hB5,hF5⟩;have H5:=qA (zI hB5 hF5);clear hB5 hF5;go_wp2
    go_ret;exact⟨rfl,_,⟨pl,g,ph,mb,l', _,n+1,H5.out.1.congrT (fun t=>(aQM H.out.gw.slot h0 HC.out t).symm),H4.out.2.1.fr H5.out.2 (fun q hq hm=>by have:=H4.out.2.2.2.1 q hq;simp at hm;grind),H4.out.2.2.2.1,rfl⟩,H4.out.2.2.1.trans' (H5.out.2.mono (fun q hq=>.inl (by simp at hq ⊢;grind))),H4.out.2.2.2.2⟩
  | true=>
    obtain⟨m,ma,mz,y,hr,hms,hgm,htm,hcx,hcut⟩:∃(m ma mz:Nat) (y:Int),r=m/\m<S/\G m=some (ma,mz,y)/\aG G m/\Cx G (fun t=>aG G t/\(t=m∨Aft G m y t)) a b/\¬Cx G (fun t=>aG G t/\t≠m) a b:=by
      rcases HS.out.1 with⟨e,_⟩|⟨_,v,u,p,m,e1,e2,h3,h4,hp,hin,hf,hr⟩
      · cases e
      · obtain rfl : v = S + a := by omega
        obtain rfl:u=S+b:=by omega
        obtain⟨ma,mz,y,h5,h6,h7,h8⟩:=vE H.out.gw H.out.keys hp hab hf hin;exact⟨m,ma,mz,y,hr,h5,h6,h7,h8,aMV H.out.frs (aMY H.out.frs (fun _ h=>h.1)) hp hf.1 h5⟩
    subst hr;have hmne:m≠s:=by rintro rfl;rw[h0]at hgm;cases hgm
    have hgm' :bS G s (some (a,b,x)) m=some (ma,mz,y):=by rw[aJ hmne];exact hgm
    have hl4:=H4.out.1.edges.run_get (t:=150) (e:=184) (z:=edZ) Tryz.underlying3 Tryz.underlying150 (by kernel_rfl) rfl (gK (s:=m) (by omega));rw[cT,hgm']at hl4;simp only[Option.map_some,Option.getD_some,htm,decide_true,edV]at hl4;have c4:=H4.out.1.hd.cell 4;simp only[zJ,zK]at c4;have HG:=qA (zI hgm (zI htm (zI hcx (zI hcut hgm'))));clear hgm htm hcx hcut hgm';have hf45:Fr [] w4 (w4.alloc (.cells #[.int .i64 ma,.int .i64 mz,.int .i64 y,.bool true] 184)):=(Fr.refl _ _).alloc _;have HF45:=qA hf45;clear hf45;have HLo:=qA (aCK (H4.out.1.fr0 HF45.out) HG.out.2.2.2.2 HG.out.2.1);by_cases hb:bef x s y m
    · have HB' := qA hb
      have late:∀t,aG G t↔aG (bS G s (some (a,b,x))) t:=fun t=>(aMO h0 (HG.out.2.2.1.mono fun t _ ht _=>by
        rcases ht.2 with rfl|⟨c,d,z,h1,h2⟩
        · exact⟨_,_,_,HG.out.1,HB'.out⟩
        · exact⟨c,d,z,h1,fL HB'.out h2⟩) t).symm
      have HE:=qA (show ∃L', FAt (w4.alloc (.cells #[.int .i64 ma,.int .i64 mz,.int .i64 y,.bool true] 184)) pf S V (bS G s (some (a,b,x))) L' /\ Fr (pf::pl::g::mb::l) w (w4.alloc (.cells #[.int .i64 ma,.int .i64 mz,.int .i64 y,.bool true] 184))/\∀q∈L', q∈pf::pl::g::mb::l∨w.heap.size<=q from
        ⟨_,⟨pl,g,ph,mb,l', _,n+1,(H4.out.1.fr0 HF45.out).congrT late,H4.out.2.1.fr HF45.out (by simp),H4.out.2.2.2.1,rfl⟩,H4.out.2.2.1.trans' (HF45.out.mono (by simp)),H4.out.2.2.2.2⟩)
      clear late HLo;unfold bef at hb;by_cases h1:x<y
      · clear hb
        go_wp2_with fail
        go_ret;exact⟨rfl,HE.out⟩
      · have h2 : x = y := by omega
        have h3:s<m:=by omega
        subst h2;clear hb h1;go_wp2_with fail
        go_ret;exact⟨rfl,HE.out⟩
    · have hb' := zP (show s ≠ m from hmne.symm) hb
      have HB' :=qA hb';unfold bef at hb hb';have swp:∀t,(aG G t/\t≠m)∨t=s↔aG (bS G s (some (a,b,x))) t:=fun t=>(aMP H.out.gw.slot h0 HG.out.1 HG.out.2.2.1 HG.out.2.2.2.1 HB'.out t).symm;have HSw:=qA swp;have HNC:=qA (show ¬Cx (bS G s (some (a,b,x))) (fun t=>aG G t/\t≠m) a b from fun e=>HG.out.2.2.2.1 ((aNM (fun h=>ht h.1) _).1 e));have n1:decide (x<y)=false:=qF (by omega);have n2:¬(x<y):=by omega
      have hfa:Hid (∀w5:World,FB w5 pf pl g ph mb S V (bS G s (some (a,b,x))) (fun t=>aG G t/\t≠m) key (n+1)->Calls Tryz.prog 178 #[cH pf,.int .i64 s] w5 fun e w' =>e=.returned (.tuple #[])/\FB w' pf pl g ph mb S V (bS G s (some (a,b,x))) (fun t=>(aG G t/\t≠m)∨t=s) (eW (S+V) key s x) (n+1)/\Fr [pf,pl,g,mb] w5 w'):=
        qA (fun w5 hB5=>aCM hB5 (bE _ _ _) (fun h=>ht h.1) HNC.out)
      have fin:Hid (∀w5 w6:World,Fr [pf,pl,g,mb] (w4.alloc (.cells #[.int .i64 ma,.int .i64 mz,.int .i64 y,.bool true] 184)) w5->Fr [pf,pl,g,mb] w5 w6->FB w6 pf pl g ph mb S V (bS G s (some (a,b,x))) (fun t=>(aG G t/\t≠m)∨t=s) (eW (S+V) key s x) (n+1) ->
          ∃L', FAt w6 pf S V (bS G s (some (a,b,x))) L' /\ Fr (pf::pl::g::mb::l) w w6/\∀q∈L', q∈pf::pl::g::mb::l∨w.heap.size<=q):=qA (fun w5 w6 f5 f6 hB6=>by
        have f46:Fr [pf,pl,g,mb] w4 w6:=((HF45.out.mono (by simp)).trans' f5).trans' f6;exact⟨_,⟨pl,g,ph,mb,l', _,n+1,hB6.congrT HSw.out,H4.out.2.1.fr f46 (fun q hq hm=>by have:=H4.out.2.2.2.1 q hq;simp at hm;grind),H4.out.2.2.2.1,rfl⟩,H4.out.2.2.1.trans' (f46.mono (fun q hq=>.inl (by simp at hq ⊢;grind))),H4.out.2.2.2.2⟩)
      clear swp hb';by_cases e:x=y
      · have n3 : decide (s < m) = false := qF (by omega)
        subst e;clear hb;go_wp2_with fail
        refine HLo.out.mono ?_;rintro _ w5 ⟨rfl,hB5,hF5⟩;have HF5:=qA hF5;have HFa:=qA (hfa.out _ hB5);clear hB5 hF5;go_wp2_with fail
        refine HFa.out.mono ?_;rintro _ w6 ⟨rfl,hB6,hF6⟩;have HF6:=qA (fin.out w5 w6 HF5.out hF6 hB6);clear hB6 hF6;go_wp2_with fail
        go_ret;exact⟨rfl,HF6.out⟩
      · have n3 : (x == y) = false := by simp [e]
        have n4:(y == x)=false:=by simp;omega
        clear hb;go_wp2_with fail
        refine HLo.out.mono ?_;rintro _ w5 ⟨rfl,hB5,hF5⟩;have HF5:=qA hF5;have HFa:=qA (hfa.out _ hB5);clear hB5 hF5;go_wp2_with fail
        refine HFa.out.mono ?_;rintro _ w6 ⟨rfl,hB6,hF6⟩;have HF6:=qA (fin.out w5 w6 HF5.out hF6 hB6);clear hB6 hF6;go_wp2_with fail
        go_ret;exact⟨rfl,HF6.out⟩
end
noncomputable def nV(V:Nat)(G:bX)(a b:Int):Bool:=inV V a&&inV V b&&decide (Cx G (fun _=>True) a.toNat b.toNat)
theorem aHG{S V:Nat}{G:bX}(h:GW S V G)(a b:Nat):Cx G (aG G) a b↔Cx G (fun _=>True) a b:=
  ⟨fun hc=>hc.mono fun _ _ _ _=>trivial,fun hc=>tC h.slot hc⟩
section
variable {w w' :World} {pf pl g ph mb S V n:Nat} {G:bX} {key:Nat->Int}
@[go_sem] theorem aXW(e1 e2 e3:Int)(tb:Bool)(w:World):(Instr.field 184 (.agg #[.int .i64 e1,.int .i64 e2,.int .i64 e3,.bool tb]) 2).run Tryz.prog w=.ok (.int .i64 e3) w:=by kernel_rfl
@[go_sem] theorem aXO(e1 e2 e3:Int)(tb:Bool)(w:World):(Instr.field 184 (.agg #[.int .i64 e1,.int .i64 e2,.int .i64 e3,.bool tb]) 3).run Tryz.prog w=.ok (.bool tb) w:=by kernel_rfl
noncomputable def dK(V:Nat)(G:bX)(a b:Int):Bool:=decide (a≠b)&&nV V G a b
noncomputable def fI(V:Nat)(G:bX)(a b:Int):Int:=if dK V G a b then vF G a.toNat b.toNat else 0
theorem aNO(h:FB w pf pl g ph mb S V G (aG G) key n)(a b:Int):
    Calls Tryz.prog 126 #[cH pf,.int .i64 a,.int .i64 b] w fun e w' =>e=.returned (.tuple #[.int .i64 (fI V G a b),.bool (dK V G a b)])/\FB w' pf pl g ph mb S V G (aG G) key n/\Fr [g] w w' :=by
 have HA:=kL h a;have HB:=kL h b;have hS:=h.leS;have hV:=h.leV;have H:=qA h;cases ha:inV V a with
 | false=>{
 have e:dK V G a b=false:=by simp[dK,nV,ha]
 have e' :fI V G a b=0:=by simp[fI,e]
 rw[e,e'];rw[ha]at HA;have HA:=qA HA;clear h e e' HB;go_enter Tryz.func126,Tryz.ntmps126
 go_wp2_with fail
 refine HA.out.mono ?_;rintro _ w1 ⟨rfl,rfl⟩;go_wp2
 go_ret2;exact⟨rfl,H.out,Fr.refl _ _⟩}
 | true=>{
 rw[ha]at HA;cases hb:inV V b with
 | false=>{
 have e:dK V G a b=false:=by simp[dK,nV,hb]
 have e' :fI V G a b=0:=by simp[fI,e]
 rw[e,e'];rw[hb]at HB;have HA:=qA HA;have HB:=qA HB;clear h e e';go_enter Tryz.func126,Tryz.ntmps126
 go_wp2_with fail
 refine HA.out.mono ?_;rintro _ w1 ⟨rfl,rfl⟩;go_wp2_with fail
 refine HB.out.mono ?_;rintro _ w1 ⟨rfl,rfl⟩;go_wp2
 go_ret2;exact⟨rfl,H.out,Fr.refl _ _⟩}
 | true=>{
 rw[hb]at HB;have HA:=qA HA;have HB:=qA HB;obtain⟨a,rfl,ha'⟩:=dD ha;obtain⟨b,rfl,hb'⟩:=dD hb;by_cases hab:a=b
 {
 subst hab;have e:dK V G a a=false:=by simp[dK]
 have e' :fI V G a a=0:=by simp[fI,e]
 rw[e,e'];clear h e e';go_enter Tryz.func126,Tryz.ntmps126
 go_wp2_with fail
 refine HA.out.mono ?_;rintro _ w1 ⟨rfl,rfl⟩;go_wp2_with fail
 refine HB.out.mono ?_;rintro _ w1 ⟨rfl,rfl⟩;go_wp2
 go_ret2;exact⟨rfl,H.out,Fr.refl _ _⟩}
 {
 have t1:((a:Int) == (b:Int))=false:=by simp;omega
 have hw1:IntKind.i64.wrap ((S:Int)+a)=(S:Int)+a:=zG _ (by omega);have hw2:IntKind.i64.wrap ((S:Int)+b)=(S:Int)+b:=zG _ (by omega);have HN:=qA (zI h.ne1 (zI h.ne2 h.lt));have HM:=qA (aTH (show LG w.drew pl g (S+V) (TE S G (aG G)) key _ from LG.fr h.lct (Fr.refl [] _).drew (by simp) (by simp)) ((S:Int)+a) ((S:Int)+b));have e1:=h.hd.cell 1;have e2:=h.hd.cell 2;simp only[zJ,zK]at e1 e2;clear h;go_enter Tryz.func126,Tryz.ntmps126
 go_wp2_with fail
 refine HA.out.mono ?_;rintro _ w1 ⟨rfl,rfl⟩;go_wp2_with fail
 refine HB.out.mono ?_;rintro _ w1 ⟨rfl,rfl⟩;go_wp2
 go_region_held3 (fun w' => w'.cell? ⟨pf, 1, none⟩ = some (.int .i64 S) /\ w'.cell? ⟨pf, 2, none⟩ = some (cH pl))
   (first
     | go_keep
     | (have N:=HN.out;exact⟨hF4.cell (by simp_all) (by simp;omega),hF4.cell (by simp_all) (by simp;omega)⟩))
   (first
     | (go_at_call 166;refine HM.out.mono ?_;rintro e w4 ⟨r,ok,rfl,hsay,hL4,hF4⟩))
 have hB4:=H.out.asked hL4 (((Fr.refl [g] w1).drew).trans' hF4);have H4:=qA (zI hB4 (((Fr.refl [g] w1).drew).trans' hF4));have HS:=qA (zI hsay hL4);clear hB4 hsay hL4 hF4 HM e1 e2;cases ok with
 | false=>{
 have e:dK V G a b=false:=by {
 rcases HS.out.1 with⟨_,_,hn⟩|⟨e,_⟩
 {
 have hc:¬Cx G (fun _=>True) a b:=by {
 intro hc;exact hn ⟨by simp[inV];omega,by simp[inV];omega,by
   rw[show((S:Int)+a).toNat=S+a by omega,show((S:Int)+b).toNat=S+b by omega];exact tE H.out.frs ((aHG H.out.gw a b).2 hc)⟩};simp[dK,nV,hc]}
 · cases e};have e' :fI V G a b=0:=by simp[fI,e]
 have HE:=qA (zI e e');clear e e';go_wp2
 go_ret2;exact⟨by rw[HE.out.1,HE.out.2];rfl,H4.out⟩}
 | true=>{
 obtain⟨m,ma,mz,y,hr,hms,hgm,htm,hu,hcx⟩:∃(m ma mz:Nat) (y:Int),r=m/\m<S/\G m=some (ma,mz,y)/\aG G m/\dZ G a b y/\Cx G (fun _=>True) a b:=by {
 rcases HS.out.1 with⟨e,_⟩|⟨_,v,u,p,m,e1,e2,h3,h4,hp,hin,hf,hr⟩
 · cases e
 {
 obtain rfl:v=S+a:=by omega
 obtain rfl:u=S+b:=by omega
 obtain⟨ma,mz,y,h5,h6,h7,h8⟩:=vE H.out.gw H.out.keys hp hab hf hin;exact⟨m,ma,mz,y,hr,h5,h6,h7,aCD H.out.gw.slot h6 h8 (aMV H.out.frs (aMY H.out.frs (fun _ h=>h.1)) hp hf.1 h5),h8.mono fun _ _ _ _=>trivial⟩}};subst hr;have e:dK V G a b=true:=by simp[dK,nV,ha,hb,hcx];omega
 have e' :fI V G a b=y:=by rw[fI,qD e,zD,zD];exact xN hu
 have HE:=qA (zI e e');have hl4:=H4.out.1.edges.run_get (t:=150) (e:=184) (z:=edZ) Tryz.underlying3 Tryz.underlying150 (by kernel_rfl) rfl (gK (s:=m) (by omega));rw[cT,hgm]at hl4;simp only[Option.map_some,Option.getD_some,htm,decide_true,edV]at hl4;have c4:=H4.out.1.hd.cell 4;simp only[zJ,zK]at c4;clear e e' hu hcx htm hgm;go_wp2
 go_ret2;exact⟨by rw[HE.out.1,HE.out.2];rfl,H4.out⟩}}}}
end
section
variable {w w' :World} {pf pl g ph mb S V n:Nat} {G:bX} {T T' :Nat->Prop} {key:Nat->Int} {l L:List Nat}
theorem aJO{m:Nat}(hT:∀t,t≠m->(T t↔T' t)):jY (gU G T) m none=gU (bS G m none) T' :=by
 funext k
 by_cases hk:k=(m:Int)
 · subst hk;rw[cO,cT,bE];rfl
 {
 rw[bK hk];unfold gU;by_cases h0:0<=k
 {
 have:k.toNat≠m:=by omega
 rw[aJ this];simp only[hT _ this]}
 · simp only[h0,if_false]}
theorem aNP{m:Nat}:nK (qOf G) m none=qOf (bS G m none):=by
 funext k
 by_cases hk:k=m
 · subst hk;rw[jR];simp[qOf,bE]
 · rw[gJ hk];simp[qOf,aJ hk]
theorem FB.gone(h:FB w pf pl g ph mb S V G T key n){m:Nat}{e:Nat×Nat×Int}(hm:G m=some e)(ht:¬T m){X:List Nat}(hf:Fr X w w')(h1:pf∉X)(h2:pl∉X)(h3:g∉X)(hI:dA Tryz.prog 3 .i64 okA w' mb (gU (bS G m none) T) (n-1)):
    FB w' pf pl g ph mb S V (bS G m none) T key (n-1):=by
 have hms:=h.gw.slot _ _ hm;have e' :TE S (bS G m none) T=TE S G T:=vD (fun _=>Iff.rfl) (fun t ht' =>by rw[aJ];rintro rfl;exact ht ht');have hc:cF S (fun s=>(bS G m none s).isSome=true)+1=cF S (fun s=>(G s).isSome=true):=pJ hms (by simp[hm]) (by simp[bE]) (fun x hx=>by rw[aJ hx]);refine⟨hf.blk h.hd h1,?_,hI,h.gw.del m,⟨fun t c d y h4 h5=>?_,h.keys.vert⟩,?_,h.leS,h.leV,h.ne1,h.ne2,h.ne3,h.ne4,h.ne5⟩
 · rw[e'];exact h.lct.fr hf h2 h3
 {
 rw[aJ (by rintro rfl;exact ht h5)]at h4;exact h.keys.slot t c d y h4 h5}
 · rw[h.cn,<-hc,Nat.add_sub_cancel]
theorem aUT(h:FAt w pf S V G L):Calls Tryz.prog 108 #[cH pf] w fun e w' =>e=.returned (.tuple #[.int .i64 ((pM G).getD 0:Nat),.bool (pM G).isSome])/\∃L', FAt w' pf S V (wN G) L' /\ Fr L w w' /\ ∀q∈L', q∈L∨w.heap.size<=q:=by
  obtain⟨pl,g,ph,mb,l,key,n,h1,hH,hD,rfl⟩:=h;have hlt:=h1.lt;have hllt:=hH.lt;have hS:=h1.leS;have hV:=h1.leV;have c3:=h1.hd.cell 3;simp only[zJ,zK]at c3;have HV:=qA (iM h1);have HP:=qA (aTF hH);have H:=qA h1;have HH:=qA (zI hD (zI hllt (zI hlt hH)));clear h1 hH hD hllt;go_enter Tryz.func108,Tryz.ntmps108
  go_wp2_with fail
  refine HV.out.mono ?_;rintro _ w ⟨rfl,rfl⟩;go_wp2_with fail
  refine HP.out.mono ?_;rintro _ w2 (⟨hn,rfl,hF2⟩|⟨hn,i,k,hq,hmin,rfl,l', hH2,hF2,hN2⟩)
  · have hz:∀s,G s=none:=by
      intro s;cases hs:G s with
      | none=>rfl
      | some e=>
        have:=H.out.cn;exact absurd (show(G s).isSome=true by simp[hs]) (lS (S:=S) (P:=fun s=>(G s).isSome=true) (by omega) s (H.out.gw.slot s e hs))
    have hfst:=aJL hz;have hpop:wN G=G:=by unfold wN;rw[hfst]
    have HE:=qA (zI hfst (zI hpop hF2));clear hz hfst hpop hF2;go_wp2
    go_ret2;refine⟨by rw[HE.out.1];rfl,_,⟨pl,g,ph,mb,l,key,n,?_,?_,HH.out.1,rfl⟩,(HE.out.2.2.mono (by simp)).alloc _,fun q hq=>.inl hq⟩
    · rw[HE.out.2.1];exact H.out.fr0 (HE.out.2.2.alloc _)
    · rw[HE.out.2.1];exact HH.out.2.2.2.fr (HE.out.2.2.alloc _) (by simp)
  · obtain⟨ma,mz,hg⟩:∃ma mz,G i=some (ma,mz,k):=by
      unfold qOf at hq;cases hs:G i with
      | none=>rw[hs]at hq;cases hq
      | some e=>rw[hs]at hq;simp at hq;subst hq;exact⟨e.1,e.2.1,rfl⟩
    have hall:∀t a b z,G t=some (a,b,z)->¬bef z t k i:=fun t a b z ht hb=>hmin t z (by simp[qOf,ht]) hb;have hfst:=aGV (m:=i) ⟨ma,mz,k,hg,hall⟩;have hpop:wN G=bS G i none:=by unfold wN;rw[hfst]
    have hdel:=aJC hg hall;have his:=H.out.gw.slot _ _ hg;have hq4:=HH.out.1;have hx1:pf∉l:=fun hm=>(hq4 _ hm).1 rfl;have hx2:pl∉l:=fun hm=>(hq4 _ hm).2.1 rfl;have hx3:g∉l:=fun hm=>(hq4 _ hm).2.2.1 rfl;have hx4:mb∉l:=fun hm=>(hq4 _ hm).2.2.2 rfl;have hF3:Fr l w (w2.alloc (.cells #[.int .i64 i,.int .i64 k] 223)):=hF2.alloc _;have hB3:=H.out.fr hF3 hx1 hx2 hx3 hx4;have hH3:=hH2.fr ((Fr.refl [] w2).alloc (.cells #[.int .i64 i,.int .i64 k] 223)) (by simp);have hbx:=Blk.new w2 [.int .i64 i,.int .i64 k] 223;have hsz:=hF2.size;rw[aNP]at hH3;have c4:=hB3.hd.cell 4;have x0:=hbx.cell 0;simp only[zJ,zK]at c4 x0;have hl0:=hB3.edges.run_get (t:=150) (e:=184) (z:=edZ) Tryz.underlying3 Tryz.underlying150 (by kernel_rfl) rfl (gK (s:=i) (by omega));rw[cT,hg]at hl0
    have fin:Hid (∀(T:Nat->Prop) (w4 w5:World),(∀t,T t↔aG (bS G i none) t)->FB w4 pf pl g ph mb S V G T key n->Fr [pf,pl,g,mb] (w2.alloc (.cells #[.int .i64 i,.int .i64 k] 223)) w4->Fr [mb] w4 w5->dA Tryz.prog 3 .i64 okA w5 mb (gU (bS G i none) T) (n-1) ->
        ∃L', FAt w5 pf S V (wN G) L' /\ Fr (pf::pl::g::mb::l) w w5/\∀q∈L', q∈pf::pl::g::mb::l∨w.heap.size<=q):=qA (fun T w4 w5 hT hB4 hF4 hF5 hI=>by
      have hn:¬T i:=fun h=>by obtain⟨_,_,_,e,_⟩:=(hT i).1 h;rw[bE]at e;cases e
      have hB5:=(hB4.gone hg hn hF5 (by simp;exact hB4.ne3) (by simp;exact hB4.ne4) (by simp;exact hB4.ne5) hI).congrT hT;have hF35:Fr [pf,pl,g,mb] (w2.alloc (.cells #[.int .i64 i,.int .i64 k] 223)) w5:=hF4.trans' (hF5.mono (fun q hq=>.inl (by simp at hq ⊢;exact .inr (.inr (.inr hq)))));have hd:∀q∈l', q≠pf/\q≠pl/\q≠g/\q≠mb:=by
        intro q hq;rcases hN2 _ hq with e|e
        · exact hq4 _ e
        · have:=HH.out.2.2.1;omega
      rw[hpop];refine⟨_,⟨pl,g,ph,mb,l', key,n-1,hB5,hH3.fr hF35 (fun q hq hm=>by have:=hd q hq;simp at hm;omega),hd,rfl⟩,(hF3.mono (fun q hq=>.inl (by simp[hq]))).trans' (hF35.mono (fun q hq=>.inl (by simp at hq ⊢;omega))),fun q hq=>?_⟩;simp only[qB]at hq ⊢;rcases hq with e|e|e|e|e
      · exact .inl (.inl e)
      · exact .inl (.inr (.inl e))
      · exact .inl (.inr (.inr (.inl e)))
      · exact .inl (.inr (.inr (.inr (.inl e))))
      · exact(hN2 _ e).imp (fun e=>.inr (.inr (.inr (.inr e)))) id)
    have del:Hid (∀(T:Nat->Prop) (w4:World),FB w4 pf pl g ph mb S V G T key n->∃w5,(Builtin.delete_ #[150,3] 0 #[.map (some mb),.int .i64 i]).run Tryz.prog w4=.ok (.tuple #[]) w5/\dA Tryz.prog 3 .i64 okA w5 mb (gU (bS G i none) T) (n-1)/\Fr [mb] w4 w5):=qA (fun T w4 hB4=>by
      obtain⟨w5,hr,hI,hF⟩:=hB4.edges.del (t:=150) (e:=184) Tryz.underlying3 Tryz.underlying150 (gK (s:=i) (by omega)) 0;rw[cT,hg,aJO (fun _ _=>Iff.rfl)]at hI;exact⟨w5,hr,hI,hF⟩)
    have HE:=qA (zI hfst (zI hdel (zI hB3 (zI hbx hsz))));have HF3:=qA hF3;have HH3:=qA hH3;have HG:=qA hg;have HLo:=qA (fun(w' :World) (h:FB w' pf pl g ph mb S V G (aG G) key n) (ht:aG G i)=>aCK h hg ht);clear hfst hpop hdel hB3 hbx hF3 hH3 hH2 hF2 hN2 hq hmin hall hx1 hx2 hx3 hx4 hq4 c3 hg;by_cases ht:aG G i
    · have HT := qA ht; clear ht
      have HL:=qA (fun(nq:Nat)=>(show(Instr.lookup 150 (.map (some mb)) (.int .i64 i) false).run Tryz.prog ((w2.alloc (.cells #[.int .i64 i,.int .i64 k] 223)).drewN nq)=.ok (.agg #[.int .i64 ma,.int .i64 mz,.int .i64 k,.bool true]) ((w2.alloc (.cells #[.int .i64 i,.int .i64 k] 223)).drewN nq) by
        have:=(HE.out.2.2.1.fr0 ((Fr.refl [] _).drewN nq)).edges.run_get (t:=150) (e:=184) (z:=edZ) Tryz.underlying3 Tryz.underlying150 (by kernel_rfl) rfl (gK (s:=i) (by omega));rw[cT,HG.out]at this;have ht:=HT.out;simpa only[Option.map_some,Option.getD_some,ht,decide_true,decide_false,edV] using this))
      clear hl0;go_wp2_with fail
      refine dB (fun w' =>∃nq,w' =(w2.alloc (.cells #[.int .i64 i,.int .i64 k] 223)).drewN nq) (by kernel_rfl) (by kernel_rfl) ⟨1,rfl⟩ ?_;iterate 3 (refine aH (by kernel_rfl) (fun KK hK=>?_);go_simp;refine hK.out _ ?_;clear hK KK)
      refine bC (by kernel_rfl) (.map (some mb)) (fun w' hw' =>?_) ?_
      · obtain ⟨nq, rfl⟩ := hw'
        go_simp
      iterate 1 (refine aH (by kernel_rfl) (fun KK hK=>?_);go_simp;refine hK.out _ ?_;clear hK KK)
      refine bC (by kernel_rfl) (.int .i64 i) (fun w' hw' =>?_) ?_
      · obtain ⟨nq, rfl⟩ := hw'
        go_simp
      refine bC (by kernel_rfl) (.agg #[.int .i64 ma,.int .i64 mz,.int .i64 k,.bool true]) (fun w' hw' =>?_) ?_
      · obtain ⟨nq, rfl⟩ := hw'
        have hl:=HL.out nq;go_simp
      iterate 1 (refine aH (by kernel_rfl) (fun KK hK=>?_);go_simp;refine hK.out _ ?_;clear hK KK)
      refine gF ?_;rintro w4 ⟨nq,rfl⟩;go_wp2_with fail
      refine(HLo.out _ (HE.out.2.2.1.fr0 ((Fr.refl [] _).drewN nq)) HT.out).mono ?_;rintro _ w4 ⟨rfl,hB4,hF4'⟩;have hF4:Fr [pf,pl,g,mb] (w2.alloc (.cells #[.int .i64 i,.int .i64 k] 223)) w4:=((Fr.refl _ _).drewN nq).trans' hF4';have hpf4:=hB4.hd;have hbx4:=hF4.blk HE.out.2.2.2.1 (by have N:=HH.out.2.2.1;have hsz:=HE.out.2.2.2.2;simp;omega);clear hF4' c4 x0;go_wp2_with fail
      have HX:=qA (zI hB4 (zI hF4 (zI hpf4 hbx4)));have x0:=hbx4.cell 0;have c4:=hpf4.cell 4;simp only[zJ,zK]at x0 c4;clear hB4 hF4 hpf4 hbx4;refine bF 6 (fun w' =>dA Tryz.prog 3 .i64 okA w' mb (gU (bS G i none) (fun t=>aG G t/\t≠i)) (n-1)/\Fr [mb] w4 w') (by kernel_rfl) (by kernel_rfl) (by kernel_rfl) ?_;iterate 6 (refine bM (by decide) (fun K hK=>?_);go_simp;refine hK _ ?_;clear hK K)
      refine aU rfl (.tuple #[]) (fun w' hw' =>?_) ?_
      · obtain ⟨nq, rfl⟩ := hw'
        obtain⟨w6,hrun,hI6,hF6⟩:=del.out _ _ (HX.out.1.fr0 ((Fr.refl [] _).drewN nq));go_simp
        first
          | exact⟨hI6,(((Fr.refl [mb] w4).drewN nq)).trans' hF6⟩
          | exact(((Fr.refl [mb] w4).drewN nq)).trans' hF6
      refine bN ?_;rintro w6 ⟨hI6,hF6⟩;have N:=HH.out.2.2.1;have hsz:=HE.out.2.2.2.2;have hbx6:=hF6.blk HX.out.2.2.2 (by simp;omega);have x0:=hbx6.cell 0;simp only[zJ]at x0;have HI6:=qA (zI hI6 hF6);clear hI6 hF6 hbx6 c4;go_wp2
      go_ret2;exact⟨by rw[HE.out.1];rfl,fin.out _ _ _ (fun t=>(HE.out.2.1 t).symm) HX.out.1 HX.out.2.1 HI6.out.2 HI6.out.1⟩
    · have HT := qA ht; clear ht
      have HL:=qA (fun(nq:Nat)=>(show(Instr.lookup 150 (.map (some mb)) (.int .i64 i) false).run Tryz.prog ((w2.alloc (.cells #[.int .i64 i,.int .i64 k] 223)).drewN nq)=.ok (.agg #[.int .i64 ma,.int .i64 mz,.int .i64 k,.bool false]) ((w2.alloc (.cells #[.int .i64 i,.int .i64 k] 223)).drewN nq) by
        have:=(HE.out.2.2.1.fr0 ((Fr.refl [] _).drewN nq)).edges.run_get (t:=150) (e:=184) (z:=edZ) Tryz.underlying3 Tryz.underlying150 (by kernel_rfl) rfl (gK (s:=i) (by omega));rw[cT,HG.out]at this;have ht:=HT.out;simpa only[Option.map_some,Option.getD_some,ht,decide_true,decide_false,edV] using this))
      clear hl0;go_wp2_with fail
      refine dB (fun w' =>∃nq,w' =(w2.alloc (.cells #[.int .i64 i,.int .i64 k] 223)).drewN nq) (by kernel_rfl) (by kernel_rfl) ⟨1,rfl⟩ ?_;iterate 3 (refine aH (by kernel_rfl) (fun KK hK=>?_);go_simp;refine hK.out _ ?_;clear hK KK)
      refine bC (by kernel_rfl) (.map (some mb)) (fun w' hw' =>?_) ?_
      · obtain ⟨nq, rfl⟩ := hw'
        go_simp
      iterate 1 (refine aH (by kernel_rfl) (fun KK hK=>?_);go_simp;refine hK.out _ ?_;clear hK KK)
      refine bC (by kernel_rfl) (.int .i64 i) (fun w' hw' =>?_) ?_
      · obtain ⟨nq, rfl⟩ := hw'
        go_simp
      refine bC (by kernel_rfl) (.agg #[.int .i64 ma,.int .i64 mz,.int .i64 k,.bool false]) (fun w' hw' =>?_) ?_
      · obtain ⟨nq, rfl⟩ := hw'
        have hl:=HL.out nq;go_simp
      iterate 1 (refine aH (by kernel_rfl) (fun KK hK=>?_);go_simp;refine hK.out _ ?_;clear hK KK)
      refine gF ?_;rintro w4 ⟨nq,rfl⟩;go_wp2_with fail
      have hF4:Fr [pf,pl,g,mb] (w2.alloc (.cells #[.int .i64 i,.int .i64 k] 223)) ((w2.alloc (.cells #[.int .i64 i,.int .i64 k] 223)).drewN nq):=(Fr.refl _ _).drewN nq;have hB4:=HE.out.2.2.1.fr0 ((Fr.refl [] _).drewN nq);have hbx4:=(Fr.refl [] _).drewN nq |>.blk HE.out.2.2.2.1 (by simp)
      generalize (w2.alloc (.cells #[.int .i64 i,.int .i64 k] 223)).drewN nq=w4 at *;have hpf4:=hB4.hd;clear c4 x0;have HX:=qA (zI hB4 (zI hF4 (zI hpf4 hbx4)));have x0:=hbx4.cell 0;have c4:=hpf4.cell 4;simp only[zJ,zK]at x0 c4;clear hB4 hF4 hpf4 hbx4;refine bF 6 (fun w' =>dA Tryz.prog 3 .i64 okA w' mb (gU (bS G i none) (aG G)) (n-1)/\Fr [mb] w4 w') (by kernel_rfl) (by kernel_rfl) (by kernel_rfl) ?_;iterate 6 (refine bM (by decide) (fun K hK=>?_);go_simp;refine hK _ ?_;clear hK K)
      refine aU rfl (.tuple #[]) (fun w' hw' =>?_) ?_
      · obtain ⟨nq, rfl⟩ := hw'
        obtain⟨w6,hrun,hI6,hF6⟩:=del.out _ _ (HX.out.1.fr0 ((Fr.refl [] _).drewN nq));go_simp
        first
          | exact⟨hI6,(((Fr.refl [mb] w4).drewN nq)).trans' hF6⟩
          | exact(((Fr.refl [mb] w4).drewN nq)).trans' hF6
      refine bN ?_;rintro w6 ⟨hI6,hF6⟩;have N:=HH.out.2.2.1;have hsz:=HE.out.2.2.2.2;have hbx6:=hF6.blk HX.out.2.2.2 (by simp;omega);have x0:=hbx6.cell 0;simp only[zJ]at x0;have HI6:=qA (zI hI6 hF6);clear hI6 hF6 hbx6 c4;go_wp2
      go_ret2;exact⟨by rw[HE.out.1];rfl,fin.out _ _ _ (fun t=>((HE.out.2.1 t).trans ⟨fun h=>h.1,fun h=>⟨h,by rintro rfl;exact HT.out h⟩⟩).symm) HX.out.1 HX.out.2.1 HI6.out.2 HI6.out.1⟩
end
end Go.Proofs.YtjdgpcjbgjnahaaGreatDoor
namespace Go.Proofs.YtjdgpcjbgjnahaaGreatDoor
open Go.RowKit Go.Maps
def kM(P:Program)(k:TypeId)(q:IntKind)(ok:Value->Bool)(w:World)(b r:Nat)(m:Int->Option Value)(n:Nat)(done:List Int)(cnt:Nat):Prop:=
  ∃(D:DataW Value) (left:Lit->Bool),w.ranges P k (sS ok) b r n D left cnt/\Tidy D/\Maps.size D=n /\
    (∀a:Int,(Lit.int q a).wf=true->(Maps.has D (.int q a)=(m a).isSome/\∀v,m a=some v->ok v=true/\∀z,D.atKey (.int q a) z=.held v)) /\
    done.Nodup/\(∀x∈done,(Lit.int q x).wf=true/\(m x).isSome=true)/\(∀x,(Lit.int q x).wf=true->(left (.int q x)=true↔(m x).isSome=true/\x∉done))
section
variable {P:Program} {k t e:TypeId} {q:IntKind} {ok:Value->Bool} {w w' :World} {b r n cnt:Nat} {m:Int->Option Value} {done:List Int}
theorem kM.fr{S:List Nat}(h:kM P k q ok w b r m n done cnt)(hf:Fr S w w')(hb:b∉S)(hr:r∉S):kM P k q ok w' b r m n done cnt:=by
 obtain⟨D,left,h1,h2⟩:=h;refine⟨D,left,?_,h2⟩;have l1:=h1.owns.lt;have l2:=h1.lt;obtain⟨es,clock,since,seen,c0,hb', F,hs,hD,hr', rest⟩:=h1;exact⟨es,clock,since,seen,c0,(hf.keep b l1 hb).trans hb', F,hs,hD,(hf.keep r l2 hr).trans hr', rest⟩
theorem kM.left_eq(h:kM P k q ok w b r m n done cnt):w.rangeLeft b r=cnt:=by
 obtain⟨D,left,h1,_⟩:=h;exact h1.left_eq
variable {ops:Array Oper} {rest:List Oper} {o:Oper} {a:Act} {Q:Exit->Act->World->Prop}
theorem wO(hg:o.guard=none)(mo:Operand)(hop:o.op=Op.range t mo)(h:dA P k q ok w b m n)(hk:P.underlying k=some (.int q))(ht:P.underlying t=some (.map k e))
    (hm:a.eval mo=.map (some b)) (hK:∀w' cnt,kM P k q ok w' b w.heap.size m n [] cnt->cnt<=n->Fr [] w w' -> w'.heap.size=w.heap.size+1->wpList P ops Q rest (a.put o.dst (.pointer (some ⟨w.heap.size,0,none⟩))) w'):
    wpList P ops Q (o::rest) a w:=by
 obtain⟨D,h1,h2,h3,h4⟩:=h;refine wpList_range_own w hg mo t hop k e (int_keyed hk) ht (sS ok) b n D hm h1 fun w' hr hgw hs=>?_;refine hK w' _ ⟨D,Maps.has D,hr,h2,h3,h4,.nil,(fun x hx=>by cases hx),fun x hx=>?_⟩ (by rw[h3];exact qK _) ((Fr.refl _ _).grown hgw (fun k e=>by cases e)) hs;rw[(h4 x hx).1];simp
theorem aAE(hg:o.guard=none)(it:Operand)(hop:o.op=Op.next it false)(hk:P.underlying k=some (.int q))(hit:a.eval it=.pointer (some ⟨r,0,none⟩))(h:kM P k q ok w b r m n done cnt)
    (hDone:(∀x,(Lit.int q x).wf=true->(m x).isSome=true->x∈done)->wpList P ops Q rest (a.put o.dst (.tuple #[.bool false])) w)
    (hMore:∀(x:Int) (c:Value) (w' :World) (cnt' :Nat),(Lit.int q x).wf=true->m x=some c->x∉done->kM P k q ok w' b r m n (done++[x]) cnt' -> cnt' < cnt->Fr [r] w w' -> w'.heap.size=w.heap.size ->
      (Instr.entry (.pointer (some ⟨r,0,none⟩))).run P w' =.ok (.tuple #[.int q x,c]) w' -> wpList P ops Q rest (a.put o.dst (.tuple #[.bool true,.int q x,c])) w'):
    wpList P ops Q (o::rest) a w:=by
 obtain⟨D,left,h1,h2,h3,h4,h5,h6,h7⟩:=h
 refine wpList_next_ranges w hg it hop k (int_keyed hk) (sS ok) (Value.int q) (fun (c : Value) => c) (fun key kl hkey => by obtain ⟨x, rfl, _⟩ := Maps.keyOf_int_inv hk hkey; exact ⟨x, rfl⟩) (fun v y _ => ⟨v, rfl⟩) b r n D left cnt hit h1
   (fun _ hl=>hDone fun x hx hs=>qQ fun hn=>by have:=(h7 x hx).2 ⟨hs,hn⟩;rw[hl]at this;cases this) ?_
 intro x c kl y w' cnt' hkey hlk hv hat hrg hlt hgr hsz hen;obtain⟨x', ex,rfl,hw⟩:=Maps.keyOf_int_inv hk hkey;cases ex;obtain⟨hsome,hnd⟩:=(h7 x hw).1 hlk;obtain⟨u,hu⟩:=qV.1 hsome;have hcu:c=u:=by {
 have e1:=hat (.held undef);rw[((h4 x hw).2 u hu).2]at e1;unfold sS at hv;split at hv
 · cases hv;simpa using e1.symm
 · cases hv};subst hcu;refine hMore x c w' cnt' hw hu hnd ⟨D,_,hrg,h2,h3,h4,?_,fun z hz=>?_,fun z hz=>?_⟩ hlt ((Fr.refl _ _).grown hgr (fun k e=>.inl (by simp at e;simp[e]))) hsz hen
 · exact qN.2 ⟨h5,by simp,by rintro a ha b hb rfl;simp at hb;subst hb;exact hnd ha⟩
 {
 rcases qE.1 hz with hz|hz
 · exact h6 z hz
 · simp at hz;subst hz;exact⟨hw,hsome⟩}
 {
 have e:(Lit.int q z).sameKey (.int q x)=decide (z=x):=by simp[Lit.sameKey]
 show(left (.int q z)&&!(Lit.int q z).sameKey (.int q x))=true↔_
 rw[e,qX,h7 z hz];simp only[qE,qH,not_or,Bool.not_eq_true', decide_eq_false_iff_not,and_assoc]}
end
end Go.Proofs.YtjdgpcjbgjnahaaGreatDoor
namespace Go.Proofs.YtjdgpcjbgjnahaaGreatDoor
open Go.RowKit Go.Sort
end Go.Proofs.YtjdgpcjbgjnahaaGreatDoor
namespace Go.Proofs.YtjdgpcjbgjnahaaGreatDoor
open Go.RowKit Classical
section
variable {w w' :World} {pf pl g ph mb S V n:Nat} {G:bX} {key:Nat->Int}
end
def aCN(S v:Nat):Nat->Int:=fun u=>if S<=u/\u<S+v then 9223372036854775807 else 0
theorem aJP(S:Nat):aCN S 0=fun _=>0:=by funext u;unfold aCN;rw[qC (by omega)]
theorem aJQ{S V v:Nat}(h:v<V):eW (S+V) (aCN S v) ((S:Int)+v) 9223372036854775807=aCN S (v+1):=by
 funext u
 unfold eW aCN;by_cases hu:u=((S:Int)+v).toNat
 · rw[qD ⟨by simp[inV];omega,hu⟩,qD (by omega)]
 {
 rw[qC (fun h=>hu h.2)];by_cases h2:S<=u/\u<S+v
 · rw[qD h2,qD (by omega)]
 · rw[qC h2,qC (by omega)]}
theorem aUU(V S:Nat)(w:World)(hV:V<=4096)(hS:S<=16384):
    Calls Tryz.prog 86 #[.int .i64 V,.int .i64 S] w fun r w' =>∃pf,r=.returned (.tuple #[cH pf,.int .i64 0])/\∃L,FAt w' pf S V (fun _=>none) L/\Fr [] w w' /\ ∀q∈L,w.heap.size<=q:=by
 have d1:decide ((V:Int)<0)=false:=qF (by omega);have d2:decide ((V:Int)>4096)=false:=qF (by omega);have d3:decide ((S:Int)<0)=false:=qF (by omega);have d4:decide ((S:Int)>16384)=false:=qF (by omega);have d2' :¬4096<V:=by omega
 have d4' :¬16384<S:=by omega
 have hw1:IntKind.i64.wrap ((S:Int)+V)=((S+V:Nat):Int):=by rw[show(S:Int)+V=((S+V:Nat):Int) by omega];exact zG _ (by omega)
 have hmk:∀W:World,(Instr.makeMap 150 none).run Tryz.prog W=.ok (.map (some W.heap.size)) (W.alloc (.map #[] 0)):=fun W=>by kernel_rfl
 have HL:=qA (aXI (S+V) w (by omega));have HHn:=qA (fun(w' :World)=>aNH S w' (by omega));go_enter Tryz.func86,Tryz.ntmps86
 go_wp2_with (go_at_call 130;refine HL.out.mono ?_;rintro _ w1 ⟨pl,g,rfl,hL1,hF1,hp1,hg1⟩)
 have H1:=qA (zI hL1 (zI hF1 (zI hp1 hg1)));clear hL1 hF1 hp1 hg1 HL;go_loopw [35] (fun x wr=>∃v:Nat,v<=V/\x=.int .i64 v/\Hid (LM wr pl g (S+V) (fun _ _=>False) (aCN S v)/\Fr [] w wr)) (fun x _=>V-(intOf x).toNat)
 case atStart=>exact⟨0,qS _,rfl,qA ⟨by rw[aJP];exact H1.out.1,H1.out.2.1⟩⟩
 case round=>
  obtain⟨v,hv,rfl,HR⟩:=hrel;by_cases hlt:v<V
  {
  have hlt' :(v:Int)<V:=by omega
  have SW:=aTG HR.out.1 ((S:Int)+v) 9223372036854775807;rw[aJQ hlt]at SW;have HS:=qA SW;clear SW;have hw2:IntKind.i64.wrap ((S:Int)+v)=(S:Int)+v:=zG _ (by omega);have hw3:IntKind.i64.wrap ((v:Int)+1)=((v+1:Nat):Int):=by rw[show(v:Int)+1=((v+1:Nat):Int) by omega];exact zG _ (by omega)
  go_wp2_with (go_at_call 131;refine HS.out.mono ?_;rintro _ w2 ⟨rfl,hL2,hF2⟩)
  go_roundw
  case rel=>exact⟨v+1,by omega,rfl,qA ⟨hL2,HR.out.2.trans hF2 (fun q hq=>.inr (by simp at hq;subst hq;exact H1.out.2.2.2))⟩⟩
  case measure=>simp[intOf];omega}
  {
  obtain rfl:v=V:=by omega
  have HN:=qA (HHn.out wr);go_wp2_with (go_at_call 129;refine HN.out.mono ?_;rintro _ w3 ⟨ph,rfl,l,hH3,hF3,hN3⟩)
  go_ret2;have hn:∀t,¬aG (fun _=>none) t:=by rintro t ⟨_,_,_,e,_⟩;cases e
  have hc0:cF S (aG fun _=>none)=0:=by rw[dY (T' :=fun _=>False) (fun t=>⟨hn t,False.elim⟩),rP]
  have hb:=Blk.new (w3.alloc (.map #[] 0)) [.int .i64 v,.int .i64 S,cH pl,aP ph,.map (some w3.heap.size),.int .i64 0] 152;have hm:=dA.made w3 Tryz.prog 3 .i64 okA;have hf:Fr [] wr ((w3.alloc (.map #[] 0)).alloc (.cells [.int .i64 v,.int .i64 S,cH pl,aP ph,.map (some w3.heap.size),.int .i64 0].toArray 152)):=(hF3.alloc _).alloc _;have hl:=(LG.lts HR.out.1);have hsz:=hF3.size;have hsr:=HR.out.2.size;have hw1s:=H1.out.2.1.size;have hf2:Fr [] w3 ((w3.alloc (.map #[] 0)).alloc (.cells [.int .i64 v,.int .i64 S,cH pl,aP ph,.map (some w3.heap.size),.int .i64 0].toArray 152)):=((Fr.refl _ _).alloc _).alloc _;refine⟨w3.heap.size+1,rfl,_,⟨pl,g,ph,w3.heap.size,l,aCN S v,0,⟨?_,?_,?_,GW.no S v,⟨fun _ _ _ _ h=>(by cases h),fun u hu=>?_⟩,?_,hS,hV,?_,?_,?_,?_,?_⟩,?_,?_,rfl⟩,HR.out.2.trans hf (by simp),?_⟩
  · rw[hc0];simpa using hb
  · rw[aQT];exact LG.fr HR.out.1 hf (by simp) (by simp)
  {
  have e:gU (fun _=>none) (aG fun _=>none)=fun _=>none:=by funext k;unfold gU;split<;>rfl
  rw[e];exact(hm.same (Below.heap_alloc _ _ _ (by simp)))}
  · unfold aCN;rw[qD (by omega)]
  · rw[dY (T' :=fun _=>False) (fun t=>by simp),rP]
  · have:=hl.1;omega
  · have:=hl.2.1;omega
  · omega
  · have:=hl.1;omega
  · have:=hl.2.1;omega
  · exact hH3.fr hf2 (by simp)
  {
  intro b hb;have h1:=hN3 b hb;have h2:=hH3.lt b hb;have:=hl.1;have:=hl.2.1;omega}
  {
  intro q hq;simp only[qB]at hq;have h1:=H1.out.2.2;rcases hq with rfl|rfl|rfl|rfl|hq
  · omega
  · exact h1.1
  · exact h1.2
  · omega
  · have:=hN3 q hq;omega}}
structure FO (w wr:World) (pf S V:Nat) (G:bX) (L:List Nat):Prop where
  f:FAt wr pf S V G L
  fr:Fr [] w wr
  new:∀q∈L,w.heap.size<=q
def FM(w wr w' :World)(pf S V:Nat)(G:bX)(L:List Nat):Prop:=∃L', FO w w' pf S V G L' /\ Fr L wr w' /\ ∀q∈L', q∈L∨wr.heap.size<=q
section
variable {w wr w' :World} {pf S V:Nat} {G G' :bX} {L L' :List Nat}
theorem FO.next(h:FO w wr pf S V G L)(h1:FAt w' pf S V G' L')(h2:Fr L wr w')(h3:∀q∈L', q∈L∨wr.heap.size<=q):FM w wr w' pf S V G' L:=
  ⟨L', ⟨h1,h.fr.trans h2 (fun q hq=>.inr (h.new q hq)),fun q hq=>(h3 q hq).elim (h.new q) (fun e=>zH h.fr.size e)⟩,h2,h3⟩
theorem FO.keep(h:FO w wr pf S V G L){X:List Nat}(hf:Fr X wr w')(hx:∀b∈L,b∉X)(hw:∀b∈X,w.heap.size<=b):FO w w' pf S V G L:=
  ⟨h.f.fr hf hx,h.fr.trans hf (fun q hq=>.inr (hw q hq)),h.new⟩
theorem FO.keep0(h:FO w wr pf S V G L)(hf:Fr [] wr w'):FO w w' pf S V G L:=h.keep hf (by simp) (by simp)
theorem FO.self(h:FO w wr pf S V G L)(h2:Fr [] wr w'):FM w wr w' pf S V G L:=⟨L,h.keep0 h2,h2.mono (by simp),fun _ hq=>.inl hq⟩
theorem FAt.gw(h:FAt wr pf S V G L):GW S V G/\S<=16384/\V<=4096:=by
 obtain⟨pl,g,ph,mb,l,key,n,h1,_⟩:=h;exact⟨h1.gw,h1.leS,h1.leV⟩
theorem aUV(h:FO w wr pf S V G L)(s a b x:Int)(hx:-9223372036854775808<=x/\x<=9223372036854775807):
    Calls Tryz.prog 138 #[cH pf,.int .i64 s,.int .i64 a,.int .i64 b,.int .i64 x] wr fun e w' =>e=.returned (.int .i64 (eO S V G s a b))/\FM w wr w' pf S V (sW S V G s a b x) L:=by
 by_cases h1:inV S s=true/\inV V a=true/\inV V b=true
 {
 obtain⟨s,rfl,hs⟩:=dD h1.1;obtain⟨a,rfl,ha⟩:=dD h1.2.1;obtain⟨b,rfl,hb⟩:=dD h1.2.2;by_cases hab:a=b
 {
 have e1:eO S V G s a b=9:=by unfold eO;rw[qD h1,qD (by omega)]
 have e2:sW S V G s a b x=G:=by unfold sW;rw[e1,qC (by omega)]
 rw[e1,e2];obtain⟨pl,g,ph,mb,l,key,n,hB,_⟩:=id h.f;refine(aHF hB hs ha hb x (.inl hab)).mono ?_;rintro e w' ⟨rfl,hf⟩;exact⟨by rw[qD hab],h.self hf⟩}
 {
 cases hg:G s with
 | some e=>{
 have e1:eO S V G s a b=6:=by unfold eO;rw[qD h1,qC (by omega),zD,hg];rfl
 have e2:sW S V G s a b x=G:=by unfold sW;rw[e1,qC (by omega)]
 rw[e1,e2];obtain⟨pl,g,ph,mb,l,key,n,hB,_⟩:=id h.f;refine(aHF hB hs ha hb x (.inr ⟨hab,by rw[hg];rfl⟩)).mono ?_;rintro e w' ⟨rfl,hf⟩;exact⟨by rw[qC hab],h.self hf⟩}
 | none=>{
 have e1:eO S V G s a b=0:=by unfold eO;rw[qD h1,qC (by omega),zD,hg];rfl
 have e2:sW S V G s a b x=bS G s (some (a,b,x)):=by unfold sW;rw[e1,qD rfl];simp
 rw[e1,e2];refine(aNN h.f hs ha hb hab hg x hx).mono ?_;rintro e w' ⟨rfl,L', h2,h3,h4⟩;exact⟨rfl,h.next h2 h3 h4⟩}}}
 {
 have e1:eO S V G s a b=3:=by unfold eO;rw[qC h1]
 have e2:sW S V G s a b x=G:=by unfold sW;rw[e1,qC (by omega)]
 rw[e1,e2];obtain⟨pl,g,ph,mb,l,key,n,hB,_⟩:=id h.f;refine(aNL hB s a b x h1).mono ?_;rintro e w' ⟨rfl,rfl⟩;exact⟨rfl,h.self (Fr.refl _ _)⟩}
theorem aUW(h:FO w wr pf S V G L):Calls Tryz.prog 108 #[cH pf] wr fun e w' =>e=.returned (.tuple #[.int .i64 ((pM G).getD 0:Nat),.bool (pM G).isSome])/\FM w wr w' pf S V (wN G) L:=by
 refine(aUT h.f).mono ?_;rintro e w' ⟨rfl,L', h2,h3,h4⟩;exact⟨rfl,h.next h2 h3 h4⟩
theorem aUX{pl g ph mb n:Nat}{l:List Nat}{key:Nat->Int}(h:FO w wr pf S V G (pf::pl::g::mb::l))(hH:dE wr ph S (qOf G) n l)(hD:∀b∈l,b≠pf/\b≠pl/\b≠g/\b≠mb)(hB:FB w' pf pl g ph mb S V G (aG G) key n)(hF:Fr [g] wr w'):FM w wr w' pf S V G (pf::pl::g::mb::l):=
  h.next ⟨pl,g,ph,mb,l,key,n,hB,hH.fr hF (fun b hb hm=>by simp at hm;exact(hD b hb).2.2.1 hm),hD,rfl⟩ (hF.mono (fun q hq=>.inl (by simp at hq;simp[hq]))) (fun q hq=>.inl hq)
theorem aNQ(h:FO w wr pf S V G L)(a b:Int):Calls Tryz.prog 126 #[cH pf,.int .i64 a,.int .i64 b] wr fun e w' =>e=.returned (.tuple #[.int .i64 (fI V G a b),.bool (dK V G a b)])/\FM w wr w' pf S V G L:=by
 obtain⟨pl,g,ph,mb,l,key,n,hB,hH,hD,rfl⟩:=id h.f;refine(aNO hB a b).mono ?_;rintro e w' ⟨rfl,h2,h3⟩;exact⟨rfl,aUX h hH hD h2 h3⟩
noncomputable def kS(V:Nat)(G:bX):Nat:=cF V (pK G fun _=>True)
theorem aJR(hG:GW S V G):kS V G+cF S (aG G)=V:=by
 have h1:=aJJ hG;have h2:kS V G=cF V (pK G (aG G)):=by {
 unfold kS;exact dY fun v=>by unfold pK;simp only[aHG hG]};omega
theorem aNR(h:FO w wr pf S V G L):Calls Tryz.prog 61 #[cH pf] wr fun e w' =>e=.returned (.int .i64 (kS V G))/\FO w w' pf S V G L/\Fr [] wr w' :=by
 obtain⟨pl,g,ph,mb,l,key,n,hB,_⟩:=id h.f;have e1:=aJR hB.gw;refine(aNI hB).mono ?_;rintro e w' ⟨rfl,h3⟩;refine⟨?_,h.keep0 h3,h3⟩;rw[show(V:Int)-cF S (aG G)=kS V G by omega]
end
end Go.Proofs.YtjdgpcjbgjnahaaGreatDoor
