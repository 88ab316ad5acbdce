/- The document's window: has, put. -/
import Derived.Test.YtgmnemndjjmgkaaGreatB9
import Derived.Test.YtgmnemndjjmgkaaGreatB8
import Derived.Test.YtgmnemndjjmgkaaGreatB1
import Derived.Test.YtgmnemndjjmgkaaGreatB6
import Derived.Test.YtgmnemndjjmgkaaGreatB3
import Derived.Deep.RegionHeld3
import Derived.Shelf.SlGeneric
import Derived.Ground.SlgnProg
import Derived.Shelf.SlicesE.Clone
import Derived.Ground.SlmcProg
import Derived.Shelf.SlMaps.Clone
import Derived.StillTailTactics
set_option maxRecDepth 10000
set_option maxHeartbeats 1600000
set_option linter.unusedSimpArgs false
set_option linter.unusedVariables false
/- A new window. -/
namespace Go.Proofs.YtgmnemndjjmgkaaGreat
open Go.RowKit
theorem Tryz.infoe27:∃i,Tryz.prog.info? 27=some i:=zE.1 (by kernel_rfl)
@[go_sem] theorem bBJ(w:World):(Op.equalIn 10000 169 (.agg #[.int .i64 0,.int .i64 0,.int .i64 0,.int .i64 0]) (.agg #[.int .i64 0,.int .i64 0,.int .i64 0,.int .i64 0])).run Tryz.prog w=.ok true w:=by
 obtain⟨i,hi⟩:=Tryz.infoe27;have u3:=Tryz.underlying27;have a3:=Tryz.isAgg27;have z3:=Tryz.sizeOf27;have hc:Tryz.prog.cellsOf 27=1:=by kernel_rfl
 rw[show(10000:Nat)=9999+1 from rfl,run_equalIn_array w 9999 _ _ Tryz.underlying169 hi,hc];have r2:List.range 4=[0,1,2,3]:=rfl;rw[r2];simp only[Op.eqItems];go_simp
@[go_sem] theorem aZZ(x y:Operand)(xs ys:Array Value)(w:World):(eqGuard .neq 169 x y (.agg xs) (.agg ys)).run Tryz.prog w=.ok () w:=run_eqGuard_agg w .neq 169 x y xs ys (by kernel_rfl)
theorem bCH(m D:Int)(E V:Nat)(w:World)(h1:1<=m)(h2:1<=E)(h3:E<=16384)(h4:2<=V)(h5:V<=4096)(h6:0<=D)(h7:D<=16384):
    Calls Tryz.prog 119 #[.agg #[.int .i64 m,.int .i64 E,.int .i64 V,.int .i64 D]] w fun e w' =>e=.returned (.bool true)/\Fr [] w w' :=by
 have d1:decide (m≥1)=true:=qO h1;have d2:decide ((E:Int)≥1)=true:=qO (by omega);have d3:decide ((E:Int)<=16384)=true:=qO (by omega);have d4:decide ((V:Int)≥2)=true:=qO (by omega);have d5:decide ((V:Int)<=4096)=true:=qO (by omega);have d6:decide (D≥0)=true:=qO h6;have d7:decide (D<=16384)=true:=qO h7;go_enter Tryz.func119,Tryz.ntmps119
 go_wp2
 go_ret;exact⟨rfl,(Fr.refl _ _).alloc _⟩
structure NS (w0 w:World) (b be bc:Nat) (l:List Value) (m D:Int) (E V:Nat):Prop where
  hd:Blk w b 83 l
  er:Blk w be 169 [.int .i64 0,.int .i64 0,.int .i64 0,.int .i64 0]
  co:Blk w bc 55 [.int .i64 m,.int .i64 E,.int .i64 V,.int .i64 D]
  fr:Fr [] w0 w
  lb:w0.heap.size<=bc
  le:bc<be
  lw:be<b
theorem NS.go{w0 w w' :World}{b be bc:Nat}{l:List Value}{m D:Int}{E V:Nat}(h:NS w0 w b be bc l m D E V)(hf:Fr [] w w'):NS w0 w' b be bc l m D E V:=
  ⟨hf.blk h.hd (by simp),hf.blk h.er (by simp),hf.blk h.co (by simp),h.fr.trans' hf,h.lb,h.le,h.lw⟩
theorem NS.put{w0 w:World}{b be bc:Nat}{l:List Value}{m D:Int}{E V:Nat}(h:NS w0 w b be bc l m D E V)(i j:Nat)(v:Value)(hj:j<4):
    NS w0 ((w.setCell ⟨b,i,none⟩ v).setCell ⟨be,j,none⟩ (.int .i64 0)) b be bc (l.set i v) m D E V/\Fr [b,be] w ((w.setCell ⟨b,i,none⟩ v).setCell ⟨be,j,none⟩ (.int .i64 0)):=by
 have h1:=h.lb;have h2:=h.le;have h3:=h.lw;have f1:Fr [b] w (w.setCell ⟨b,i,none⟩ v):=(Fr.refl _ _).setCell _ _ (.inl (by simp));have f2:Fr [be] (w.setCell ⟨b,i,none⟩ v) ((w.setCell ⟨b,i,none⟩ v).setCell ⟨be,j,none⟩ (.int .i64 0)):=(Fr.refl _ _).setCell _ _ (.inl (by simp));have he:=(f1.blk h.er (by simp;omega)).set j (.int .i64 0);refine⟨⟨f2.blk (h.hd.set i v) (by simp;omega),?_,f2.blk (f1.blk h.co (by simp;omega)) (by simp;omega),(h.fr.setCell _ _ (.inr (by simp;omega))).setCell _ _ (.inr (by simp;omega)),h1,h2,h3⟩,((Fr.refl _ _).setCell _ _ (.inl (by simp))).setCell _ _ (.inl (by simp))⟩;match j,hj with
 | 0,_=>exact he
 | 1,_=>exact he
 | 2,_=>exact he
 | 3,_=>exact he
theorem NS.mid{w0 w:World}{b be bc:Nat}{l:List Value}{m D:Int}{E V:Nat}(h:NS w0 w b be bc l m D E V)(i:Nat)(v:Value):NS w0 (w.setCell ⟨b,i,none⟩ v) b be bc (l.set i v) m D E V:=by
 have h1:=h.lb;have h2:=h.le;have h3:=h.lw;have f1:Fr [b] w (w.setCell ⟨b,i,none⟩ v):=(Fr.refl _ _).setCell _ _ (.inl (by simp));exact⟨h.hd.set i v,f1.blk h.er (by simp;omega),f1.blk h.co (by simp;omega),h.fr.setCell _ _ (.inr (by simp;omega)),h1,h2,h3⟩
theorem aJN(m D:Int)(E V g:Nat)(w:World)(h1:1<=m)(h1' :m<=9223372036854775807)(h2:1<=E)(h3:E<=16384)(h4:2<=V)(h5:V<=4096)(h6:0<=D)(h7:D<=16384)(hg:g<=9223372036854775807):
    Calls Tryz.prog 68 #[.agg #[.int .i64 m,.int .i64 E,.int .i64 V,.int .i64 D],.int .u64 g] w fun e w' =>∃pw,e=.returned (.tuple #[aN pw,.int .i64 0])/\∃K,dS w' pw (Wm.new m E V D g) K/\Fr [] w w' /\ ∀q∈K,w.heap.size<=q:=by
 have HC:=qB (bCH m D E V (w.alloc (.cells #[.int .i64 m,.int .i64 E,.int .i64 V,.int .i64 D] 55)) h1 h2 h3 h4 h5 h6 h7);have bc:=Blk.new w [.int .i64 m,.int .i64 E,.int .i64 V,.int .i64 D] 55;have HNC:=qB (fun w' =>aZN m h1 h1' w');have HNS:=qB (fun w' =>aUS V E g w' h5 h3 hg);have HNX:=qB (fun w' =>aZM E w' (by omega));have HNF:=qB (fun w' =>aZJ V E w' h5 h3);have HOK:=qB (Wm.new_ok (m:=m) (E:=E) (V:=V) (D:=D) (gone:=g) h1 h1' h3 h5 hg);go_enter Tryz.func68,Tryz.ntmps68
 go_wp2_with fail
 refine HC.out.mono ?_;rintro _ w1 ⟨rfl,hF1⟩;have hs1:=hF1.size;simp only[World.size_alloc]at hs1;obtain⟨W,hW⟩:∃W,W=(w1.alloc (.cells #[.int .i64 0,.int .i64 0,.int .i64 0,.int .i64 0] 169)).alloc (.cells #[.int .i64 m,.int .i64 E,.int .i64 V,.int .i64 D,.pointer none,.pointer none,.pointer none,.pointer none,.int .u64 g,.int .u64 g] 83):=⟨_,rfl⟩;have hN:NS w W (w1.heap.size+1) w1.heap.size w.heap.size [.int .i64 m,.int .i64 E,.int .i64 V,.int .i64 D,.pointer none,.pointer none,.pointer none,.pointer none,.int .u64 g,.int .u64 g] m D E V:=by {
 have k1:=(Blk.new w1 [.int .i64 0,.int .i64 0,.int .i64 0,.int .i64 0] 169).alloc (.cells #[.int .i64 m,.int .i64 E,.int .i64 V,.int .i64 D,.pointer none,.pointer none,.pointer none,.pointer none,.int .u64 g,.int .u64 g] 83);have k2:=Blk.new (w1.alloc (.cells #[.int .i64 0,.int .i64 0,.int .i64 0,.int .i64 0] 169)) [.int .i64 m,.int .i64 E,.int .i64 V,.int .i64 D,.pointer none,.pointer none,.pointer none,.pointer none,.int .u64 g,.int .u64 g] 83;rw[World.size_alloc]at k2;subst hW;exact⟨k2,k1,((hF1.blk bc (by simp)).alloc _).alloc _,((((Fr.refl _ _).alloc _).trans' hF1).alloc _).alloc _,qS _,by omega,by omega⟩};have x0:=((hF1.blk bc (by simp)).alloc (.cells #[.int .i64 0,.int .i64 0,.int .i64 0,.int .i64 0] 169)).cell 0;have x1:=((hF1.blk bc (by simp)).alloc (.cells #[.int .i64 0,.int .i64 0,.int .i64 0,.int .i64 0] 169)).cell 1;have x2:=((hF1.blk bc (by simp)).alloc (.cells #[.int .i64 0,.int .i64 0,.int .i64 0,.int .i64 0] 169)).cell 2;have x3:=((hF1.blk bc (by simp)).alloc (.cells #[.int .i64 0,.int .i64 0,.int .i64 0,.int .i64 0] 169)).cell 3;have y0:=hN.co.cell 0;rw[hW]at y0;simp only[zS,zT]at x0 x1 x2 x3 y0;have HN:=qB hN;clear hN bc hF1 HC;go_wp2_with fail
 clear x0 x1 x2 x3 y0;rw[<-hW];clear hW;generalize hb:w1.heap.size+1=b at *;generalize hbe:w1.heap.size=be at *;generalize hbc:w.heap.size=bc at *;clear hb hbe;refine(HNC.out W).mono ?_;rintro _ W1 ⟨pc,rfl,hc,hF1,hpc⟩;have hN1:=HN.out.go hF1;have hp1:=hN1.put 4 0 (iA pc) (by decide);have b4:=hN1.hd.cell 4;have z4:=hN1.hd.frozen 4;have e0:=(hN1.mid 4 (iA pc)).er.cell 0;have f0:=(hN1.mid 4 (iA pc)).er.frozen 0;have c1:=hp1.1.co.cell 1;have c2:=hp1.1.co.cell 2;simp only[zS,zT,zD,zH]at b4 e0 c1 c2 hp1;have H1:=qB (zR hc (zR hF1 (zR hpc hp1)));have HNb:=qB (zR HN.out.hd.lt HN.out.lw);clear hc hF1 hpc hN1 hp1 HNC HN;go_wp2_with fail
 clear b4 z4 e0 f0 c1 c2;generalize (W1.setCell ⟨b,4,none⟩ (iA pc)).setCell ⟨be,0,none⟩ (.int .i64 0)=V1 at *;refine(HNS.out V1).mono ?_;rintro _ W2 ⟨ps,rfl,Ks,hc,hF2,hk2⟩;have hN2:=H1.out.2.2.2.1.go hF2;have hp2:=hN2.put 5 1 (fP ps) (by decide);have b4:=hN2.hd.cell 5;have z4:=hN2.hd.frozen 5;have e0:=(hN2.mid 5 (fP ps)).er.cell 1;have f0:=(hN2.mid 5 (fP ps)).er.frozen 1;have c1:=hp2.1.co.cell 1;simp only[zS,zT,zD,zH]at b4 e0 c1 hp2;have H2:=qB (zR hc (zR hF2 (zR hk2 hp2)));clear hc hF2 hk2 hN2 hp2 HNS;go_wp2_with fail
 clear b4 z4 e0 f0 c1;generalize (W2.setCell ⟨b,5,none⟩ (fP ps)).setCell ⟨be,1,none⟩ (.int .i64 0)=V2 at *;refine(HNX.out V2).mono ?_;rintro _ W3 ⟨px,rfl,lx,hc,hF3,hk3⟩;have hN3:=H2.out.2.2.2.1.go hF3;have hp3:=hN3.put 6 2 (aL px) (by decide);have b4:=hN3.hd.cell 6;have z4:=hN3.hd.frozen 6;have e0:=(hN3.mid 6 (aL px)).er.cell 2;have f0:=(hN3.mid 6 (aL px)).er.frozen 2;have c1:=hp3.1.co.cell 1;have c2:=hp3.1.co.cell 2;simp only[zS,zT,zD,zH]at b4 e0 c1 c2 hp3;have H3:=qB (zR hc (zR hF3 (zR hk3 hp3)));clear hc hF3 hk3 hN3 hp3 HNX;go_wp2_with fail
 clear b4 z4 e0 f0 c1 c2;generalize (W3.setCell ⟨b,6,none⟩ (aL px)).setCell ⟨be,2,none⟩ (.int .i64 0)=V3 at *;refine(HNF.out V3).mono ?_;rintro _ W4 ⟨pf,rfl,Lf,hc,hF4,hk4⟩;have hN4:=H3.out.2.2.2.1.go hF4;have hp4:=hN4.put 7 3 (cA pf) (by decide);have b4:=hN4.hd.cell 7;have z4:=hN4.hd.frozen 7;have e0:=(hN4.mid 7 (cA pf)).er.cell 3;have f0:=(hN4.mid 7 (cA pf)).er.frozen 3;have g0:=hp4.1.er.cell 0;have g1:=hp4.1.er.cell 1;have g2:=hp4.1.er.cell 2;have g3:=hp4.1.er.cell 3;simp only[zS,zT,zD,zH]at b4 e0 g0 g1 g2 g3 hp4;have H4:=qB (zR hc (zR hF4 (zR hk4 hp4)));clear hc hF4 hk4 hN4 hp4 HNF;go_wp2_with fail
 clear b4 z4 e0 f0 g0 g1 g2 g3;generalize (W4.setCell ⟨b,7,none⟩ (cA pf)).setCell ⟨be,3,none⟩ (.int .i64 0)=V4 at *;go_ret2;obtain⟨hc1,hF1,hpc,hn1,hG1⟩:=H1.out;obtain⟨hc2,hF2,hk2,hn2,hG2⟩:=H2.out;obtain⟨hc3,hF3,hk3,hn3,hG3⟩:=H3.out;obtain⟨hc4,hF4,hk4,hn4,hG4⟩:=H4.out;have hbW:=HNb.out.1;have hbb:=HNb.out.2;have s1:=hF1.size;have s2:=hF2.size;have s3:=hF3.size;have s4:=hF4.size;have t1:=hG1.size;have t2:=hG2.size;have t3:=hG3.size;have t4:=hG4.size;have e1:=hc1.hd.lt;have hlb:=hn4.lb;have hle:=hn4.le;have a1:∀q,W.heap.size<=q->q∉[b,be]:=fun q hq hm=>by
   simp only[qF,List.not_mem_nil,or_false]at hm;rcases hm with rfl|rfl<;>omega
 have k2:∀q∈Ks,W1.heap.size<=q:=fun q hq=>zQ t1 (hk2 q hq);have k3:∀q∈lx,W2.heap.size<=q:=fun q hq=>zQ t2 (hk3 q hq);have k4:∀q∈Lf,W3.heap.size<=q:=fun q hq=>zQ t3 (hk4 q hq);refine⟨b,rfl,cF b pc Ks lx Lf,⟨HOK.out,pc,ps,px,pf,0,Ks,lx,Lf,fun x=>if x=b then 0 else if x=pc then 1 else if x<W2.heap.size then 2 else if x<W3.heap.size then 3 else 4,⟨hn4.hd,?_,?_,?_,?_,by simp,?_,?_,?_,?_⟩,rfl⟩,hn4.fr,?_⟩
 · exact((((((hc1.fr hG1 (a1 _ (by omega))).fr0 hF2).fr hG2 (a1 _ (by omega))).fr0 hF3).fr hG3 (a1 _ (by omega))).fr0 hF4).fr hG4 (a1 _ (by omega))
 · exact((((hc2.fr hG2 (fun q hq=>a1 q (by have:=k2 q hq;omega))).fr0 hF3).fr hG3 (fun q hq=>a1 q (by have:=k2 q hq;omega))).fr0 hF4).fr hG4 (fun q hq=>a1 q (by have:=k2 q hq;omega))
 · exact((hc3.fr hG3 (fun q hq=>a1 q (by have:=k3 q hq;omega))).fr0 hF4).fr hG4 (fun q hq=>a1 q (by have:=k3 q hq;omega))
 · exact hc4.fr hG4 (fun q hq=>a1 q (by have:=k4 q hq;omega))
 · rw[qH (by omega),qI rfl]
 {
 intro q hq;have:=k2 q hq;have:=hc2.lt q hq;rw[qH (by omega),qH (by omega),qI (by omega)]}
 {
 intro q hq;have:=k3 q hq;have:=hc3.lt q hq;rw[qH (by omega),qH (by omega),qH (by omega),qI (by omega)]}
 {
 intro q hq;have:=k4 q hq;rw[qH (by omega),qH (by omega),qH (by omega),qH (by omega)]}
 {
 intro q hq;simp only[cF,qF,qJ]at hq;rcases hq with rfl|rfl|hq|hq|hq
 · omega
 · omega
 · have:=k2 q hq;omega
 · have:=k3 q hq;omega
 · have:=k4 q hq;omega}
theorem bAA(m D:Int)(E V:Nat)(w:World)(h1:1<=m)(h1' :m<=9223372036854775807)(h2:1<=E)(h3:E<=16384)(h4:2<=V)(h5:V<=4096)(h6:0<=D)(h7:D<=16384):
    Calls Tryz.prog 29 #[.agg #[.int .i64 m,.int .i64 E,.int .i64 V,.int .i64 D]] w fun e w' =>∃pw,e=.returned (.tuple #[aN pw,.int .i64 0])/\∃K,dS w' pw (Wm.new m E V D 0) K/\Fr [] w w' /\ ∀q∈K,w.heap.size<=q:=by
 have HF:=qB (aJN m D E V 0 (w.alloc (.cells #[.int .i64 m,.int .i64 E,.int .i64 V,.int .i64 D] 55)) h1 h1' h2 h3 h4 h5 h6 h7 (by decide));have x0:=(Blk.new w [.int .i64 m,.int .i64 E,.int .i64 V,.int .i64 D] 55).cell 0;have x1:=(Blk.new w [.int .i64 m,.int .i64 E,.int .i64 V,.int .i64 D] 55).cell 1;have x2:=(Blk.new w [.int .i64 m,.int .i64 E,.int .i64 V,.int .i64 D] 55).cell 2;have x3:=(Blk.new w [.int .i64 m,.int .i64 E,.int .i64 V,.int .i64 D] 55).cell 3;simp only[zS,zT]at x0 x1 x2 x3;go_enter Tryz.func29,Tryz.ntmps29
 go_wp2_with fail
 refine HF.out.mono ?_;rintro _ w1 ⟨pw,rfl,K,h1,h2,h3⟩;have HH:=qB (zR h1 (zR h2 h3));clear h1 h2 h3 x0 x1 x2 x3;go_wp2
 go_ret2;exact⟨pw,rfl,K,HH.out.1,((Fr.refl _ _).alloc _).trans' HH.out.2.1,fun q hq=>by have:=HH.out.2.2 q hq;simp at this;omega⟩
section
variable {w w' :World} {pw:Nat} {W:Wm} {K:List Nat}
theorem lV.of0(h:dS w pw W K)(hf:Fr [] w w'):lV w w' pw W K:=⟨K,h.fr0 hf,hf.mono (by simp),fun _ h=>.inl h⟩
theorem aHG{pc ps px pf nq:Nat}{Ks lx Lf:List Nat}(hok:W.Ok)(h:WMv w w' pw pc ps px pf (W.wp nq) Ks lx Lf):lV w w' pw W (cF pw pc Ks lx Lf):=by
 obtain⟨Lf', cl', hB,hF,hn⟩:=h;refine⟨_,⟨hok,pc,ps,px,pf,nq,Ks,lx,Lf', cl', hB,rfl⟩,hF.mono (fun b hb=>.inl (aJJ hb)),fun q hm=>?_⟩;simp only[cF,qF,qJ]at hm ⊢;rcases hm with e|e|e|e|e
 · simp[e]
 · simp[e]
 · simp[e]
 · simp[e]
 · exact(hn q e).imp (fun e=>by simp[e]) id
theorem aJO(h:dS w pw W K):Calls Tryz.prog 16 #[aN pw] w fun e w' =>e=.returned (.int .i64 W.now)/\w' =w:=by
 obtain⟨hok,pc,ps,px,pf,nq,Ks,lx,Lf,cl,hB,rfl⟩:=h;exact aZQ hB
theorem aQM(h:dS w pw W K)(u v:Nat)(hu:u<18446744073709551616)(hv:v<18446744073709551616):
    Calls Tryz.prog 15 #[aN pw,.int .u64 u,.int .u64 v] w fun e w' =>e=.returned (.tuple #[.bool (iO (W.wp 0) u v),.int .i64 (cC W.s u v)])/\lV w w' pw W K:=by
 obtain⟨hok,pc,ps,px,pf,nq,Ks,lx,Lf,cl,hB,rfl⟩:=h;exact(aVA hB u v hu hv).mono fun _ _ h=>⟨h.1,aHG hok h.2⟩
theorem zW(h:dS w pw W K)(u v:Nat)(hu:u<18446744073709551616)(hv:v<18446744073709551616):
    Calls Tryz.prog 14 #[aN pw,.int .u64 u,.int .u64 v] w fun e w' =>e=.returned (.tuple #[.int .i64 (jV (W.wp 0) u v),.bool (fZ (W.wp 0) u v),.int .i64 (cC W.s u v)])/\lV w w' pw W K:=by
 obtain⟨hok,pc,ps,px,pf,nq,Ks,lx,Lf,cl,hB,rfl⟩:=h;exact(aQG hB u v hu hv).mono fun _ _ h=>⟨h.1,aHG hok h.2⟩
noncomputable def pE(W:Wm):Int:=(jU W.V W.G:Int)-(W.V-W.s.M.L.length)
theorem zX(h:dS w pw W K):Calls Tryz.prog 18 #[aN pw] w fun e w' =>e=.returned (.tuple #[.int .i64 W.s.L.length,.int .i64 W.s.M.L.length,.int .i64 (pE W)])/\Fr [] w w' :=by
 obtain⟨hok,pc,ps,px,pf,nq,Ks,lx,Lf,cl,hB,rfl⟩:=h;have hvl:W.s.M.L.length<=W.V/\W.V<=4096:=by {
 have h1:=hok.ok.md.cnt;have h2:=hok.ok.md.ar.hb;have h3:=hok.ok.ms;have h4:=hok.hV;have h5:=hok.ok.leV;have h6:W.s.M.ar.slots=W.s.M.slots:=rfl;have h7:W.s.M.ar.begun=W.s.M.given:=rfl;omega};have hcl:jU W.V W.G<=W.V:=by unfold jU bL;exact zQ (List.length_filter_le _ _) (by simp)
 have HV:=qB (dH hB);have HSV:=qB (aNU hB.st);have HSL:=qB (fun(w' :World) (hf:Fr [] w w')=>aYN (hB.st.fr0 hf));have HFC:=qB (fun(w' :World) (hf:Fr [] w w')=>aQF (hB.fo.fr hf (by simp)));have c2:=hB.hd.cell 2;have c5:=hB.hd.cell 5;have c7:=hB.hd.cell 7;simp only[zS,zT]at c2 c5 c7;have HC:=qB (fun(w' :World) (hf:Fr [] w w')=>zR (hf.cell c5 (by simp)) (hf.cell c7 (by simp)));clear hB;unfold pE;have e1:(W.wp nq).s=W.s:=rfl;have e2:(W.wp nq).V=W.V:=rfl;have e3:(W.wp nq).G=W.G:=rfl;rw[e1]at HSV HSL;rw[e2,e3]at HFC;rw[e2]at c2;clear e1 e2 e3;generalize jU W.V W.G=cg at *;generalize W.s.M.L.length=vl at *;generalize W.s.L.length=el at *;generalize W.V=V at *;have hwr:IntKind.i64.wrap ((cg:Int)-(V-vl))=(cg:Int)-(V-vl):=by simp[IntKind.wrap,IntKind.bits,IntKind.signed];omega
 go_enter Tryz.func18,Tryz.ntmps18
 go_wp2_with fail
 refine HV.out.mono ?_;rintro _ w ⟨rfl,rfl⟩;go_wp2_with fail
 refine HSV.out.mono ?_;rintro _ w ⟨rfl,rfl⟩;go_wp2_with fail
 go_region_held3 (fun w' => w'.cell? ⟨pw, 5, none⟩ = some (fP ps) /\ w'.cell? ⟨pw, 7, none⟩ = some (cA pf))
   (first
     | with_reducible exact HC.out _ HF2.out
     | with_reducible exact HC.out _ (Fr.refl [] w).drew)
   (first
     | (go_at_call 48;with_reducible refine Calls.mono (HSL.out _ ((Fr.refl [] w).drew)) ?_;rintro r w2 ⟨rfl,rfl⟩)
     | (go_at_call 48;with_reducible refine Calls.mono (HSL.out _ HF2.out) ?_;rintro r w3 ⟨rfl,rfl⟩)
     | (go_at_call 49;with_reducible refine Calls.mono (HFC.out _ ((Fr.refl [] w).drew)) ?_;rintro r w2 ⟨rfl,hF2⟩;have HF2:=qB (Fr.trans' (Fr.refl [] w).drew hF2)))
 all_goals
  go_wp2
  go_ret3;exact⟨rfl,HF2.out⟩
end
end Go.Proofs.YtgmnemndjjmgkaaGreat
namespace Go.Proofs.YtgmnemndjjmgkaaGreat
open Go.RowKit Classical
theorem Cx.inv{G:bG}{U:Nat->Prop}(C:Nat->Prop)(h:∀s a b x,U s->G s=some (a,b,x)->(C a↔C b)){p q:Nat}(hc:Cx G U p q):C p↔C q:=by
 induction hc with
 | refl=>exact Iff.rfl
 | step s x _ h1 h2 ih=>{
 rcases h2 with h2|h2
 · exact ih.trans (h _ _ _ _ h1 h2)
 · exact ih.trans (h _ _ _ _ h1 h2).symm}
def exG:bG:=fun t=>if t=0 then some (0,1,10) else if t=1 then some (1,2,14) else if t=2 then some (0,2,16) else none
theorem eG{s a b:Nat}{x:Int}(h:exG s=some (a,b,x)):(s=0/\a=0/\b=1/\x=10)∨(s=1/\a=1/\b=2/\x=14)∨(s=2/\a=0/\b=2/\x=16):=by
 unfold exG at h;by_cases h0:s=0
 · rw[qI h0]at h;simp at h;omega
 {
 rw[qH h0]at h;by_cases h1:s=1
 · rw[qI h1]at h;simp at h;omega
 {
 rw[qH h1]at h;by_cases h2:s=2
 · rw[qI h2]at h;simp at h;omega
 · rw[qH h2]at h;cases h}}
theorem ex0:exG 0=some (0,1,10):=rfl
theorem ex1:exG 1=some (1,2,14):=rfl
theorem ex2:exG 2=some (0,2,16):=rfl
theorem exT0:¬aA exG 0:=by
 rintro⟨a,b,x,h,hn⟩;rw[ex0]at h;simp at h;obtain⟨rfl,rfl,rfl⟩:=h;refine hn ((Cx.edge (s:=2) ⟨0,2,16,ex2,.inl (by omega)⟩ ex2).trans (Cx.edge' (s:=1) ⟨1,2,14,ex1,.inl (by omega)⟩ ex1))
theorem exT1:aA exG 1:=by
 refine⟨1,2,14,ex1,fun hc=>?_⟩;have:=Cx.inv (fun v=>v=0∨v=2) (fun s a b x hU hg=>by
   obtain⟨a', b', y,h1,h2⟩:=hU;have:=eG hg;have:=eG h1;unfold bef at h2;omega) hc
 omega
theorem exT2:aA exG 2:=by
 refine⟨0,2,16,ex2,fun hc=>?_⟩;have:=Cx.inv (fun v=>v=0) (fun s a b x hU hg=>by
   obtain⟨a', b', y,h1,h2⟩:=hU;have:=eG hg;have:=eG h1;unfold bef at h2;omega) hc
 omega
theorem exT3{s:Nat}(h:3<=s):¬aA exG s:=by
 rintro⟨a,b,x,h1,_⟩;have:=eG h1;omega
theorem exGW:GW 5 4 exG:=by
 refine⟨fun s e h=>?_,fun s a b x h=>?_,fun s a b x h=>?_⟩
 {
 obtain⟨a,b,x⟩:=e;have:=eG h;omega}
 · have:=eG h;omega
 · have:=eG h;omega
theorem aVH:jU 4 exG=2:=by
 have h:=yX exGW;have h2:bL 5 (aA exG)=2:=by {
 unfold bL;rw[show List.range 5=[0,1,2,3,4] from rfl];simp[exT0,exT1,exT2,exT3 (s:=3) (by omega),exT3 (s:=4) (by omega)]};omega
theorem ex02:Cx exG (fun _=>True) 0 2:=Cx.edge (s:=2) trivial ex2
def exS1:Sm:=(Sm.new 4 3 0).ins 1 2 5 0 10
def aES:Sm:=exS1.ins 2 3 7 4 14
def gP:Sm:=aES.ins 1 3 9 6 16
def aLX:Nat->Option Int:=fun j=>if j=0 then some 10 else none
def aCD:Nat->Option Int:=fun j=>if j=1 then some 14 else aLX j
def jL:Nat->Option Int:=fun j=>if j=2 then some 16 else aCD j
def aVI:bG:=fun j=>if j=0 then some (0,1,10) else none
def wG:bG:=fun j=>if j=1 then some (1,2,14) else aVI j
def nF:bG:=fun j=>if j=2 then some (0,2,16) else wG j
def exW(now:Int)(s:Sm)(Q:Nat->Option Int)(G:bG):Wm:={ m:=10,E:=3,V:=4,D:=0,now:=now,s:=s,Q:=Q,G:=G,gone:=0 }
theorem aJP:nF=exG:=by
 funext t
 unfold nF wG aVI exG;by_cases h2:t=2
 · subst h2;rfl
 {
 by_cases h1:t=1
 · subst h1;rfl
 {
 by_cases h0:t=0
 · subst h0;rfl
 · simp[h0,h1,h2]}}
theorem bAB(now t x:Int)(s:Sm)(Q:Nat->Option Int)(G:bG)(u v:Nat)(wt:Int)(a b k:Nat)(hk:s.slot=k)(hx:t+10=x):
    ((exW now s Q G).tick t [] Q).put u v wt a b=exW t (s.ins u v wt t x) (fun j=>if j=k then some x else Q j) (fun j=>if j=k then some (a,b,x) else G j):=by
 subst hk hx;simp[exW,Wm.tick,Wm.put,Sm.rems]
theorem aJQ{Q:Nat->Option Int}{to:Int}(h:∀i x,Q i=some x->to<x){ds:List Nat}{Q' :Nat->Option Int}(hm:fC to Q ds Q'):ds=[]/\Q' =Q:=hm.uniq (.done _ h)
theorem aVJ:∀i x,aLX i=some x->(4:Int)<x:=by
 intro i x h;unfold aLX at h;split at h<;>simp at h;omega
theorem aVK:∀i x,aCD i=some x->(6:Int)<x:=by
 intro i x h;unfold aCD aLX at h;split at h
 · simp at h;omega
 · split at h<;>simp at h;omega
theorem pF{i:Nat}{x:Int}(h:jL i=some x):(i=2/\x=16)∨(i=1/\x=14)∨(i=0/\x=10):=by
 unfold jL aCD aLX at h;split at h
 · simp at h;omega
 {
 split at h
 · simp at h;omega
 · split at h<;>simp at h;omega}
theorem aQN{ds:List Nat}{Q' :Nat->Option Int}(hm:fC 10 jL ds Q'):ds=[0]:=by
 refine(hm.uniq (.more jL 0 10 [] _ rfl (by omega) (fun j y h=>?_) (.done _ fun i x h=>?_))).1
 · have:=pF h;omega
 {
 have h' :(if i=0 then none else jL i)=some x:=h;split at h'
 · cases h'
 · have:=pF h'; omega}
theorem aHH{w:World}{pw:Nat}{K:List Nat}{now t x:Int}{s:Sm}{Q:Nat->Option Int}{G:bG}(h:dS w pw (exW now s Q G) K)(u v:Nat)(hu:u<16)(hv:v<16)(hne:u≠v)(wt:Int)(ht0:0<=t)(ht1:t<=1000)(ht:now<=t)(hl:s.last<100)(hq:∀i y,Q i=some y->t<y)(hc:s.chk u v=0)(a b k:Nat)
    (hk:s.slot=k) (hx:t+10=x) (ha:(s.ins u v wt t x).M.find u=some a) (hb:(s.ins u v wt t x).M.find v=some b):
    Calls Tryz.prog 21 #[aN pw,iK u v wt t] w fun e w' =>e=.returned (.int .i64 0)/\lV w w' pw (exW t (s.ins u v wt t x) (fun j=>if j=k then some x else Q j) (fun j=>if j=k then some (a,b,x) else G j)) K:=by
 refine(aCC h u v (by omega) (by omega) hne wt t (by omega) (by omega) (by unfold cN;rw[qH (by show ¬t<now;omega)];unfold eQ;exact qI (by show t+10<=_;omega)) (by show s.last<_;omega)).mono ?_;rintro _ w' ⟨c,rfl,ds,Q', hm,h1⟩;obtain⟨rfl,rfl⟩:=aJQ (Q:=Q) hq hm;rcases h1 with⟨_,h1,_⟩|⟨rfl,_,a', b', ha', hb', hs⟩
 · exact absurd hc h1
 {
 subst hx;have e1:a' =a:=Option.some.inj (ha'.symm.trans ha);have e2:b' =b:=Option.some.inj (hb'.symm.trans hb);subst e1 e2;rw[bAB now t _ s Q' G u v wt a' b' k hk rfl]at hs;exact⟨rfl,hs⟩}
theorem zY(G:bG)(s:Sm)(Q:Nat->Option Int)(now r:Int)(u v a b:Nat)(ha:s.M.find u=some a)(hb:s.M.find v=some b)(hal:a<4)(hbl:b<4)(hne:a≠b)(hc:Cx G (fun _=>True) a b)(hr:dU G a b r):
    fZ ((exW now s Q G).wp 0) u v=true/\jV ((exW now s Q G).wp 0) u v=r/\cC s u v=0:=by
 have h0:cC s u v=0:=by unfold cC;rw[qI (by simp[ha,hb])]
 have hi:bZ s u v=a:=by unfold bZ;rw[qI (by simp[ha,hb]),ha];rfl
 have hj:bZ s v u=b:=by unfold bZ;rw[qI (by simp[ha,hb]),hb];rfl
 have hB:dG 4 G a b=true:=by {
 have:Cx G (fun _=>True) (a:Int).toNat (b:Int).toNat:=hc;unfold dG eN;rw[qO this,qO (show(a:Int)≠b by omega)];simp[inV];omega};refine⟨?_,?_,h0⟩
 {
 unfold fZ;rw[show((exW now s Q G).wp 0).s=s from rfl,qI h0,hi,hj];exact hB}
 {
 unfold jV;rw[show((exW now s Q G).wp 0).s=s from rfl,qI h0,hi,hj];show eZ 4 G a b=r
 unfold eZ;rw[qI hB];exact sG hr}
theorem wH{s a b:Nat}{x:Int}(h:wG s=some (a,b,x)):(s=0/\a=0/\b=1/\x=10)∨(s=1/\a=1/\b=2/\x=14):=by
 unfold wG aVI at h;split at h
 · simp at h;omega
 · split at h<;>simp at h;omega
theorem sM:fZ ((exW 4 aES aCD wG).wp 0) 1 3=true/\jV ((exW 4 aES aCD wG).wp 0) 1 3=10/\cC aES 1 3=0:=by
 have h0:wG 0=some (0,1,10):=rfl;have h1:wG 1=some (1,2,14):=rfl;refine zY wG aES aCD 4 10 1 3 0 2 (by decide) (by decide) (by omega) (by omega) (by omega) ((Cx.edge (s:=0) trivial h0).trans (Cx.edge (s:=1) trivial h1)) ⟨(Cx.edge (s:=0) ⟨0,1,10,h0,by omega⟩ h0).trans (Cx.edge (s:=1) ⟨1,2,14,h1,by omega⟩ h1),fun hc=>?_⟩;have:=Cx.inv (fun v=>v=0) (fun s a b x hU hg=>by
   obtain⟨a', b', y,h1,h2⟩:=hU;have:=wH hg;have:=wH h1;omega) hc
 omega
theorem sN:fZ ((exW 6 gP jL nF).wp 0) 1 3=true/\jV ((exW 6 gP jL nF).wp 0) 1 3=16/\cC gP 1 3=0:=by
 rw[aJP];refine zY exG gP jL 6 16 1 3 0 2 (by decide) (by decide) (by omega) (by omega) (by omega) ex02 ⟨Cx.edge (s:=2) ⟨0,2,16,ex2,by omega⟩ ex2,fun hc=>?_⟩;have:=Cx.inv (fun v=>v=0) (fun s a b x hU hg=>by
   obtain⟨a', b', y,h1,h2⟩:=hU;have:=eG hg;have:=eG h1;omega) hc
 omega
theorem wI:pE (exW 6 gP jL nF)=1/\gP.L.length=3/\gP.M.L.length=3:=by
 have h1:gP.M.L.length=3:=by decide
 refine⟨?_,by decide,h1⟩;have h2:pE (exW 6 gP jL nF)=(jU 4 nF:Int)-(4-gP.M.L.length):=rfl;rw[h2,aJP,aVH,h1];rfl
theorem bAC{ds:List Nat}{Q' :Nat->Option Int}(hm:fC 9 jL ds Q'):(gP.rems ds).chk 4 5=12:=by
 obtain⟨rfl,_⟩:=aJQ (fun i x h=>by have:=pF h;omega) hm;decide
theorem aVL{ds:List Nat}{Q' :Nat->Option Int}(hm:fC 10 jL ds Q'):(gP.rems ds).chk 4 5=11:=by
 rw[aQN hm];decide
theorem zZ{w:World}{pw:Nat}{K:List Nat}{t:Int}(h:dS w pw (exW 6 gP jL nF) K)(ht:6<=t)(ht1:t<=1000)(c:Nat)(hc0:c≠0)(hc:∀{ds Q'},fC t jL ds Q' -> (gP.rems ds).chk 4 5=c):
    Calls Tryz.prog 21 #[aN pw,iK 4 5 1 t] w fun e w' =>e=.returned (.int .i64 c)/\lV w w' pw (exW 6 gP jL nF) K:=by
 refine(aCC h 4 5 (by omega) (by omega) (by omega) 1 t (by omega) (by omega) (by unfold cN;rw[qH (by show ¬t<6;omega)];unfold eQ;exact qI (by show t+10<=_;omega)) (by show gP.last<_;decide)).mono ?_;rintro _ w' ⟨c', rfl,ds,Q', hm,h1⟩;have hk:=hc hm;rcases h1 with⟨_,_,h1,hF⟩|⟨_,h1,_⟩
 {
 rw[show(exW 6 gP jL nF).s=gP from rfl,hk]at h1;rw[h1];exact⟨rfl,lV.of0 h hF⟩}
 {
 rw[show(exW 6 gP jL nF).s=gP from rfl,hk]at h1;exact absurd h1 hc0}
end Go.Proofs.YtgmnemndjjmgkaaGreat
namespace Go.Proofs.YtgmnemndjjmgkaaGreat
open Go.RowKit
def WW(w0 wr:World)(pw:Nat)(W:Wm):Prop:=∃K,dS wr pw W K/\Fr [] w0 wr/\∀q∈K,w0.heap.size<=q
section
variable {w0 wr w' :World} {pw:Nat} {W W' :Wm} {K:List Nat}
theorem WW.fr(h:WW w0 wr pw W):Fr [] w0 wr:=by obtain⟨K,_,h,_⟩:=h;exact h
theorem WW.step(h2:Fr [] w0 wr)(h3:∀q∈K,w0.heap.size<=q)(hs:lV wr w' pw W' K):WW w0 w' pw W' :=by
 obtain⟨K', k1,k2,k3⟩:=hs;have:=h2.size;exact⟨K', k1,h2.trans k2 (fun b hb=>.inr (h3 b hb)),fun q hq=>(k3 q hq).elim (h3 q) (fun e=>by omega)⟩
theorem WW.fr0(h:WW w0 wr pw W)(hf:Fr [] wr w'):WW w0 w' pw W:=by
 obtain⟨K,h1,h2,h3⟩:=h;exact⟨K,h1.fr0 hf,h2.trans' hf,h3⟩
theorem bAD(m D:Int)(E V:Nat)(hF:Fr [] w0 wr)(h1:1<=m)(h1' :m<=9223372036854775807)(h2:1<=E)(h3:E<=16384)(h4:2<=V)(h5:V<=4096)(h6:0<=D)(h7:D<=16384):
    Calls Tryz.prog 29 #[.agg #[.int .i64 m,.int .i64 E,.int .i64 V,.int .i64 D]] wr fun e w' =>∃pw,e=.returned (.tuple #[aN pw,.int .i64 0])/\WW w0 w' pw (Wm.new m E V D 0):=
  (bAA m D E V wr h1 h1' h2 h3 h4 h5 h6 h7).mono fun _ _ ⟨pw,h,K,k1,k2,k3⟩=>⟨pw,h,K,k1,hF.trans' k2,fun q hq=>zQ hF.size (k3 q hq)⟩
theorem bAE(h:WW w0 wr pw W):Calls Tryz.prog 16 #[aN pw] wr fun e w' =>e=.returned (.int .i64 W.now)/\w' =wr:=by
 obtain⟨K,h1,h2,h3⟩:=h;exact aJO h1
theorem aET(h:WW w0 wr pw W)(u v:Nat)(hu:u<18446744073709551616)(hv:v<18446744073709551616):
    Calls Tryz.prog 14 #[aN pw,.int .u64 u,.int .u64 v] wr fun e w' =>e=.returned (.tuple #[.int .i64 (jV (W.wp 0) u v),.bool (fZ (W.wp 0) u v),.int .i64 (cC W.s u v)])/\WW w0 w' pw W:=by
 obtain⟨K,h1,h2,h3⟩:=h;exact(zW h1 u v hu hv).mono fun _ _ k=>⟨k.1,WW.step h2 h3 k.2⟩
theorem aQO(h:WW w0 wr pw W):Calls Tryz.prog 18 #[aN pw] wr fun e w' =>e=.returned (.tuple #[.int .i64 W.s.L.length,.int .i64 W.s.M.L.length,.int .i64 (pE W)])/\WW w0 w' pw W:=by
 have hh:=h;obtain⟨K,h1,h2,h3⟩:=h;exact(zX h1).mono fun _ _ k=>⟨k.1,hh.fr0 k.2⟩
end
theorem aVM(w:World):Calls Tryz.prog 30 #[] w fun e w' =>e=.returned (.agg #[.int .i64 10,.int .i64 3,.int .i64 4,.int .i64 0])/\Fr [] w w' :=by
 have hb:=Blk.new w [.int .i64 10,.int .i64 3,.int .i64 4,.int .i64 0] 55;have r0:=hb.cell 0;have r1:=hb.cell 1;have r2:=hb.cell 2;have r3:=hb.cell 3;simp only[zS,zT]at r0 r1 r2 r3;go_enter Tryz.func30,Tryz.ntmps30
 go_wp2
 exact bodyPost_ret (v:=.agg #[.int .i64 10,.int .i64 3,.int .i64 4,.int .i64 0]) (by simp[results,Tryz.results30,go_sem,r0,r1,r2,r3]) rfl ⟨rfl,(Fr.refl _ _).alloc _⟩
theorem aLY(w:World):Calls Tryz.prog 12 #[] w fun e w' =>e=.returned (.bool true)/\Fr [] w w' :=by
 have HS:=qB (aVM w);have HN:=qB (fun(w' :World) (hf:Fr [] w w')=>bAD (w0:=w) (wr:=w') 10 0 3 4 hf (by omega) (by omega) (by omega) (by omega) (by omega) (by omega) (by omega) (by omega));go_enter Tryz.func12,Tryz.ntmps12
 go_wp2_with fail
 refine HS.out.mono ?_;rintro _ w1 ⟨rfl,hF1⟩;have HN1:=qB (HN.out w1 hF1);clear HS HN hF1;go_wp2_with fail
 refine HN1.out.mono ?_;rintro _ w1 ⟨pw,rfl,hW⟩;have hW0:WW w w1 pw (exW 0 (Sm.new 4 3 0) (fun _=>none) (fun _=>none)):=hW;have A1:Calls Tryz.prog 21 #[aN pw,iK 1 2 5 0] w1 fun e w' =>e=.returned (.int .i64 0)/\WW w w' pw (exW 0 exS1 aLX aVI):=by {
 obtain⟨K,k1,k2,k3⟩:=hW0;exact(aHH k1 1 2 (by omega) (by omega) (by omega) 5 (by omega) (by omega) (by omega) (by decide) (fun _ _ h=>(by cases h)) (by decide) 0 1 0 (by decide) rfl (by decide) (by decide)).mono fun _ _ k=>⟨k.1,WW.step k2 k3 k.2⟩};have A1:=qB A1;clear hW hW0 HN1;go_wp2_with fail
 refine A1.out.mono ?_;rintro _ w2 ⟨rfl,hW⟩;have A2:Calls Tryz.prog 21 #[aN pw,iK 2 3 7 4] w2 fun e w' =>e=.returned (.int .i64 0)/\WW w w' pw (exW 4 aES aCD wG):=by {
 obtain⟨K,k1,k2,k3⟩:=hW;exact(aHH k1 2 3 (by omega) (by omega) (by omega) 7 (by omega) (by omega) (by omega) (by decide) aVJ (by decide) 1 2 1 (by decide) rfl (by decide) (by decide)).mono fun _ _ k=>⟨k.1,WW.step k2 k3 k.2⟩};have A2:=qB A2;clear hW A1;go_wp2_with fail
 refine A2.out.mono ?_;rintro _ w3 ⟨rfl,hW⟩;have U2:=aET hW 1 3 (by omega) (by omega);rw[sM.1,sM.2.1,show(exW 4 aES aCD wG).s=aES from rfl,sM.2.2]at U2;have U2:=qB U2;clear hW A2;go_wp2_with fail
 refine U2.out.mono ?_;rintro _ w4 ⟨rfl,hW⟩;have A3:Calls Tryz.prog 21 #[aN pw,iK 1 3 9 6] w4 fun e w' =>e=.returned (.int .i64 0)/\WW w w' pw (exW 6 gP jL nF):=by {
 obtain⟨K,k1,k2,k3⟩:=hW;exact(aHH k1 1 3 (by omega) (by omega) (by omega) 9 (by omega) (by omega) (by omega) (by decide) aVK (by decide) 0 2 2 (by decide) rfl (by decide) (by decide)).mono fun _ _ k=>⟨k.1,WW.step k2 k3 k.2⟩};have A3:=qB A3;clear hW U2;go_wp2_with fail
 refine A3.out.mono ?_;rintro _ w5 ⟨rfl,hW⟩;have U3:=aET hW 1 3 (by omega) (by omega);rw[sN.1,sN.2.1,show(exW 6 gP jL nF).s=gP from rfl,sN.2.2]at U3;have U3:=qB U3;clear hW A3;go_wp2_with fail
 refine U3.out.mono ?_;rintro _ w6 ⟨rfl,hW⟩;have A4:Calls Tryz.prog 21 #[aN pw,iK 4 5 1 9] w6 fun e w' =>e=.returned (.int .i64 12)/\WW w w' pw (exW 6 gP jL nF):=by {
 obtain⟨K,k1,k2,k3⟩:=hW;exact(zZ k1 (by omega) (by omega) 12 (by omega) bAC).mono fun _ _ k=>⟨k.1,WW.step k2 k3 k.2⟩};have A4:=qB A4;clear hW U3;go_wp2_with fail
 refine A4.out.mono ?_;rintro _ w7 ⟨rfl,hW⟩;have A5:Calls Tryz.prog 21 #[aN pw,iK 4 5 1 10] w7 fun e w' =>e=.returned (.int .i64 11)/\WW w w' pw (exW 6 gP jL nF):=by {
 obtain⟨K,k1,k2,k3⟩:=hW;exact(zZ k1 (by omega) (by omega) 11 (by omega) aVL).mono fun _ _ k=>⟨k.1,WW.step k2 k3 k.2⟩};have A5:=qB A5;clear hW A4;go_wp2_with fail
 refine A5.out.mono ?_;rintro _ w8 ⟨rfl,hW⟩;have C:=aQO hW;rw[wI.1,show(exW 6 gP jL nF).s=gP from rfl,wI.2.1,wI.2.2]at C;have C:=qB C;clear hW A5;go_wp2_with fail
 refine C.out.mono ?_;rintro _ w9 ⟨rfl,hW⟩;have N:=bAE hW;rw[show(exW 6 gP jL nF).now=6 from rfl]at N;have N:=qB N;have HF:=qB hW.fr;clear hW C;go_wp2_with fail
 refine N.out.mono ?_;rintro _ w9 ⟨rfl,rfl⟩;clear N;go_wp2
 go_ret;exact⟨rfl,HF.out⟩
structure Bg (W:Wm) (k:Nat):Prop where
  m:W.m=20
  E:W.E=40
  V:W.V=12
  D:W.D=0
  now:W.now<=3*k
  id:∀e∈W.s.L,e.u<12/\e.v<12
  last:W.s.last<=k
structure Wm.Later (W1 W2:Wm):Prop where
  G:∀i a b x,W2.G i=some (a,b,x)↔W1.G i=some (a,b,x)/\W2.now<x
  find:∀u j,W2.s.M.find u=some j->W1.s.M.find u=some j
theorem wJ(G:bG)(r:Int):lJ G r=pB G (r-1):=by
 funext t
 exact propext ⟨fun⟨a,b,x,h1,h2⟩=>⟨a,b,x,h1,by omega⟩,fun⟨a,b,x,h1,h2⟩=>⟨a,b,x,h1,by omega⟩⟩
theorem Cx.first{G:bG}{U:Nat->Prop}{a b:Nat}(h:Cx G U a b)(hne:a≠b):(∃s c x,U s/\(G s=some (c,b,x)∨G s=some (b,c,x))):=by
 cases h with
 | refl=>exact absurd rfl hne
 | step s x h1 h2 h3=>exact⟨s,_,x,h2,h3⟩
end Go.Proofs.YtgmnemndjjmgkaaGreat
namespace Go.Proofs.YtgmnemndjjmgkaaGreat
open Go.RowKit Classical
section
variable {S V:Nat} {z:Nat->Int×Int×Int} {P P' :Nat->Prop} {i:Nat}
end
end Go.Proofs.YtgmnemndjjmgkaaGreat
namespace Go.Proofs.YtgmnemndjjmgkaaGreat
open Classical
section
variable (use:Nat->Bool) (A B:Nat->Nat)
variable {use A B} {len n:Nat} {f:Nat->Bool}
end
end Go.Proofs.YtgmnemndjjmgkaaGreat
namespace Go.Proofs.YtgmnemndjjmgkaaGreat
open Go.RowKit Classical
end Go.Proofs.YtgmnemndjjmgkaaGreat
namespace Go.Proofs.YtgmnemndjjmgkaaGreat
open Classical
section
variable {S V:Nat} {z:Nat->Int×Int×Int} {P:Nat->Prop} {D:Nat->Prop} {t m k:Nat}
end
end Go.Proofs.YtgmnemndjjmgkaaGreat
namespace Go.Proofs.YtgmnemndjjmgkaaGreat
open Go.RowKit Classical
section
variable {W wr w' :World} {pf S V tb m:Nat} {G G' :bG} {f:Nat->Bool} {L:List Nat}
end
section
variable {S V:Nat} {z:Nat->Int×Int×Int} {P:Nat->Prop} {a b:Nat} {T:Int}
end
theorem aQP{G:bG}{S V:Nat}(hG:GW S V G){a b:Nat}(hab:a≠b)(h:Cx G (fun _=>True) a b):∃T,dU G a b T:=by
 have key:∀(k:Nat) (U:Nat->Prop),bL S U<=k->(∀t,U t->∃e,G t=some e)->Upw G U->Cx G U a b->∃T,dU G a b T:=by {
 intro k;induction k with
 | zero=>{
 intro U hk hU _ hc;exfalso
 have h0:∀s,¬U s:=fun s hs=>by obtain⟨e,he⟩:=hU s hs;exact kP (by omega) s (hG.slot s e he) hs
 cases hc with
 | refl=>exact hab rfl
 | step s x _ h1 _=>exact h0 s h1}
 | succ k ih=>{
 intro U hk hU hup hc;by_cases hex:∃s,U s
 {
 obtain⟨s,c,d,x,hs,hgs,hall⟩:=aDX hG.slot (k+1) U hk hU hex;by_cases hb:Cx G (pB G x) a b
 {
 -- what is beyond x is fewer
 have hd:=gW (T:=U) (hG.slot s _ hgs) hs;have hsub:∀t,pB G x t/\U t->U t/\t≠s:=fun t ⟨⟨_,_,y,h1,h2⟩,h3⟩=>⟨h3,by rintro rfl;rw[hgs]at h1;simp at h1;omega⟩;refine ih (fun t=>pB G x t/\U t) (by have:=aLF S hsub;omega) (fun t ht=>hU t ht.2) ?_ ?_
 {
 rintro t c' d' y u ⟨⟨_,_,y', h1,h2⟩,h3⟩ h4 h5;refine⟨?_,hup t c' d' y u h3 h4 h5⟩;rw[h4]at h1;simp only[qQ,zN]at h1;obtain⟨_,_,v,h6,h7⟩:=h5;exact⟨_,_,v,h6,by unfold bef at h7;omega⟩}
 {
 exact hb.mono fun t f ht hg=>⟨ht,by
   obtain⟨_,_,y,h1,h2⟩:=ht;by_cases e:t=s
   · rw[e];exact hs
   · exact hup s c d x t hs hgs ⟨_,_,y,h1,by unfold bef;omega⟩⟩}}
 {
 refine⟨x,hc.mono fun t f ht hg=>?_,hb⟩;by_cases e:t=s
 · subst e;exact⟨_,_,_,hgs,Int.le_refl _⟩
 {
 obtain⟨_,_,y,h1,h2⟩:=hall t ht e;exact⟨_,_,y,h1,by unfold bef at h2;omega⟩}}}
 {
 exfalso
 cases hc with
 | refl=>exact hab rfl
 | step s x _ h1 _=>exact hex ⟨s,h1⟩}}};refine key _ (fun t=>∃e,G t=some e) (qS _) (fun t h=>h) (fun _ _ _ _ _ _ _ ⟨_,_,_,h,_⟩=>⟨_,h⟩) (h.mono fun t f _ hg=>⟨f,hg⟩)
theorem aLZ{G:bG}{S V:Nat}(hG:GW S V G){x y:Int}(h:dG V G x y=true):∃T,dU G x.toNat y.toNat T:=by
 unfold dG eN at h;simp only[zG,decide_eq_true_eq]at h;obtain⟨h1,⟨h2,h3⟩,h4⟩:=h;obtain⟨a,rfl,_⟩:=cL h2;obtain⟨b,rfl,_⟩:=cL h3;exact aQP hG (by omega) h4
section
variable {W w wr:World} {pw:Nat} {X Y:Wm}
theorem aVN(s:Sm)(u v:Nat):cC s u v=0∨cC s u v=13:=by
 unfold cC;by_cases h:(s.M.find u).isSome=true/\(s.M.find v).isSome=true
 · exact .inl (qI h)
 · exact .inr (qH h)
theorem sO{s:Sm}{u v:Nat}(h:cC s u v=0):∃a b,s.M.find u=some a/\s.M.find v=some b/\bZ s u v=a/\bZ s v u=b:=by
 unfold cC at h;by_cases h1:(s.M.find u).isSome=true/\(s.M.find v).isSome=true
 {
 obtain⟨a,ha⟩:=zE.1 h1.1;obtain⟨b,hb⟩:=zE.1 h1.2;refine⟨a,b,ha,hb,?_,?_⟩
 · unfold bZ;rw[qI h1,ha];rfl
 · unfold bZ;rw[qI ⟨h1.2,h1.1⟩,hb];rfl}
 · rw[qH h1]at h;cases h
theorem rG{s:Sm}(h:s.Ok){V u a:Nat}(hV:s.V=V)(hu:s.M.find u=some a):inV V a=true:=by
 have:=Sm.idx_lt h hu;simp[inV];omega
theorem aAA(hok:X.Ok){u v a b:Nat}(hu:X.s.M.find u=some a)(hv:X.s.M.find v=some b):cC X.s u v=0/\iO (X.wp 0) u v=decide (Cx X.G (fun _=>True) a b):=by
 have h0:cC X.s u v=0:=by unfold cC;rw[qI (by simp[hu,hv])]
 have hi:bZ X.s u v=a:=by unfold bZ;rw[qI (by simp[hu,hv]),hu];rfl
 have hj:bZ X.s v u=b:=by unfold bZ;rw[qI (by simp[hu,hv]),hv];rfl
 refine⟨h0,?_⟩;unfold iO;rw[show(X.wp 0).s=X.s from rfl,qI h0,hi,hj];show eN X.V X.G a b=_
 unfold eN;rw[rG hok.ok hok.hV hu,rG hok.ok hok.hV hv];simp
theorem aEU(hok:X.Ok)(hg:GW X.E X.V X.G)(u v:Nat):
    (fZ (X.wp 0) u v=false/\jV (X.wp 0) u v=0/\((cC X.s u v=13/\iO (X.wp 0) u v=false)∨(cC X.s u v=0/\iO (X.wp 0) u v=false)∨(cC X.s u v=0/\iO (X.wp 0) u v=true/\u=v))) ∨
    (fZ (X.wp 0) u v=true/\cC X.s u v=0/\iO (X.wp 0) u v=true/\u≠v/\∃a b,X.s.M.find u=some a/\X.s.M.find v=some b/\a≠b/\dU X.G a b (jV (X.wp 0) u v)):=by
 rcases aVN X.s u v with h0|h0
 {
 obtain⟨a,b,hu,hv,hi,hj⟩:=sO h0;obtain⟨_,hc⟩:=aAA hok hu hv;have hB:fZ (X.wp 0) u v=(decide (a≠b)&&decide (Cx X.G (fun _=>True) a b)):=by {
 unfold fZ;rw[show(X.wp 0).s=X.s from rfl,qI h0,hi,hj];show dG X.V X.G a b=_
 unfold dG eN;rw[rG hok.ok hok.hV hu,rG hok.ok hok.hV hv];simp[Int.natCast_inj]};have hV:jV (X.wp 0) u v=if fZ (X.wp 0) u v=true then vZ X.G a b else 0:=by {
 unfold jV fZ;rw[show(X.wp 0).s=X.s from rfl,qI h0,qI h0,hi,hj];rfl};by_cases hcx:Cx X.G (fun _=>True) a b
 {
 rw[qO hcx]at hc hB;by_cases hab:a=b
 {
 have huv:u=v:=nD hok.ok.md hu (by rw[hab];exact hv);have hB' :fZ (X.wp 0) u v=false:=by rw[hB];simp[hab]
 exact .inl ⟨hB', by rw[hV,hB'];rfl,.inr (.inr ⟨h0,hc,huv⟩)⟩}
 {
 have hB' :fZ (X.wp 0) u v=true:=by rw[hB];simp[hab]
 refine .inr ⟨hB', h0,hc,fun e=>hab (Option.some.inj (hu.symm.trans (by rw[e];exact hv))),a,b,hu,hv,hab,?_⟩;rw[hV,qI hB'];have hB2:dG X.V X.G a b=true:=by {
 have h1:=hB';unfold fZ at h1;rw[show(X.wp 0).s=X.s from rfl,qI h0,hi,hj]at h1;exact h1};obtain⟨r,hr⟩:=aLZ hg hB2;rw[show vZ X.G a b=r from sG hr];exact hr}}
 {
 rw[qK hcx]at hc hB;have hB' :fZ (X.wp 0) u v=false:=by rw[hB];simp
 exact .inl ⟨hB', by rw[hV,hB'];rfl,.inr (.inl ⟨h0,hc⟩)⟩}}
 {
 refine .inl ⟨?_,?_,.inl ⟨h0,?_⟩⟩
 · unfold fZ;rw[show(X.wp 0).s=X.s from rfl,qH (by omega)]
 · unfold jV;rw[show(X.wp 0).s=X.s from rfl,qH (by omega)]
 · unfold iO;rw[show(X.wp 0).s=X.s from rfl,qH (by omega)]}
end
inductive Rl (L:List Lv) (f:Int):Nat->Nat->Prop
  | refl (u:Nat):Rl L f u u
  | step {a b c:Nat} (e:Lv):Rl L f a b->e∈L->f<=e.x->(e.u=b/\e.v=c∨e.u=c/\e.v=b)->Rl L f a c
section
variable {L L' :List Lv} {f g:Int} {a b c:Nat}
theorem Rl.trans(h:Rl L f a b)(h' :Rl L f b c):Rl L f a c:=by
 induction h' with
 | refl=>exact h
 | step e _ h1 h2 h3 ih=>exact .step e ih h1 h2 h3
theorem Rl.edge{e:Lv}(he:e∈L)(hx:f<=e.x):Rl L f e.u e.v:=.step e (.refl _) he hx (.inl ⟨rfl,rfl⟩)
theorem Rl.edge' {e:Lv}(he:e∈L)(hx:f<=e.x):Rl L f e.v e.u:=.step e (.refl _) he hx (.inr ⟨rfl,rfl⟩)
theorem Rl.symm(h:Rl L f a b):Rl L f b a:=by
 induction h with
 | refl=>exact .refl _
 | step e _ h1 h2 h3 ih=>{
 rcases h3 with⟨rfl,rfl⟩|⟨rfl,rfl⟩
 · exact(Rl.edge' h1 h2).trans ih
 · exact(Rl.edge h1 h2).trans ih}
theorem Rl.mono(h:Rl L f a b)(hm:∀e∈L,f<=e.x->∃d∈L', d.u=e.u/\d.v=e.v/\g<=d.x):Rl L' g a b:=by
 induction h with
 | refl=>exact .refl _
 | step e _ h1 h2 h3 ih=>{
 obtain⟨d,hd,e1,e2,hx⟩:=hm e h1 h2;exact .step d ih hd hx (by rw[e1,e2];exact h3)}
theorem Rl.less(h:Rl L f a b)(hg:g<=f):Rl L g a b:=h.mono fun e he hx=>⟨e,he,rfl,rfl,by omega⟩
theorem Rl.inv(P:Nat->Prop)(hP:∀e∈L,f<=e.x->(P e.u↔P e.v))(h:Rl L f a b):P a↔P b:=by
 induction h with
 | refl=>exact Iff.rfl
 | step e _ h1 h2 h3 ih=>{
 rw[ih];rcases h3 with⟨rfl,rfl⟩|⟨rfl,rfl⟩
 · exact hP e h1 h2
 · exact(hP e h1 h2).symm}
theorem Rl.last(h:Rl L f a b)(hne:a≠b):∃e∈L,e.at b=true/\f<=e.x:=by
 cases h with
 | refl=>exact absurd rfl hne
 | step e _ h1 h2 h3=>exact⟨e,h1,by unfold Lv.at;rcases h3 with⟨_,h⟩|⟨h,_⟩<;>simp[h],h2⟩
end
def inL(L:List Lv)(u:Nat):Prop:=∃e∈L,e.at u=true
def gM:Int:=-9223372036854775808
def dT(e:Lv):Lv:={ e with slot:=0 }
theorem kT{L:List Lv}{u:Nat}:inL (L.map dT) u↔inL L u:=by
 unfold inL;constructor
 {
 rintro⟨e,he,h⟩;obtain⟨d,hd,rfl⟩:=zF.1 he;exact⟨d,hd,h⟩}
 {
 rintro⟨e,he,h⟩;exact⟨dT e,zF.2 ⟨e,he,rfl⟩,h⟩}
theorem rI{L:List Lv}{f:Int}{a b:Nat}:Rl (L.map dT) f a b↔Rl L f a b:=by
 constructor
 {
 intro h;refine h.mono fun e he hx=>?_;obtain⟨d,hd,rfl⟩:=zF.1 he;exact⟨d,hd,rfl,rfl,hx⟩}
 {
 intro h;exact h.mono fun e he hx=>⟨dT e,zF.2 ⟨e,he,rfl⟩,rfl,rfl,hx⟩}
noncomputable def ncl(R:Nat->Nat->Prop):List Nat->Nat
  | []=>0
  | a::r=>ncl R r+if ∃b∈r,R a b then 0 else 1
section
variable {R R' :Nat->Nat->Prop} {l m:List Nat}
theorem wK(hs:∀a b,R a b->R b a)(ht:∀a b c,R a b->R b c->R a c)(h:l.Perm m):ncl R l=ncl R m:=by
 induction h with
 | nil=>rfl
 | cons a h ih=>{
 have e:(∃b∈_,R a b)↔∃b∈_,R a b:=⟨fun⟨b,hb,hr⟩=>⟨b,h.mem_iff.1 hb,hr⟩,fun⟨b,hb,hr⟩=>⟨b,h.mem_iff.2 hb,hr⟩⟩;simp only[ncl,ih,e]}
 | swap a b r=>{
 simp only[ncl,qF,exists_eq_or_imp];by_cases hab:R a b
 {
 have hba:=hs _ _ hab;have e:(∃c,c∈r/\R a c)↔∃c,c∈r/\R b c:=⟨fun⟨c,hc,h⟩=>⟨c,hc,ht _ _ _ hba h⟩,fun⟨c,hc,h⟩=>⟨c,hc,ht _ _ _ hab h⟩⟩;simp only[hab,hba,e,true_or,if_true]}
 {
 have hba:¬R b a:=fun h=>hab (hs _ _ h);simp only[hab,hba,false_or];omega}}
 | trans _ _ ih1 ih2=>rw[ih1,ih2]
theorem aVO(f:Nat->Nat)(l:List Nat):ncl R (l.map f)=ncl (fun a b=>R (f a) (f b)) l:=by
 induction l with
 | nil=>rfl
 | cons a r ih=>{
 have e:(∃b∈r.map f,R (f a) b)↔∃b∈r,R (f a) (f b):=by {
 constructor
 {
 rintro⟨b,hb,hr⟩;obtain⟨c,hc,rfl⟩:=zF.1 hb;exact⟨c,hc,hr⟩}
 · rintro⟨c,hc,hr⟩;exact⟨f c,zF.2 ⟨c,hc,rfl⟩,hr⟩};simp only[List.map_cons,ncl,ih,e]}
theorem aAB(h:∀a∈l,∀b∈l,R a b↔R' a b):ncl R l=ncl R' l:=by
 induction l with
 | nil=>rfl
 | cons a r ih=>{
 have e:(∃b∈r,R a b)↔∃b∈r,R' a b:=⟨fun⟨b,hb,hr⟩=>⟨b,hb,(h a (by simp) b (by simp[hb])).1 hr⟩,fun⟨b,hb,hr⟩=>⟨b,hb,(h a (by simp) b (by simp[hb])).2 hr⟩⟩;simp only[ncl,ih fun a ha b hb=>h a (by simp[ha]) b (by simp[hb]),e]}
theorem aEV(hs:∀a b,R a b->R b a)(ht:∀a b c,R a b->R b c->R a c)(l:List Nat)(a:Nat):ncl R (l++[a])=ncl R l+if ∃b∈l,R a b then 0 else 1:=by
 rw[wK hs ht (List.perm_append_comm (l₁:=l) (l₂:=[a]))];rfl
theorem bAF(l:List Nat):ncl R l<=l.length:=by
 induction l with
 | nil=>exact qS 0
 | cons a r ih=>{
 simp only[ncl,zI];split<;>omega}
theorem aMA(h:∀a∈l,∀b,R a b->a=b)(hn:(l++m).Nodup):ncl R (l++m)=l.length+ncl R m:=by
 induction l with
 | nil=>simp
 | cons a r ih=>{
 rw[zL]at hn ⊢;have hn' :=qX.1 hn;have e:¬∃b∈r++m,R a b:=fun⟨b,hb,hr⟩=>hn'.1 ((h a (by simp) b hr)▸hb);simp only[ncl,qH e,ih (fun b hb=>h b (by simp[hb])) hn'.2,zI];omega}
end
section
variable {W:Wm} {f:Int} {a b u v:Nat}
theorem aXX(h:W.Ok)(hc:Cx W.G (lJ W.G f) a b)(hu:W.s.M.find u=some a):∃v,W.s.M.find v=some b/\Rl W.s.L f u v:=by
 induction hc with
 | refl=>exact⟨u,hu,.refl _⟩
 | step s x _ h1 h2 ih=>{
 obtain⟨v,hv,hr⟩:=ih;obtain⟨p,q,y,hy,hfy⟩:=h1;rcases h2 with h2|h2
 {
 rw[h2]at hy;simp only[qQ,zN]at hy;obtain⟨e,he,hs,e1,e2,ex⟩:=(h.lk.g _ _ _ _).1 h2;exact⟨e.v,e2,.step e hr he (by omega) (.inl ⟨nD h.ok.md e1 hv,rfl⟩)⟩}
 {
 rw[h2]at hy;simp only[qQ,zN]at hy;obtain⟨e,he,hs,e1,e2,ex⟩:=(h.lk.g _ _ _ _).1 h2;exact⟨e.u,e1,.step e hr he (by omega) (.inr ⟨rfl,nD h.ok.md e2 hv⟩)⟩}}
theorem bCI(h:W.Ok)(hc:Rl W.s.L f u v)(hu:W.s.M.find u=some a):∃b,W.s.M.find v=some b/\Cx W.G (lJ W.G f) a b:=by
 induction hc with
 | refl=>exact⟨a,hu,.refl _⟩
 | step e _ h1 h2 h3 ih=>{
 obtain⟨b,hb,hc⟩:=ih;obtain⟨p,hp⟩:=zE.1 (gG h.ok h1 (x:=e.u) (by simp[Lv.at]));obtain⟨q,hq⟩:=zE.1 (gG h.ok h1 (x:=e.v) (by simp[Lv.at]));have hg:W.G e.slot=some (p,q,e.x):=(h.lk.g _ _ _ _).2 ⟨e,h1,rfl,hp,hq,rfl⟩;rcases h3 with⟨e1,e2⟩|⟨e1,e2⟩
 {
 have:b=p:=by rw[<-e1,hp]at hb;exact(Option.some.inj hb).symm
 subst this;exact⟨q,by rw[<-e2];exact hq,.step e.slot e.x hc ⟨_,_,_,hg,h2⟩ (.inl hg)⟩}
 {
 have:b=q:=by rw[<-e2,hq]at hb;exact(Option.some.inj hb).symm
 subst this;exact⟨p,by rw[<-e1];exact hp,.step e.slot e.x hc ⟨_,_,_,hg,h2⟩ (.inr hg)⟩}}
theorem aCE(h:W.Ok)(hu:W.s.M.find u=some a)(hv:W.s.M.find v=some b):Cx W.G (lJ W.G f) a b↔Rl W.s.L f u v:=by
 constructor
 {
 intro hc;obtain⟨v', hv', hr⟩:=aXX h hc hu;rw[nD h.ok.md hv hv'];exact hr}
 {
 intro hr;obtain⟨b', hb', hc⟩:=bCI h hr hu;rw[hv]at hb';rw[Option.some.inj hb'];exact hc}
theorem aQQ(h:W.Ok)(a b:Nat):Cx W.G (fun _=>True) a b↔Cx W.G (lJ W.G gM) a b:=by
 constructor
 {
 refine fun hc=>hc.mono fun t e _ he=>?_;obtain⟨p,q,x⟩:=e;refine⟨p,q,x,he,?_⟩;obtain⟨d,hd,_,_,_,hx⟩:=(h.lk.g _ _ _ _).1 he;have h1:=(h.x d hd).2.2.2;have h2:=h.n0;unfold gM;omega}
 · exact fun hc=>hc.mono fun _ _ _ _=>trivial
theorem aJR(h:W.Ok)(hu:W.s.M.find u=some a)(hv:W.s.M.find v=some b):Cx W.G (fun _=>True) a b↔Rl W.s.L gM u v:=by
 rw[aQQ h,aCE h hu hv]
theorem aMB(h:W.Ok){r:Int}(hu:W.s.M.find u=some a)(hv:W.s.M.find v=some b):dU W.G a b r↔(Rl W.s.L r u v/\¬Rl W.s.L (r+1) u v):=by
 have e:pB W.G r=lJ W.G (r+1):=by rw[wJ];congr 1;omega
 unfold dU;rw[e,aCE h hu hv,aCE h hu hv]
theorem wL(h:W.Ok)(u:Nat):(W.s.M.find u).isSome=true↔inL W.s.L u:=by
 rw[h.ok.vert];constructor
 {
 intro hn;obtain⟨k,hk⟩:=List.exists_mem_of_ne_nil _ hn;obtain⟨e,he,hat,_⟩:=fI.1 hk;exact⟨e,he,hat⟩}
 {
 rintro⟨e,he,hat⟩;exact List.ne_nil_of_mem (fI.2 ⟨e,he,hat,rfl⟩)}
end
def cP(x:Nat):List Nat->List Nat
  | []=>[x]
  | a::r=>if x=a then a::r else if x<a then x::a::r else a::cP x r
theorem fA{x y:Nat}{l:List Nat}:y∈cP x l↔y=x∨y∈l:=by
 induction l with
 | nil=>simp[cP]
 | cons a r ih=>{
 unfold cP;by_cases h1:x=a
 {
 rw[qI h1,qF];constructor
 · exact fun h=>.inr h
 {
 rintro(rfl|h)
 · exact .inl h1
 · exact h}}
 {
 rw[qH h1];by_cases h2:x<a
 · rw[qI h2,qF]
 {
 rw[qH h2,qF,qF,ih];constructor
 {
 rintro(h|h|h)
 · exact .inr (.inl h)
 · exact .inl h
 · exact .inr (.inr h)}
 {
 rintro(h|h|h)
 · exact .inr (.inl h)
 · exact .inl h
 · exact .inr (.inr h)}}}}
theorem gN{x:Nat}{l:List Nat}(h:l.Pairwise (· < ·)):(cP x l).Pairwise (· < ·):=by
 induction l with
 | nil=>simp[cP]
 | cons a r ih=>{
 have h' :=List.pairwise_cons.1 h;unfold cP;by_cases h1:x=a
 · rw[qI h1];exact h
 {
 rw[qH h1];by_cases h2:x<a
 {
 rw[qI h2];refine List.pairwise_cons.2 ⟨fun y hy=>?_,h⟩;rcases qF.1 hy with rfl|hy
 · exact h2
 · have:=h'.1 y hy;omega}
 {
 rw[qH h2];refine List.pairwise_cons.2 ⟨fun y hy=>?_,ih h'.2⟩;rcases fA.1 hy with rfl|hy
 · omega
 · exact h'.1 y hy}}}
theorem aQR{l m:List Nat}(hl:l.Pairwise (· < ·))(hm:m.Pairwise (· < ·))(h:∀x,x∈l↔x∈m):l=m:=by
 refine List.Perm.eq_of_pairwise (le:=fun x y:Nat=>x<y) (fun a b _ _ h1 h2=>by omega) hl hm ?_;rw[List.perm_ext_iff_of_nodup (hl.imp fun h=>Nat.ne_of_lt h) (hm.imp fun h=>Nat.ne_of_lt h)];exact h
def bD(L:List Lv):List Nat:=L.foldl (fun o e=>cP e.v (cP e.u o)) []
theorem idsF(L:List Lv):∀o:List Nat,o.Pairwise (· < ·)->(L.foldl (fun o e=>cP e.v (cP e.u o)) o).Pairwise (· < ·)/\∀x,x∈L.foldl (fun o e=>cP e.v (cP e.u o)) o↔x∈o∨inL L x:=by
 induction L with
 | nil=>intro o ho;exact⟨ho,fun x=>by simp[inL]⟩
 | cons e r ih=>{
 intro o ho;obtain⟨h1,h2⟩:=ih _ (gN (x:=e.v) (gN (x:=e.u) ho));refine⟨h1,fun x=>?_⟩;rw[List.foldl_cons,h2,fA,fA];unfold inL;simp only[qF,exists_eq_or_imp,Lv.at,Bool.or_eq_true,beq_iff_eq];constructor
 {
 rintro((h|h|h)|h)
 · exact .inr (.inl (.inr h.symm))
 · exact .inr (.inl (.inl h.symm))
 · exact .inl h
 · exact .inr (.inr h)}
 {
 rintro(h|(h|h)|h)
 · exact .inl (.inr (.inr h))
 · exact .inl (.inr (.inl h.symm))
 · exact .inl (.inl h.symm)
 · exact .inr h}}
theorem iX(L:List Lv):(bD L).Pairwise (· < ·):=(idsF L [] .nil).1
theorem dA{L:List Lv}{x:Nat}:x∈bD L↔inL L x:=by
 have h:=(idsF L [] .nil).2 x;unfold bD;rw[h];simp
theorem wM(L:List Lv):(bD L).Nodup:=(iX L).imp fun h=>Nat.ne_of_lt h
theorem kU(L:List Lv):bD (L.map dT)=bD L:=
  aQR (iX _) (iX _) fun x=>by rw[dA,dA,kT]
section
variable {W:Wm}
theorem Wm.Ok.ids_eq(h:W.Ok):W.s.ids=bD W.s.L:=by
 refine aQR (aNP h.ok.md.ids) (iX _) fun x=>?_;rw[show W.s.ids=kE (W.s.M.L.map (·.1)) from rfl,aKR,gH h.ok.md,wL h,dA]
theorem Wm.Ok.ids_len(h:W.Ok):W.s.M.L.length=(bD W.s.L).length:=by rw[<-h.ids_eq,Sm.ids_len]
theorem Wm.Ok.ids_perm(h:W.Ok):(W.s.M.L.map (·.1)).Perm (bD W.s.L):=by
 rw[<-h.ids_eq];exact(jF _).symm
theorem Wm.Ok.idx(h:W.Ok){u a:Nat}(hu:W.s.M.find u=some a):a<W.V:=by
 have:=Sm.idx_lt h.ok hu;rw[h.hV]at this;exact this
theorem aVP(h:W.Ok){T P:Nat->Prop}(hT:∀i,T i↔∃u,W.s.M.find u=some i/\P u):bL W.V T=((bD W.s.L).filter fun u=>decide (P u)).length:=by
 have h1:((List.range W.V).filter fun i=>decide (T i)).Perm ((W.s.M.L.filter fun p=>decide (P p.1)).map (·.2)):=by {
 rw[List.perm_ext_iff_of_nodup (List.nodup_range.filter _) ((List.Sublist.map _ List.filter_sublist).nodup h.ok.md.idx)];intro i;simp only[zJ,List.mem_range,decide_eq_true_eq,zF];constructor
 {
 rintro⟨_,ht⟩;obtain⟨u,hu,hp⟩:=(hT i).1 ht;exact⟨(u,i),⟨Md.find_mem hu,hp⟩,rfl⟩}
 {
 rintro⟨⟨u,j⟩,⟨hm,hp⟩,rfl⟩;have hu:=(Md.find_iff h.ok.md).2 hm;exact⟨h.idx hu,(hT _).2 ⟨u,hu,hp⟩⟩}};unfold bL;rw[h1.length_eq,List.length_map];have h2:=(h.ids_perm.filter fun u=>decide (P u)).length_eq;rw[<-h2,List.filter_map,List.length_map];rfl
theorem aQS(h:W.Ok){u a:Nat}(hu:W.s.M.find u=some a):cxs W.V W.G (fun _=>True) a=((bD W.s.L).filter fun v=>decide (Rl W.s.L gM u v)).length:=by
 refine aVP h fun i=>?_;rw[aQQ h];constructor
 · exact fun hc=>aXX h hc hu
 {
 rintro⟨v,hv,hr⟩;exact(aCE h hu hv).2 hr}
theorem aQT(G:bG)(T:Nat->Prop)(n:Nat):bL n (pZ G T)=ncl (Cx G T) (List.range n):=by
 induction n with
 | zero=>rfl
 | succ n ih=>{
 rw[List.range_succ,aEV (fun _ _ h=>h.symm) (fun _ _ _ h1 h2=>h1.trans h2),<-ih];unfold bL;rw[List.range_succ,List.filter_append,zO];congr 1
 by_cases hl:pZ G T n
 {
 have:¬∃b∈List.range n,Cx G T n b:=fun⟨b,hb,hc⟩=>hl b (List.mem_range.1 hb) hc;rw[qH this];simp[hl]}
 {
 have:∃b∈List.range n,Cx G T n b:=by {
 apply qZ;intro hn;exact hl fun b hb hc=>hn ⟨b,List.mem_range.2 hb,hc⟩};rw[qI this];simp[hl]}}
theorem aMC(h:W.Ok):jU W.V W.G+W.s.M.L.length=W.V+ncl (Rl W.s.L gM) (bD W.s.L):=by
 unfold jU;rw[aQT];have hp:(List.range W.V).Perm (((List.range W.V).filter fun i=>decide (i∉W.s.M.L.map (·.2)))++W.s.M.L.map (·.2)):=by {
 rw[List.perm_ext_iff_of_nodup List.nodup_range]
 {
 intro i;simp only[qJ,zJ,List.mem_range,decide_eq_true_eq];constructor
 {
 intro hi;by_cases hm:i∈W.s.M.L.map (·.2)
 · exact .inr hm
 · exact .inl ⟨hi,hm⟩}
 {
 rintro(hi|hm)
 · exact hi.1
 {
 obtain⟨⟨u,j⟩,hm2,rfl⟩:=zF.1 hm;exact h.idx ((Md.find_iff h.ok.md).2 hm2)}}}
 {
 rw[qW];refine⟨List.nodup_range.filter _,h.ok.md.idx,fun a ha b hb e=>?_⟩;subst e;exact(of_decide_eq_true (zJ.1 ha).2) hb}};have hlen:=hp.length_eq;rw[List.length_range,zO,List.length_map]at hlen;rw[wK (fun _ _ h=>h.symm) (fun _ _ _ h1 h2=>h1.trans h2) hp,aMA]
 {
 have e1:W.s.M.L.map (·.2)=(W.s.M.L.map (·.1)).map fun u=>(W.s.M.find u).getD 0:=by {
 rw[List.map_map];refine List.map_congr_left fun p hm=>?_;show p.2=(W.s.M.find p.1).getD 0
 rw[(Md.find_iff h.ok.md).2 (show(p.1,p.2)∈_ from hm)];rfl};have e2:ncl (Cx W.G fun _=>True) (W.s.M.L.map (·.2))=ncl (Rl W.s.L gM) (bD W.s.L):=by {
 rw[e1,aVO,<-wK (fun _ _ h=>h.symm) (fun _ _ _ h1 h2=>h1.trans h2) h.ids_perm];refine aAB fun a ha b hb=>?_;obtain⟨i,hi⟩:=zE.1 ((gH h.ok.md).1 ha);obtain⟨j,hj⟩:=zE.1 ((gH h.ok.md).1 hb);rw[hi,hj];exact aJR h hi hj};rw[e2];omega}
 {
 intro a ha b hc;apply qZ;intro hne;have hn:a∉W.s.M.L.map (·.2):=of_decide_eq_true (zJ.1 ha).2;obtain⟨s,c,x,_,hs⟩:=hc.symm.first (Ne.symm hne);rcases hs with hs|hs
 {
 obtain⟨e,he,_,e1,e2,_⟩:=(h.lk.g _ _ _ _).1 hs;exact hn (zF.2 ⟨_,Md.find_mem e2,rfl⟩)}
 {
 obtain⟨e,he,_,e1,e2,_⟩:=(h.lk.g _ _ _ _).1 hs;exact hn (zF.2 ⟨_,Md.find_mem e1,rfl⟩)}}
 · exact hp.nodup_iff.1 List.nodup_range
end
noncomputable def jM(L:List Lv)(u v:Nat):Bool:=decide (inL L u/\inL L v/\Rl L gM u v)
noncomputable def eO(L:List Lv)(u v:Nat):Int:=if inL L u/\inL L v then 0 else 13
noncomputable def lW(L:List Lv)(u:Nat):Nat:=if inL L u then((bD L).filter fun v=>decide (Rl L gM u v)).length else 0
noncomputable def oJ(L:List Lv):Nat:=ncl (Rl L gM) (bD L)
noncomputable def jZ(L:List Lv)(u v:Nat):Bool:=decide (inL L u/\inL L v/\u≠v/\Rl L gM u v)
def tD(L:List Lv)(u v:Nat)(r:Int):Prop:=Rl L r u v/\¬Rl L (r+1) u v
theorem aMD{L:List Lv}{u v:Nat}{r r' :Int}(h:tD L u v r)(h' :tD L u v r'):r=r' :=by
 have key:∀{r r' :Int},tD L u v r->tD L u v r' -> ¬r<r' :=fun h h' hlt=>h.2 (h'.1.less (by omega));have:=key h h';have:=key h' h;omega
noncomputable def oC(L:List Lv)(u v:Nat):Int:=if h:jZ L u v=true/\∃r,tD L u v r then Classical.choose h.2 else 0
theorem aJS{L:List Lv}{u v:Nat}{r:Int}(hb:jZ L u v=true)(h:tD L u v r):oC L u v=r:=by
 have hx:jZ L u v=true/\∃r,tD L u v r:=⟨hb,r,h⟩;unfold oC;rw[dif_pos hx];exact aMD (Classical.choose_spec hx.2) h
theorem rJ{L:List Lv}{u v:Nat}(hb:jZ L u v=false):oC L u v=0:=by
 unfold oC;rw[dif_neg fun h=>by rw[hb]at h;cases h.1]
section
variable (L:List Lv) (u v:Nat)
theorem wN:jM (L.map dT) u v=jM L u v:=by unfold jM;simp only[kT,rI]
theorem pG:eO (L.map dT) u v=eO L u v:=by unfold eO;simp only[kT]
theorem aHI:lW (L.map dT) u=lW L u:=by unfold lW;simp only[kT,rI,kU]
theorem aHJ:oJ (L.map dT)=oJ L:=by
 unfold oJ;rw[kU];exact aAB fun a _ b _=>rI
theorem aAC:jZ (L.map dT) u v=jZ L u v:=by unfold jZ;simp only[kT,rI]
theorem aME:oC (L.map dT) u v=oC L u v:=by unfold oC tD;simp only[aAC,rI]
end
structure Ob where
  m:Int
  E:Nat
  V:Nat
  D:Int
  now:Int
  L:List Lv
  last:Nat
  gone:Nat
def Wm.ob(X:Wm):Ob:=⟨X.m,X.E,X.V,X.D,X.now,X.s.L.map dT,X.s.last,X.gone⟩
namespace Ob
def left(o:Ob)(to:Int):List Lv:=o.L.filter fun e=>decide (to<e.x)
def tick(o:Ob)(to:Int):Ob:={ o with now:=to,L:=o.left to,gone:=o.gone+(o.L.length-(o.left to).length) }
def put(o:Ob)(u v:Nat)(wt:Int):Ob:={ o with L:=o.L++[⟨0,o.last+1,u,v,wt,o.now,o.now+o.m⟩],last:=o.last+1 }
def idsUV(L:List Lv)(u v:Nat):List Nat:=cP v (cP u (bD L))
def addC(o:Ob)(u v:Nat)(t:Int):Nat:=
  if u=v then 9 else if t<o.now then 10 else if 9223372036854775807<t+o.m∨9223372036854775807<=o.last then 7 else if o.E<=(o.left t).length then 12 else if o.V<(idsUV (o.left t) u v).length then 11 else 0
def add(o:Ob)(u v:Nat)(wt t:Int):Ob:=if o.addC u v t=0 then(o.tick t).put u v wt else o
def tickS(o:Ob)(to:Int):Ob:=if cN o.m o.now to=0 then o.tick to else o
def new(m:Int)(E V:Nat)(D:Int)(g:Nat):Ob:=⟨m,E,V,D,0,[],g,g⟩
structure Ok (o:Ob):Prop where
  x:∀e∈o.L,e.x=e.t+o.m/\0<=e.t/\e.t<=o.now/\o.now<e.x
  mono:o.L.Pairwise fun a b=>a.t<=b.t
  num:∀i (h:i<o.L.length),(o.L[i]).seq=o.gone+i+1
  last:o.last=o.gone+o.L.length
  max:o.last<=9223372036854775807
  m1:1<=o.m
  m2:o.m<=9223372036854775807
  n0:0<=o.now
  n1:o.now+o.m<=9223372036854775807
  ne:∀e∈o.L,e.u≠e.v
  u64:∀e∈o.L,e.u<18446744073709551616/\e.v<18446744073709551616
  leE:o.L.length<=o.E
  leV:(bD o.L).length<=o.V
  mE:o.E<=16384
  mV:o.V<=4096
  sl:∀e∈o.L,e.slot=0
end Ob
section
variable {X:Wm}
theorem sP(X:Wm):X.ob.L.length=X.s.L.length:=List.length_map _
theorem Wm.Ok.lenE(h:X.Ok):X.s.L.length<=X.E:=by
 have h1:=Sm.len_used h.ok;have h2:=h.ok.ar.hb;have h3:=h.ok.sl;have h4:=h.hE;unfold Ar.used at h1;omega
theorem Wm.Ok.lenV(h:X.Ok):(bD X.s.L).length<=X.V:=by
 rw[<-h.ids_len];have h1:=h.ok.md.cnt;have h2:=h.ok.md.ar.hb;have h3:=h.ok.ms;have h4:=h.hV;have h6:X.s.M.ar.slots=X.s.M.slots:=rfl;have h7:X.s.M.ar.begun=X.s.M.given:=rfl;omega
theorem Wm.Ok.ob(h:X.Ok):X.ob.Ok:=by
 have hm:∀e∈X.ob.L,∃d∈X.s.L,dT d=e:=fun e he=>zF.1 he;refine⟨fun e he=>?_,?_,fun i hi=>?_,?_,h.max,h.m1,h.m2,h.n0,h.n1,fun e he=>?_,fun e he=>?_,?_,?_,?_,?_,fun e he=>?_⟩
 {
 obtain⟨d,hd,rfl⟩:=hm e he;exact h.x d hd}
 · exact List.pairwise_map.2 h.mono
 {
 have hi' :i<X.s.L.length:=by rw[<-sP];exact hi
 have e:X.ob.L[i]'hi=dT (X.s.L[i]'hi'):=List.getElem_map ..;rw[e];exact h.num i hi'}
 · rw[sP];exact h.last
 {
 obtain⟨d,hd,rfl⟩:=hm e he;exact h.ok.ne d hd}
 {
 obtain⟨d,hd,rfl⟩:=hm e he;exact h.ok.u64 d hd}
 · rw[sP];exact h.lenE
 · rw[show X.ob.L=X.s.L.map dT from rfl,kU];exact h.lenV
 · show X.E<=_;rw[<-h.hE];exact h.ok.leE
 · show X.V<=_;rw[<-h.hV];exact h.ok.leV
 {
 obtain⟨d,hd,rfl⟩:=hm e he;rfl}
theorem aEW(L:List Lv)(to:Int):(L.map dT).filter (fun e=>decide (to<e.x))=(L.filter fun e=>decide (to<e.x)).map dT:=by
 rw[List.filter_map];rfl
theorem aCF(h:X.Ok){to:Int}{ds:List Nat}{Q' :Nat->Option Int}(hm:fC to X.Q ds Q'):(X.tick to ds Q').ob=X.ob.tick to:=by
 obtain⟨k1,k2,k3,k4⟩:=hm.law h.lk h.ok;have e1:((X.s.rems ds).L.map dT)=X.ob.left to:=by rw[k2];exact(aEW X.s.L to).symm
 have e2:(X.ob.left to).length=(X.s.rems ds).L.length:=by rw[<-e1,List.length_map]
 have e3:X.gone+ds.length=X.gone+(X.ob.L.length-(X.ob.left to).length):=by rw[e2,sP];omega
 have e4:(X.s.rems ds).last=X.s.last:=(kG X.s ds).2.2;show Ob.mk _ _ _ _ _ ((X.s.rems ds).L.map dT) (X.s.rems ds).last (X.gone+ds.length)=_
 rw[e1,e3,e4];rfl
theorem bAG(u v:Nat)(wt:Int)(a b:Nat):(X.put u v wt a b).ob=X.ob.put u v wt:=by
 show Ob.mk _ _ _ _ _ ((X.s.L++[X.s.edge u v wt X.now (X.now+X.m)]).map dT) (X.s.last+1) _=_
 rw[List.map_append];rfl
theorem aMF(h:X.s.Ok)(u v:Nat)(hne:u≠v)(hi:∀x,(X.s.M.find x).isSome=true↔inL X.s.L x):X.s.M.L.length+X.s.more u v=(Ob.idsUV (X.s.L.map dT) u v).length:=by
 have h1:X.s.M.L.length+X.s.more u v=(lG X.s.M u v).length:=by rw[oU];rfl
 rw[h1];apply List.Perm.length_eq;unfold Ob.idsUV;rw[List.perm_ext_iff_of_nodup (pR h.md hne) ((gN (gN (iX _))).imp fun h=>Nat.ne_of_lt h)];intro x;rw[oV h.md,fA,fA,dA,kT,hi];constructor
 {
 rintro(h|h|h)
 · exact .inr (.inr h)
 · exact .inr (.inl h)
 · exact .inl h}
 {
 rintro(h|h|h)
 · exact .inr (.inr h)
 · exact .inr (.inl h)
 · exact .inl h}
theorem aQU(h:X.Ok)(u v:Nat)(hne:u≠v):X.s.chk u v=if X.E<=X.ob.L.length then 12 else if X.V<(Ob.idsUV X.ob.L u v).length then 11 else 0:=by
 unfold Sm.chk;rw[qH hne,Sm.len_used h.ok,h.hE,h.hV,aMF h.ok u v hne (wL h),sP];rfl
theorem aMG(h:X.Ok){u v:Nat}{t:Int}(hne:u≠v)(hc:cN X.m X.now t=0)(hl:X.s.last<9223372036854775807){ds:List Nat}{Q' :Nat->Option Int}(hm:fC t X.Q ds Q'):X.ob.addC u v t=(X.s.rems ds).chk u v:=by
 obtain⟨h1,h2⟩:=nT hc;have hk:=(Wm.tick_ok h h1 h2 hm).1;have e:=aQU hk u v hne;rw[aCF h hm]at e;show _=(X.tick t ds Q').s.chk u v
 rw[e];unfold Ob.addC;rw[qH hne,qH (show ¬t<X.ob.now from by show ¬t<X.now;omega),qH (show ¬(9223372036854775807<t+X.ob.m∨9223372036854775807<=X.ob.last) from by show ¬(9223372036854775807<t+X.m∨9223372036854775807<=X.s.last);omega)];rfl
end
end Go.Proofs.YtgmnemndjjmgkaaGreat
namespace Go.Proofs.YtgmnemndjjmgkaaGreat
open Go.RowKit
structure Th where
  P:World->List Nat->Prop
  lt:∀{w:World} {K:List Nat},P w K->∀q∈K,q<w.heap.size
  fr:∀{w w' :World} {K S:List Nat},P w K->Fr S w w' -> (∀q∈K,q∉S)->P w' K
def Hs(n:Nat)(w:World):List Th->List Nat->Prop
  | [],K=>K=[]
  | t::ts,K=>∃K1 K2,t.P w K1/\(∀q∈K1,n<=q)/\Hs n w ts K2/\(∀q∈K1,q∉K2)/\K=K1++K2
section
variable {n:Nat} {w w' :World} {ts:List Th} {K S:List Nat}
theorem Hs.lt:∀{ts:List Th} {K:List Nat},Hs n w ts K->∀q∈K,n<=q/\q<w.heap.size
  | [],K,h=>by rw[show K=[] from h];simp
  | t::ts,K,h=>by
    obtain⟨K1,K2,h1,h2,h3,_,rfl⟩:=h;intro q hq;rcases qJ.1 hq with hq|hq
    · exact⟨h2 q hq,t.lt h1 q hq⟩
    · exact Hs.lt h3 q hq
theorem Hs.fr(hf:Fr S w w'):∀{ts:List Th} {K:List Nat},Hs n w ts K->(∀q∈K,q∉S)->Hs n w' ts K
  | [],_,h,_=>h
  | t::ts,K,h,hs=>by
    obtain⟨K1,K2,h1,h2,h3,h4,rfl⟩:=h;exact⟨K1,K2,t.fr h1 hf (fun q hq=>hs q (qJ.2 (.inl hq))),h2,Hs.fr hf h3 (fun q hq=>hs q (qJ.2 (.inr hq))),h4,rfl⟩
end
def Wd(W wr:World)(ts:List Th):Prop:=Fr [] W wr/\∃K,Hs W.heap.size wr ts K
def Stp(w w' :World)(K:List Nat)(t:Th):Prop:=∃K', t.P w' K' /\ Fr K w w' /\ ∀q∈K', q∈K∨w.heap.size<=q
section
variable {W wr w' :World} {t t' a b c:Th} {ts:List Th} {K:List Nat}
theorem Wd.begin(W:World):Wd W W []:=⟨Fr.refl _ _,[],rfl⟩
theorem Wd.frm(h:Wd W wr ts):Fr [] W wr:=h.1
theorem Wd.fr0(h:Wd W wr ts)(hf:Fr [] wr w'):Wd W w' ts:=by
 obtain⟨h1,K,h2⟩:=h;exact⟨h1.trans' hf,K,h2.fr hf (by simp)⟩
theorem Wd.drop(h:Wd W wr (t::ts)):Wd W wr ts:=by
 obtain⟨h1,K,K1,K2,_,_,h2,_⟩:=h;exact⟨h1,K2,h2⟩
theorem Wd.get(h:Wd W wr (t::ts)):∃K,t.P wr K:=by
 obtain⟨_,K,K1,K2,h,_⟩:=h;exact⟨K1,h⟩
theorem Wd.open(h:Wd W wr (t::ts)):∃K,t.P wr K/\∀{w' :World} {t' :Th},Stp wr w' K t' -> Wd W w' (t' :: ts):=by
 obtain⟨h1,K,K1,K2,h2,h3,h4,h5,rfl⟩:=h;refine⟨K1,h2,?_⟩;rintro w' t' ⟨K', k1,k2,k3⟩;have hs:=h1.size;have hs2:=k2.size;refine⟨h1.trans k2 (fun q hq=>.inr (h3 q hq)),K' ++ K2,K', K2,k1,fun q hq=>?_,h4.fr k2 (fun q hq hm=>h5 q hm hq),fun q hq hm=>?_,rfl⟩
 {
 rcases k3 q hq with e|e
 · exact h3 q e
 · omega}
 {
 rcases k3 q hq with e|e
 · exact h5 q e hm
 · have:=h4.lt q hm;omega}
theorem Wd.new(h:Wd W wr ts)(hf:Fr [] wr w')(hp:t.P w' K)(hk:∀q∈K,wr.heap.size<=q):Wd W w' (t::ts):=by
 obtain⟨h1,K2,h2⟩:=h;have hs:=h1.size;refine⟨h1.trans' hf,K++K2,K,K2,hp,fun q hq=>?_,h2.fr hf (by simp),fun q hq hm=>?_,rfl⟩
 · have:=hk q hq;omega
 {
 have:=hk q hq;have:=h2.lt q hm;omega}
theorem Wd.swap(h:Wd W wr (a::b::ts)):Wd W wr (b::a::ts):=by
 obtain⟨h1,K,K1,K2,h2,h3,⟨K3,K4,h4,h5,h6,h7,rfl⟩,h8,rfl⟩:=h;refine⟨h1,K3++(K1++K4),K3,K1++K4,h4,h5,⟨K1,K4,h2,h3,h6,fun q hq hm=>h8 q hq (qJ.2 (.inr hm)),rfl⟩,fun q hq hm=>?_,rfl⟩;rcases qJ.1 hm with e|e
 · exact h8 q e (qJ.2 (.inl hq))
 · exact h7 q hq e
theorem Wd.under(h:Wd W wr (t::ts)){us:List Th}(hu:∀K,Hs W.heap.size wr ts K->∃K', Hs W.heap.size wr us K' /\ ∀q∈K', q∈K):Wd W wr (t::us):=by
 obtain⟨h1,K,K1,K2,h2,h3,h4,h5,rfl⟩:=h;obtain⟨K', k1,k2⟩:=hu K2 h4;exact⟨h1,K1++K', K1,K', h2,h3,k1,fun q hq hm=>h5 q hq (k2 q hm),rfl⟩
theorem Wd.drop2(h:Wd W wr (a::b::ts)):Wd W wr (a::ts):=h.swap.drop
theorem Hs.swap{n:Nat}(h:Hs n wr (a::b::ts) K):∃K', Hs n wr (b::a::ts) K' /\ ∀q∈K', q∈K:=by
 obtain⟨K1,K2,h2,h3,⟨K3,K4,h4,h5,h6,h7,rfl⟩,h8,rfl⟩:=h;refine⟨K3++(K1++K4),⟨K3,K1++K4,h4,h5,⟨K1,K4,h2,h3,h6,fun q hq hm=>h8 q hq (qJ.2 (.inr hm)),rfl⟩,fun q hq hm=>?_,rfl⟩,fun q hq=>?_⟩
 {
 rcases qJ.1 hm with e|e
 · exact h8 q e (qJ.2 (.inl hq))
 · exact h7 q hq e}
 {
 simp only[qJ]at hq ⊢;rcases hq with e|e|e
 · exact .inr (.inl e)
 · exact .inl e
 · exact .inr (.inr e)}
theorem Wd.third(h:Wd W wr (a::b::c::ts)):Wd W wr (c::a::b::ts):=(h.under fun _ hk=>Hs.swap hk).swap
theorem Wd.back3(h:Wd W wr (a::b::c::ts)):Wd W wr (b::c::a::ts):=h.swap.under fun _ hk=>Hs.swap hk
theorem Wd.drop3(h:Wd W wr (a::b::c::ts)):Wd W wr (a::b::ts):=h.third.drop
end
section
variable {w w' :World} {pw pc ps px pf:Nat} {P:Wp} {Ks lx Lf:List Nat} {cl:Nat->Nat}
theorem aQV(h:cS w pw pc ps px pf P Ks lx Lf cl):Calls Tryz.prog 23 #[aN pw] w fun e w' =>e=.returned (.tuple #[.int .u64 P.added,.int .u64 P.gone])/\Fr [] w w' :=by
 have HV:=qB (dH h);have c8:=h.hd.cell 8;have c9:=h.hd.cell 9;simp only[zS,zT]at c8 c9;clear h;go_enter Tryz.func23,Tryz.ntmps23
 go_wp2_with fail
 refine HV.out.mono ?_;rintro _ w ⟨rfl,rfl⟩;go_wp2_with fail
 go_quiet (fail)
 go_wp2
 go_ret2;exact⟨rfl,(Fr.refl _ _).drewN _⟩
theorem aHK(h:cS w pw pc ps px pf P Ks lx Lf cl)(hs:P.added+P.gone<18446744073709551616):Calls Tryz.prog 22 #[aN pw] w fun e w' =>e=.returned (.int .u64 (P.added+P.gone:Nat))/\Fr [] w w' :=by
 have HV:=qB (dH h);have c8:=h.hd.cell 8;have c9:=h.hd.cell 9;simp only[zS,zT]at c8 c9;have hw:IntKind.u64.wrap ((P.added:Int)+P.gone)=(P.added:Int)+P.gone:=by simp[IntKind.wrap,IntKind.bits,IntKind.signed];omega
 clear h;go_enter Tryz.func22,Tryz.ntmps22
 go_wp2_with fail
 refine HV.out.mono ?_;rintro _ w ⟨rfl,rfl⟩;go_wp2_with fail
 go_quiet (fail)
 go_wp2
 go_ret;exact⟨by rw[Int.natCast_add];rfl,(Fr.refl _ _).drewN _⟩
end
end Go.Proofs.YtgmnemndjjmgkaaGreat
namespace Go.Proofs.YtgmnemndjjmgkaaGreat
open Go.RowKit Classical
def Tryz.laysClone_ren:Go.Shelf.Ren:=⟨fun|41=>153|n=>n,fun|22=>192|23=>191|4=>4|n=>n,fun|n=>n⟩
theorem Tryz.laysClone:Go.Proofs.SlLaysE0.n41 Tryz.prog Tryz.laysClone_ren:={
  mixed:=by kernel_rfl
  f41:=⟨Tryz.f153.name,by decide,Tryz.func153.trans (congrArg some (by kernel_rfl))⟩
  t4:=Tryz.underlying4
  a4:=Tryz.isAgg4
  z4:=Tryz.sizeOf4
  v4:=Tryz.zeroValue4
  t22:=Tryz.underlying192
  a22:=Tryz.isAgg192
  z22:=Tryz.sizeOf192
  v22:=Tryz.zeroValue192 }
theorem bAH(n:Nd)(f:Nat):(fv n f).oneCell' =true:=by
 match f with
 | 0|1|2|3|4|5|6|7=>rfl
 | _+8=>rfl
theorem aVQ{w:World}{g N cap:Nat}{σ:Tbl}(h:bF w g N σ)(hN:N<=65537)(h0:0<N):
    Calls Tryz.prog 153 #[.slice (some ⟨g,0,none⟩) N cap] w fun e w' =>∃g' cap', e=.returned (.slice (some ⟨g', 0,none⟩) N cap')/\N<=cap' /\ bF w' g' N σ/\w.heap.size<=g' /\ Fr [] w w' :=by
 obtain⟨i0,hi,hz0,hz1,hz2⟩:=info_parts Tryz.info191;obtain⟨arr,ha,hs,hc⟩:=h;have hl:(arr.toList.take (N*9)).length=N*9:=by simp;omega
 have hat:∀j u,(arr.toList.take (N*9))[j]? =some u->j<N*9/\arr[j]? =some u:=by {
 intro j u hj;rw[List.getElem?_take]at hj;split at hj
 · exact⟨by assumption,by simpa using hj⟩
 · cases hj};refine(AnyE.slices_Clone Tryz.laysClone i0 ndv 9 72 hi hz0 hz1 hz2 (by rw[yS];rfl) (by decide) Tryz.sizeOf191 g 0 N cap (arr.toList.take (N*9)) w hl (by unfold maxLen;omega) (by omega) (fun j u hj=>by
     have:=(hat j u hj).2;simp[World.cell?,ha,this]) (fun u hu=>by
     obtain⟨j,hj⟩:=List.mem_iff_getElem?.1 hu;obtain⟨h1,h2⟩:=hat j u hj;have:=hc (j/9) (by omega) (j%9) (Nat.mod_lt _ (by decide));rw[show j/9*9+j%9=j by omega,h2]at this;cases this;exact bAH _ _)).mono ?_
 rintro _ w' ⟨v,rfl,⟨_,hv⟩,hn,hB⟩;rcases hv with⟨rfl,_⟩|⟨g', cap', cur,rfl,hg,hcur,hcap,_,hsz,htk⟩
 · exact absurd rfl hn
 {
 refine⟨g', cap', rfl,hcap,⟨cur,hcur,by omega,fun i hi f hf=>?_⟩,hg,Fr.of_below hB⟩;rw[<-hc i hi f hf];have h1:(cur.toList.take (N*9))[i*9+f]? =cur[i*9+f]? :=by rw[List.getElem?_take,qI (by omega)];simp
 have h2:(arr.toList.take (N*9))[i*9+f]? =arr[i*9+f]? :=by rw[List.getElem?_take,qI (by omega)];simp
 rw[<-h1,<-h2,htk]}
theorem bAI{w:World}{pf g n:Nat}{E:Nat->Nat->Prop}{key:Nat->Int}(h:LM w pf g n E key):
    Calls Tryz.prog 107 #[.pointer (some ⟨pf,0,none⟩)] w fun e w' =>∃pf' g', e=.returned (.pointer (some ⟨pf', 0,none⟩))/\LM w' pf' g' n E key/\Fr [] w w' /\ w.heap.size<=pf' /\ w.heap.size<=g' :=by
 have H:=qB h;obtain⟨cap,σ,F,par,d,rt,hL,hF,hE,hk⟩:=h;have hN:=hL.le;have HR:=qB (zR hF (zR hE hk));clear hF hE hk;have c1:=hL.hd.cell 1;have c2:=hL.hd.cell 2;simp only[zS,zT]at c1 c2;have hpf:=hL.hd.lt;have HL:=qB hL;go_enter Tryz.func107,Tryz.ntmps107
 go_wp2_with fail
 refine(aBJ (hL.hd.cell 0)).mono ?_;rintro _ w1 ⟨rfl,rfl⟩;have HC:=qB (aVQ (cap:=cap) (hL.nodes.eqv (Eqv.drew w1)) hN (by omega));generalize hed:(n:Int)-nc n E=ed at *;go_wp2
 go_region_held3 (fun w' => w'.cell? ⟨pf, 1, none⟩ = some (.slice (some ⟨g, 0, none⟩) (n + 1) cap) /\ w'.cell? ⟨pf, 2, none⟩ = some (.int .i64 ed))
   (first
     | go_keep
     | (exact⟨hF3.cell (by assumption) (by simp),hF3.cell (by assumption) (by simp)⟩))
   (first
     | (go_at_call 153;refine HC.out.mono ?_;rintro e w3 ⟨g', cap', rfl,hcap', hNd', hg', hF3⟩))
 go_wp2
 go_ret;have hlt:=hNd'.lt;have hsz:=hF3.size;have hsz2:w1.drew.heap.size=w1.heap.size:=rfl;refine⟨w3.heap.size,g', rfl,?_,((Fr.refl [] w1).drew.trans' hF3).alloc _,by omega,by omega⟩;show LG _ _ _ _ _ _ ((n:Int)-nc n E)
 rw[hed];exact⟨cap', σ,F,par,d,rt,⟨Blk.new w3 [_,_,_] 194,hNd'.same (by rw[heap_alloc_old w3 _ hlt]),by omega,hN,hcap'⟩,HR.out.1,HR.out.2.1,HR.out.2.2⟩
def Tryz.laysCloneM_ren:Go.Shelf.Ren:=⟨fun|5=>108|7=>149|n=>n,fun|23=>123|25=>3|3=>128|4=>4|20=>20|n=>n,fun|n=>n⟩
theorem Tryz.laysCloneM:Go.Proofs.SlLaysW.n5 Tryz.prog Tryz.laysCloneM_ren:={
  mixed:=by kernel_rfl
  f5:=⟨Tryz.f108.name,by decide,Tryz.func108.trans (congrArg some (by kernel_rfl))⟩
  f7:=Tryz.func149.trans (congrArg some (by kernel_rfl))
  t4:=Tryz.underlying4
  a4:=Tryz.isAgg4
  z4:=Tryz.sizeOf4
  v4:=Tryz.zeroValue4
  t20:=Tryz.underlying20
  a20:=Tryz.isAgg20
  z20:=Tryz.sizeOf20
  v20:=Tryz.zeroValue20
  t23:=Tryz.underlying123
  a23:=Tryz.isAgg123
  z23:=Tryz.sizeOf123
  v23:=Tryz.zeroValue123 }
theorem aHL{w:World}{mb n:Nat}{m:Int->Option Value}(h:dF Tryz.prog 3 .i64 okA w mb m n):
    Calls Tryz.prog 108 #[.map (some mb)] w fun e w' =>e=.returned (.map (some w.heap.size))/\dF Tryz.prog 3 .i64 okA w' w.heap.size m n/\Fr [] w w' :=by
 obtain⟨D,h1,h2,h3,h4⟩:=h;refine(AnyW.maps_Clone_owns Tryz.laysCloneM 3 (tK okA) mb n D w h1).mono ?_;rintro _ w' ⟨rfl,k1,_,hB⟩;exact⟨rfl,⟨D,k1,h2,h3,h4⟩,Fr.of_below hB⟩
theorem aVR{w:World}{pf S V:Nat}{G:bG}{L:List Nat}(h:FAt w pf S V G L):Calls Tryz.prog 54 #[cA pf] w fun e w' =>∃pf', e=.returned (cA pf')/\∃L', FAt w' pf' S V G L' /\ Fr [] w w' /\ ∀q∈L', w.heap.size<=q:=by
 obtain⟨pl,g,ph,mb,l,key,n,h1,hH,hD,rfl⟩:=h;have hlt:=h1.lt;have hS:=h1.leS;have hV:=h1.leV;have c0:=h1.hd.cell 0;have c1:=h1.hd.cell 1;have c2:=h1.hd.cell 2;have c3:=h1.hd.cell 3;have c4:=h1.hd.cell 4;have c5:=h1.hd.cell 5;simp only[zS,zT]at c0 c1 c2 c3 c4 c5;have HV:=qB (jI h1);have H:=qB h1;have HH:=qB hH;have HD:=qB hD;have HC1:=qB (fun(w' :World) (hf:Fr [] w w')=>bAI (LG.fr h1.lct hf (by simp) (by simp)));have HC2:=qB (fun(w' :World) (hf:Fr [] w w')=>aJF (hH.fr hf (by simp)));have HC3:=qB (fun(w' :World) (hf:Fr [] w w')=>aHL (h1.edges.same (hf.keep mb h1.edges.lt (by simp))));clear h1 hH hD;obtain⟨tr,htr⟩:∃tr,tr=bL S (aA G):=⟨_,rfl⟩;rw[<-htr]at c5;have HTR:=qB htr;clear htr;go_enter Tryz.func54,Tryz.ntmps54
 go_wp2_with fail
 refine HV.out.mono ?_;rintro _ w ⟨rfl,rfl⟩;go_wp2_with fail
 have hFa:Fr [] w (w.alloc (.cells #[.int .i64 V,.int .i64 S,cA pl,cA ph,.map (some mb),.int .i64 tr] 125)):=(Fr.refl [] w).alloc _;have hB0:Blk (w.alloc (.cells #[.int .i64 V,.int .i64 S,cA pl,cA ph,.map (some mb),.int .i64 tr] 125)) w.heap.size 125 [.int .i64 V,.int .i64 S,cA pl,cA ph,.map (some mb),.int .i64 tr]:=Blk.new w _ _;refine(HC1.out _ hFa).mono ?_;rintro _ w2 ⟨pl', g', rfl,hL2,hF2,hp2,hg2⟩;have hb2:=hF2.blk hB0 (by simp);have d2:=hb2.cell 2;have z2:=hb2.frozen 2;simp only[zS,zT]at d2;have hne:pf≠w.heap.size:=by have:=H.out.hd.lt;omega
 have e3:=(hFa.trans' hF2).cell c3 (by simp);have e4:=(hFa.trans' hF2).cell c4 (by simp);have HF2:=qB (zR (hFa.trans' hF2) (zR hb2 (zR hL2 (zR hp2 hg2))));clear hFa hB0 hF2 hb2 hL2 hp2 hg2;go_wp2_with fail
 have hF2s:Fr [] w (w2.setCell ⟨w.heap.size,2,none⟩ (cA pl')):=HF2.out.1.setCell _ _ (.inr (qS _));refine(HC2.out _ hF2s).mono ?_;rintro _ w3 ⟨ph', rfl,l', hH3,hF3,hl3⟩;have hb3:=hF3.blk (HF2.out.2.1.set 2 (cA pl')) (by simp);have d3:=hb3.cell 3;have z3:=hb3.frozen 3;simp only[zD,zH,zS,zT]at d3;have f4:=(hF2s.trans' hF3).cell c4 (by simp);have HF3:=qB (zR (hF2s.trans' hF3) (zR hb3 (zR hH3 (zR hF3 hl3))));clear hF2s hF3 hb3 hH3 hl3 d2 z2 e3 e4;go_wp2_with fail
 have hF3s:Fr [] w (w3.setCell ⟨w.heap.size,3,none⟩ (aL ph')):=HF3.out.1.setCell _ _ (.inr (qS _));refine(HC3.out _ hF3s).mono ?_;rintro _ w4 ⟨rfl,hI4,hF4⟩;have hb4:=hF4.blk (HF3.out.2.1.set 3 (aL ph')) (by simp);have d4:=hb4.cell 4;have z4:=hb4.frozen 4;simp only[zD,zH,zS,zT]at d4;rw[World.size_setCell]at hI4 ⊢;have HF4:=qB (zR (hF3s.trans' hF4) (zR hb4 (zR hI4 hF4)));clear hF3s hF4 hb4 hI4;go_wp2_with fail
 go_ret;have G2:Fr [w.heap.size] w2 (w4.setCell ⟨w.heap.size,4,none⟩ (.map (some w3.heap.size))):=((((Fr.refl [w.heap.size] w2).setCell _ _ (.inl (by simp))).trans' (HF3.out.2.2.2.1.mono (by simp))).setCell _ _ (.inl (by simp))).trans' (HF4.out.2.2.2.mono (by simp)) |>.setCell _ _ (.inl (by simp))
 have G3:Fr [w.heap.size] w3 (w4.setCell ⟨w.heap.size,4,none⟩ (.map (some w3.heap.size))):=((((Fr.refl [w.heap.size] w3)).setCell _ _ (.inl (by simp))).trans' (HF4.out.2.2.2.mono (by simp))).setCell _ _ (.inl (by simp));have G4:Fr [w.heap.size] w4 (w4.setCell ⟨w.heap.size,4,none⟩ (.map (some w3.heap.size))):=(Fr.refl [w.heap.size] w4).setCell _ _ (.inl (by simp));have k1:=HF2.out.2.2.2;simp only[World.size_alloc]at k1;have k2:=HF2.out.1.size;have k3:=HF3.out.2.2.2.1.size;have k4:=HF3.out.2.2.2.2;rw[World.size_setCell]at k3 k4;have k5:=LG.lts HF2.out.2.2.1;have k6:=HF2.out.2.1.lt;have hlw:=HF3.out.2.2.1.lt;refine⟨w.heap.size,rfl,_,⟨pl', g', ph', w3.heap.size,l', key,n,⟨?_,LG.fr HF2.out.2.2.1 G2 (by simp;omega) (by simp;omega),HF4.out.2.2.1.same (G4.keep _ HF4.out.2.2.1.lt (by simp;omega)),H.out.gw,H.out.keys,H.out.cn,hS,hV,?_,?_,?_,?_,?_⟩,HF3.out.2.2.1.fr G3 (fun b hb=>?_),fun b hb=>?_,rfl⟩,HF4.out.1.setCell _ _ (.inr (qS _)),fun q hq=>?_⟩
 {
 have:=HF4.out.2.1.set 4 (.map (some w3.heap.size));rw[HTR.out]at this;exact this}
 · omega
 · omega
 · omega
 · omega
 · omega
 · have:=k4 b hb;simp;omega
 · have e1:=k4 b hb;have e2:=hlw b hb;omega
 {
 simp only[qF]at hq;rcases hq with rfl|rfl|rfl|rfl|hq
 · omega
 · omega
 · omega
 · omega
 · have:=k4 q hq;omega}
end Go.Proofs.YtgmnemndjjmgkaaGreat
namespace Go.Proofs.YtgmnemndjjmgkaaGreat
open Go.RowKit
section
variable {w w' :World} {pw pc ps px pf:Nat} {P:Wp} {Ks lx Lf:List Nat} {cl:Nat->Nat}
theorem aMH(h:cS w pw pc ps px pf P Ks lx Lf cl):Calls Tryz.prog 33 #[aN pw] w fun e w' =>e=.returned (.agg #[.int .i64 P.m,.int .i64 P.E,.int .i64 P.V,.int .i64 P.D])/\Fr [] w w' :=by
 have h1:=h.fr0 ((Fr.refl [] w).alloc (.cells #[.int .i64 0,.int .i64 0,.int .i64 0,.int .i64 0] 55));have HV:=qB (dH h1);have c0:=h1.hd.cell 0;have c1:=h1.hd.cell 1;have c2:=h1.hd.cell 2;have c3:=h1.hd.cell 3;have hb:=Blk.new w [.int .i64 P.m,.int .i64 P.E,.int .i64 P.V,.int .i64 P.D] 55;have r0:=hb.cell 0;have r1:=hb.cell 1;have r2:=hb.cell 2;have r3:=hb.cell 3;simp only[zS,zT]at c0 c1 c2 c3 r0 r1 r2 r3;have HF:=qB ((Fr.refl [] w).alloc (.cells #[.int .i64 P.m,.int .i64 P.E,.int .i64 P.V,.int .i64 P.D] 55));clear h h1 hb;go_enter Tryz.func33,Tryz.ntmps33
 go_wp2_with fail
 refine HV.out.mono ?_;rintro _ _ ⟨rfl,rfl⟩;go_wp2
 exact bodyPost_ret (v:=.agg #[.int .i64 P.m,.int .i64 P.E,.int .i64 P.V,.int .i64 P.D]) (by simp[results,Tryz.results33,go_sem,r0,r1,r2,r3]) rfl ⟨rfl,HF.out⟩
noncomputable def aCG(P:Wp)(u:Nat):Int:=if cC P.s u u=0 then mZ P.V P.G (bZ P.s u u) else 0
theorem aVS(h:cS w pw pc ps px pf P Ks lx Lf cl)(u:Nat)(hu:u<18446744073709551616):
    Calls Tryz.prog 26 #[aN pw,.int .u64 u] w fun e w' =>e=.returned (.tuple #[.int .i64 (aCG P u),.int .i64 (cC P.s u u)])/\WMv w w' pw pc ps px pf P Ks lx Lf:=by
 have HE:=qB (aBZ h u u hu hu);have HB:=qB h;have HC:=qB (fun(w' :World) (hf:Fr [] w w')=>aUZ (h.fo.fr hf (by simp)) (bZ P.s u u));have c7:=h.hd.cell 7;simp only[zS,zT]at c7;clear h;unfold aCG;by_cases hc:cC P.s u u=0
 {
 rw[qI hc,hc];rw[hc]at HE;generalize mZ P.V P.G (bZ P.s u u)=tt at *;generalize bZ P.s u u=a at *;clear hc;go_enter Tryz.func26,Tryz.ntmps26
 go_wp2_with fail
 refine HE.out.mono ?_;rintro _ w1 ⟨rfl,hF1⟩;have c7:=hF1.cell c7 (by simp);have HC1:=qB (HC.out w1 hF1);have HF1:=qB hF1;clear hF1 HC HE;go_wp2_with fail
 refine HC1.out.mono ?_;rintro _ w2 ⟨rfl,hM⟩;have HM:=qB (HB.out.mv HF1.out hM);clear hM;go_wp2
 go_ret2;exact⟨rfl,HM.out⟩}
 {
 rw[qH hc];generalize cC P.s u u=cc at *;generalize bZ P.s u u=a at *;have d1:(cc != 0)=true:=by simp[hc]
 clear hc HC;go_enter Tryz.func26,Tryz.ntmps26
 go_wp2_with fail
 refine HE.out.mono ?_;rintro _ w1 ⟨rfl,hF1⟩;have HF1:=qB hF1;clear hF1 HE;go_wp2
 go_ret2;exact⟨rfl,HB.out.mv0 HF1.out⟩}
end
structure CpS (w wr:World) (b:Nat) (l:List Value):Prop where
  hd:Blk wr b 83 l
  fr:Fr [] w wr
  lb:w.heap.size=b
section
variable {w wr w' :World} {b:Nat} {l:List Value}
theorem CpS.go(h:CpS w wr b l)(hf:Fr [] wr w'):CpS w w' b l:=⟨hf.blk h.hd (by simp),h.fr.trans' hf,h.lb⟩
theorem CpS.put(h:CpS w wr b l)(i:Nat)(v:Value):CpS w (wr.setCell ⟨b,i,none⟩ v) b (l.set i v):=⟨h.hd.set i v,h.fr.setCell _ _ (.inr (Nat.le_of_eq h.lb)),h.lb⟩
theorem CpS.one(_h:CpS w wr b l)(i:Nat)(v:Value):Fr [b] wr (wr.setCell ⟨b,i,none⟩ v):=(Fr.refl _ _).setCell _ _ (.inl (by simp))
end
section
variable {w w' :World} {pw pc ps px pf:Nat} {P:Wp} {Ks lx Lf:List Nat} {cl:Nat->Nat}
theorem aVT(h:cS w pw pc ps px pf P Ks lx Lf cl):Calls Tryz.prog 20 #[aN pw] w fun e w' =>∃b,e=.returned (aN b)/\∃pc' ps' px' pf' Ks' lx' Lf' cl', cS w' b pc' ps' px' pf' P Ks' lx' Lf' cl' /\ Fr [] w w' /\ ∀q∈cF b pc' Ks' lx' Lf', w.heap.size<=q:=by
 have HV:=qB (dH h);have HC:=qB (fun(w' :World) (hf:Fr [] w w')=>aUU (h.clk.fr hf (by simp)));have HS:=qB (fun(w' :World) (hf:Fr [] w w')=>aJL (h.st.fr0 hf));have HX:=qB (fun(w' :World) (hf:Fr [] w w')=>aJH (h.sch.fr hf (by simp)));have HO:=qB (fun(w' :World) (hf:Fr [] w w')=>aVR (h.fo.fr hf (by simp)));have c0:=h.hd.cell 0;have c1:=h.hd.cell 1;have c2:=h.hd.cell 2;have c3:=h.hd.cell 3;have c4:=h.hd.cell 4;have c5:=h.hd.cell 5;have c6:=h.hd.cell 6;have c7:=h.hd.cell 7;have c8:=h.hd.cell 8;have c9:=h.hd.cell 9;simp only[zS,zT]at c0 c1 c2 c3 c4 c5 c6 c7 c8 c9;have HK:=qB (fun(w' :World) (hf:Fr [] w w')=>zR (hf.cell c4 (by simp)) (zR (hf.cell c5 (by simp)) (zR (hf.cell c6 (by simp)) (hf.cell c7 (by simp)))));have hn:CpS w (w.alloc (.cells #[.int .i64 P.m,.int .i64 P.E,.int .i64 P.V,.int .i64 P.D,iA pc,fP ps,aL px,cA pf,.int .u64 P.added,.int .u64 P.gone] 83)) w.heap.size [.int .i64 P.m,.int .i64 P.E,.int .i64 P.V,.int .i64 P.D,iA pc,fP ps,aL px,cA pf,.int .u64 P.added,.int .u64 P.gone]:=
   ⟨Blk.new w _ _,(Fr.refl _ _).alloc _,rfl⟩
 have HN:=qB hn;clear h hn;go_enter Tryz.func20,Tryz.ntmps20
 go_wp2_with fail
 refine HV.out.mono ?_;rintro _ w ⟨rfl,rfl⟩;have d4:=(HK.out _ HN.out.fr).1;go_wp2_with fail
 clear c0 c1 c2 c3 c4 c5 c6 c7 c8 c9 d4 HV;generalize hW0:w.alloc (.cells #[.int .i64 P.m,.int .i64 P.E,.int .i64 P.V,.int .i64 P.D,iA pc,fP ps,aL px,cA pf,.int .u64 P.added,.int .u64 P.gone] 83)=W0 at *;clear hW0;generalize hb:w.heap.size=b at *;have Hb:=qB hb;clear hb;refine(HC.out W0 HN.out.fr).mono ?_;rintro _ W1 ⟨pc', rfl,hc,hF1,hpc⟩;have hN1:=HN.out.go hF1;have hp1:=hN1.put 4 (iA pc');have b4:=hN1.hd.cell 4;have z4:=hN1.hd.frozen 4;have k5:=(HK.out _ hp1.fr).2.1;simp only[zS,zT,zD,zH]at b4 hp1;have H1:=qB (zR hc (zR hF1 (zR hpc (zR hp1 (hN1.one 4 (iA pc'))))));clear hc hF1 hpc hN1 hp1 HC;go_wp2_with fail
 clear b4 z4 k5;generalize W1.setCell ⟨b,4,none⟩ (iA pc')=V1 at *;refine(HS.out V1 H1.out.2.2.2.1.fr).mono ?_;rintro _ W2 ⟨ps', rfl,Ks', hc,hF2,hk2⟩;have hN2:=H1.out.2.2.2.1.go hF2;have hp2:=hN2.put 5 (fP ps');have b4:=hN2.hd.cell 5;have z4:=hN2.hd.frozen 5;have k6:=(HK.out _ hp2.fr).2.2.1;simp only[zS,zT,zD,zH]at b4 hp2;have H2:=qB (zR hc (zR hF2 (zR hk2 (zR hp2 (hN2.one 5 (fP ps'))))));clear hc hF2 hk2 hN2 hp2 HS;go_wp2_with fail
 clear b4 z4 k6;generalize W2.setCell ⟨b,5,none⟩ (fP ps')=V2 at *;refine(HX.out V2 H2.out.2.2.2.1.fr).mono ?_;rintro _ W3 ⟨px', rfl,lx', hc,hF3,hk3⟩;have hN3:=H2.out.2.2.2.1.go hF3;have hp3:=hN3.put 6 (aL px');have b4:=hN3.hd.cell 6;have z4:=hN3.hd.frozen 6;have k7:=(HK.out _ hp3.fr).2.2.2;simp only[zS,zT,zD,zH]at b4 hp3;have H3:=qB (zR hc (zR hF3 (zR hk3 (zR hp3 (hN3.one 6 (aL px'))))));clear hc hF3 hk3 hN3 hp3 HX;go_wp2_with fail
 clear b4 z4 k7;generalize W3.setCell ⟨b,6,none⟩ (aL px')=V3 at *;refine(HO.out V3 H3.out.2.2.2.1.fr).mono ?_;rintro _ W4 ⟨pf', rfl,Lf', hc,hF4,hk4⟩;have hN4:=H3.out.2.2.2.1.go hF4;have hp4:=hN4.put 7 (cA pf');have b4:=hN4.hd.cell 7;have z4:=hN4.hd.frozen 7;simp only[zS,zT,zD,zH]at b4 hp4;have H4:=qB (zR hc (zR hF4 (zR hk4 (zR hp4 (hN4.one 7 (cA pf'))))));clear hc hF4 hk4 hN4 hp4 HO;go_wp2_with fail
 clear b4 z4;generalize W4.setCell ⟨b,7,none⟩ (cA pf')=V4 at *;go_ret;obtain⟨hc1,hF1,hpc,hn1,hG1⟩:=H1.out;obtain⟨hc2,hF2,hk2,hn2,hG2⟩:=H2.out;obtain⟨hc3,hF3,hk3,hn3,hG3⟩:=H3.out;obtain⟨hc4,hF4,hk4,hn4,hG4⟩:=H4.out;have hb:=Hb.out;have s1:=hF1.size;have s2:=hF2.size;have s3:=hF3.size;have s4:=hF4.size;have t1:=hG1.size;have t2:=hG2.size;have t3:=hG3.size;have t4:=hG4.size;have e0:=HN.out.hd.lt;have e1:=hc1.hd.lt;have a1:∀q,b<q->q∉[b]:=fun q hq hm=>by
   simp only[qF,List.not_mem_nil,or_false]at hm;omega
 have k2:∀q∈Ks', W1.heap.size<=q:=fun q hq=>zQ t1 (hk2 q hq);have k3:∀q∈lx', W2.heap.size<=q:=fun q hq=>zQ t2 (hk3 q hq);have k4:∀q∈Lf', W3.heap.size<=q:=fun q hq=>zQ t3 (hk4 q hq);refine⟨b,rfl,pc', ps', px', pf', Ks', lx', Lf', fun x=>if x=b then 0 else if x=pc' then 1 else if x<W2.heap.size then 2 else if x<W3.heap.size then 3 else 4,⟨hn4.hd,?_,?_,?_,?_,by simp,?_,?_,?_,?_⟩,hn4.fr,?_⟩
 · exact((((((hc1.fr hG1 (a1 _ (by omega))).fr0 hF2).fr hG2 (a1 _ (by omega))).fr0 hF3).fr hG3 (a1 _ (by omega))).fr0 hF4).fr hG4 (a1 _ (by omega))
 · exact((((hc2.fr hG2 (fun q hq=>a1 q (by have:=k2 q hq;omega))).fr0 hF3).fr hG3 (fun q hq=>a1 q (by have:=k2 q hq;omega))).fr0 hF4).fr hG4 (fun q hq=>a1 q (by have:=k2 q hq;omega))
 · exact((hc3.fr hG3 (fun q hq=>a1 q (by have:=k3 q hq;omega))).fr0 hF4).fr hG4 (fun q hq=>a1 q (by have:=k3 q hq;omega))
 · exact hc4.fr hG4 (fun q hq=>a1 q (by have:=k4 q hq;omega))
 · rw[qH (by omega),qI rfl]
 {
 intro q hq;have:=k2 q hq;have:=hc2.lt q hq;rw[qH (by omega),qH (by omega),qI (by omega)]}
 {
 intro q hq;have:=k3 q hq;have:=hc3.lt q hq;rw[qH (by omega),qH (by omega),qH (by omega),qI (by omega)]}
 {
 intro q hq;have:=k4 q hq;rw[qH (by omega),qH (by omega),qH (by omega),qH (by omega)]}
 {
 intro q hq;simp only[cF,qF,qJ]at hq;rcases hq with rfl|rfl|hq|hq|hq
 · omega
 · omega
 · have:=k2 q hq;omega
 · have:=k3 q hq;omega
 · have:=k4 q hq;omega}
end
end Go.Proofs.YtgmnemndjjmgkaaGreat
namespace Go.Proofs.YtgmnemndjjmgkaaGreat
open Go.RowKit Classical
def thO(p:Nat)(o:Ob):Th:=⟨fun w K=>∃X,X.ob=o/\dS w p X K,fun⟨_,_,h⟩=>h.lt,fun⟨X,e,h⟩ hf hs=>⟨X,e,h.fr hf hs⟩⟩
def thV(v:Value)(l:List Lv):Th:=⟨fun w K=>aS w v l/\K=v.ownBlock.toList,fun⟨h,e⟩ q hq=>h.lt (by simpa[e] using hq),fun⟨h,e⟩ hf hs=>⟨h.fr hf (fun q hq=>hs q (by simp[e,hq])),e⟩⟩
def thU(v:Value)(l:List Nat):Th:=⟨fun w K=>cQ w v l/\K=v.ownBlock.toList,fun⟨h,e⟩ q hq=>h.lt (by simpa[e] using hq),fun⟨h,e⟩ hf hs=>⟨h.fr hf (fun q hq=>hs q (by simp[e,hq])),e⟩⟩
def thB(b:Nat)(t:TypeId)(l:List Value):Th:=⟨fun w K=>Blk w b t l/\K=[b],fun⟨h,e⟩ q hq=>(show q=b by simpa[e] using hq)▸h.lt,fun⟨h,e⟩ hf hs=>⟨hf.blk h (hs b (by simp[e])),e⟩⟩
def bCJ(o:Ob)(l:List Lv):Prop:=l.map dT=o.L/\(l.map (·.slot)).Nodup/\∀e∈l,e.slot<o.E
section
variable {W wr w' :World} {p:Nat} {o:Ob} {ts:List Th}
theorem Wd.rowV{v:Value}{l:List Lv}(h:Wd W wr (thV v l::ts)):aS wr v l:=by obtain⟨K,h,_⟩:=h.get;exact h
theorem Wd.rowU{v:Value}{l:List Nat}(h:Wd W wr (thU v l::ts)):cQ wr v l:=by obtain⟨K,h,_⟩:=h.get;exact h
theorem Wd.blk{b:Nat}{t:TypeId}{l:List Value}(h:Wd W wr (thB b t l::ts)):Blk wr b t l:=by obtain⟨K,h,_⟩:=h.get;exact h
theorem Wd.ob(h:Wd W wr (thO p o::ts)):o.Ok:=by
 obtain⟨K,X,e,hx⟩:=h.get;exact e▸hx.1.ob
theorem wO{X:Wm}{K:List Nat}(h:lV wr w' p X K):Stp wr w' K (thO p X.ob):=by
 obtain⟨K', h1,h2,h3⟩:=h;exact⟨K', ⟨X,rfl,h1⟩,h2,h3⟩
theorem rK{X:Wm}(h:X.Ok)(u v:Nat):iO (X.wp 0) u v=jM X.ob.L u v/\cC X.s u v=eO X.ob.L u v:=by
 rw[show X.ob.L=X.s.L.map dT from rfl,wN,pG];have e0:cC X.s u v=eO X.s.L u v:=by unfold cC eO;simp only[wL h]
 refine⟨?_,e0⟩;unfold jM;by_cases hc:inL X.s.L u/\inL X.s.L v
 {
 have h0:cC X.s u v=0:=by rw[e0];unfold eO;exact qI hc
 obtain⟨a,b,ha,hb,_,_⟩:=sO h0;rw[(aAA h ha hb).2];refine decide_eq_decide.2 ?_;rw[aJR h ha hb];exact⟨fun hr=>⟨hc.1,hc.2,hr⟩,fun hr=>hr.2.2⟩}
 {
 have h0:cC X.s u v≠0:=by rw[e0];unfold eO;rw[qH hc];decide
 unfold iO;rw[show(X.wp 0).s=X.s from rfl,qH h0];exact(qK fun hr=>hc ⟨hr.1,hr.2.1⟩).symm}
theorem aVU{X:Wm}(h:X.Ok)(u:Nat):aCG (X.wp 0) u=(lW X.ob.L u:Nat):=by
 rw[show X.ob.L=X.s.L.map dT from rfl,aHI];have e0:=(rK h u u).2;rw[show X.ob.L=X.s.L.map dT from rfl,pG]at e0;unfold aCG lW;rw[show(X.wp 0).s=X.s from rfl];by_cases hc:inL X.s.L u
 {
 have h0:cC X.s u u=0:=by rw[e0];unfold eO;exact qI ⟨hc,hc⟩
 obtain⟨a,b,ha,hb,hi,_⟩:=sO h0;rw[qI h0,qI hc,hi];show mZ X.V X.G a=_
 unfold mZ;rw[rG h.ok h.hV ha,qI rfl,zM,aQS h ha]}
 {
 have h0:cC X.s u u≠0:=by rw[e0];unfold eO;rw[qH (fun h=>hc h.1)];decide
 rw[qH h0,qH hc];rfl}
theorem aQW{X:Wm}(h:X.Ok):pE X=(oJ X.ob.L:Nat):=by
 rw[show X.ob.L=X.s.L.map dT from rfl,aHJ];unfold pE oJ;have:=aMC h;omega
theorem aQX{X:Wm}(h:X.Ok)(hg:GW X.E X.V X.G)(u v:Nat):fZ (X.wp 0) u v=jZ X.ob.L u v/\jV (X.wp 0) u v=oC X.ob.L u v:=by
 rw[show X.ob.L=X.s.L.map dT from rfl,aAC,aME];have hcc:=rK h u v;rw[show X.ob.L=X.s.L.map dT from rfl,wN,pG]at hcc;rcases aEU h hg u v with⟨h1,h2,h3⟩|⟨h1,h2,h3,h4,a,b,ha,hb,hab,hr⟩
 {
 have hb:jZ X.s.L u v=false:=by {
 refine qK fun hx=>?_;have hc:jM X.s.L u v=true:=qO ⟨hx.1,hx.2.1,hx.2.2.2⟩;rw[<-hcc.1]at hc;rcases h3 with⟨_,h3⟩|⟨_,h3⟩|⟨_,_,h3⟩
 · rw[h3]at hc;cases hc
 · rw[h3]at hc;cases hc
 · exact hx.2.2.1 h3};exact⟨h1.trans hb.symm,by rw[h2,rJ hb]⟩}
 {
 have hb' :jZ X.s.L u v=true:=by {
 rw[hcc.1]at h3;have hx:=of_decide_eq_true h3;exact qO ⟨hx.1,hx.2.1,h4,hx.2.2⟩};exact⟨h1.trans hb'.symm,(aJS hb' ((aMB h ha hb).1 hr)).symm⟩}
end
section
variable {W wr w' :World} {p:Nat} {o:Ob} {ts:List Th}
theorem bAJ(h:Wd W wr (thO p o::ts)):Calls Tryz.prog 16 #[aN p] wr fun e w' =>e=.returned (.int .i64 o.now)/\w' =wr:=by
 obtain⟨K,X,rfl,h1⟩:=h.get;exact aJO h1
theorem aVV(h:Wd W wr (thO p o::ts))(u v:Nat)(hu:u<18446744073709551616)(hv:v<18446744073709551616):
    Calls Tryz.prog 15 #[aN p,.int .u64 u,.int .u64 v] wr fun e w' =>e=.returned (.tuple #[.bool (jM o.L u v),.int .i64 (eO o.L u v)])/\Wd W w' (thO p o::ts):=by
 obtain⟨K,⟨X,rfl,h1⟩,hs⟩:=h.open;obtain⟨e1,e2⟩:=rK h1.1 u v;rw[<-e1,<-e2];exact(aQM h1 u v hu hv).mono fun _ _ k=>⟨k.1,hs (wO k.2)⟩
theorem aQY(h:Wd W wr (thO p o::ts))(u v:Nat)(hu:u<18446744073709551616)(hv:v<18446744073709551616):
    Calls Tryz.prog 14 #[aN p,.int .u64 u,.int .u64 v] wr fun e w' =>e=.returned (.tuple #[.int .i64 (oC o.L u v),.bool (jZ o.L u v),.int .i64 (eO o.L u v)])/\Wd W w' (thO p o::ts):=by
 obtain⟨K,⟨X,rfl,h1⟩,hs⟩:=h.open;have hg:GW X.E X.V X.G:=by obtain⟨_,pc,ps,px,pf,nq,Ks,lx,Lf,cl,hB,_⟩:=h1;exact hB.fo.gw.1
 obtain⟨e1,e2⟩:=aQX h1.1 hg u v;rw[<-e1,<-e2,<-(rK h1.1 u v).2];exact(zW h1 u v hu hv).mono fun _ _ k=>⟨k.1,hs (wO k.2)⟩
theorem aVW(h:Wd W wr (thO p o::ts))(u:Nat)(hu:u<18446744073709551616):
    Calls Tryz.prog 26 #[aN p,.int .u64 u] wr fun e w' =>e=.returned (.tuple #[.int .i64 (lW o.L u:Nat),.int .i64 (eO o.L u u)])/\Wd W w' (thO p o::ts):=by
 obtain⟨K,⟨X,rfl,h1⟩,hs⟩:=h.open;rw[<-aVU h1.1 u,<-(rK h1.1 u u).2];obtain⟨hok,pc,ps,px,pf,nq,Ks,lx,Lf,cl,hB,rfl⟩:=h1;exact(aVS hB u hu).mono fun _ _ k=>⟨k.1,hs (wO (aHG hok k.2))⟩
theorem aQZ(h:Wd W wr (thO p o::ts)):Calls Tryz.prog 18 #[aN p] wr fun e w' =>e=.returned (.tuple #[.int .i64 o.L.length,.int .i64 (bD o.L).length,.int .i64 (oJ o.L:Nat)])/\Fr [] wr w' :=by
 obtain⟨K,X,rfl,h1⟩:=h.get;rw[<-aQW h1.1,sP,show X.ob.L=X.s.L.map dT from rfl,kU,<-h1.1.ids_len];exact zX h1
theorem aRA(h:Wd W wr (thO p o::ts)):Calls Tryz.prog 23 #[aN p] wr fun e w' =>e=.returned (.tuple #[.int .u64 o.last,.int .u64 o.gone])/\Fr [] wr w' :=by
 obtain⟨K,X,rfl,hok,pc,ps,px,pf,nq,Ks,lx,Lf,cl,hB,rfl⟩:=h.get;exact aQV hB
theorem aHM(h:Wd W wr (thO p o::ts)):Calls Tryz.prog 22 #[aN p] wr fun e w' =>e=.returned (.int .u64 (o.last+o.gone:Nat))/\Fr [] wr w' :=by
 obtain⟨K,X,rfl,hok,pc,ps,px,pf,nq,Ks,lx,Lf,cl,hB,rfl⟩:=h.get;exact aHK hB (by have h1:=hok.last;have h2:=hok.max;show X.s.last+X.gone<_;omega)
theorem aMI(h:Wd W wr (thO p o::ts)):Calls Tryz.prog 33 #[aN p] wr fun e w' =>e=.returned (.agg #[.int .i64 o.m,.int .i64 o.E,.int .i64 o.V,.int .i64 o.D])/\Fr [] wr w' :=by
 obtain⟨K,X,rfl,hok,pc,ps,px,pf,nq,Ks,lx,Lf,cl,hB,rfl⟩:=h.get;exact aMH hB
theorem aVX(h:Wd W wr (thO p o::ts)):Calls Tryz.prog 19 #[aN p] wr fun e w' =>∃v l,e=.returned v/\bCJ o l/\Wd W w' (thV v l::thO p o::ts):=by
 obtain⟨K,X,rfl,hok,pc,ps,px,pf,nq,Ks,lx,Lf,cl,hB,rfl⟩:=h.get;refine(aUX hB).mono ?_;rintro _ w' ⟨v,rfl,h1,h2,h3⟩;refine⟨v,X.s.L,rfl,⟨rfl,hok.ok.one,fun e he=>?_⟩,h.new h3 ⟨h1,rfl⟩ (fun q hq=>h2 q (by simpa using hq))⟩;have hu:=(hok.ok.used e.slot).2 ⟨e,he,rfl⟩;have h4:=hok.ok.ar.hb;have h5:=hok.ok.sl;have h6:=hok.hE;have h7:e.slot<X.s.A.begun:=hu.1;show e.slot<X.E
 omega
theorem bAK(h:Wd W wr (thO p o::ts)):Calls Tryz.prog 24 #[aN p] wr fun e w' =>∃v,e=.returned v/\Wd W w' (thU v (bD o.L)::thO p o::ts):=by
 obtain⟨K,X,rfl,hok,pc,ps,px,pf,nq,Ks,lx,Lf,cl,hB,rfl⟩:=h.get;refine(aZR hB).mono ?_;rintro _ w' ⟨v,rfl,h1,h2,h3⟩;have e:(X.wp nq).s.ids=bD X.ob.L:=by rw[show X.ob.L=X.s.L.map dT from rfl,kU];exact hok.ids_eq
 rw[e]at h1;exact⟨v,rfl,h.new h3 ⟨h1,rfl⟩ (fun q hq=>h2 q (by simpa using hq))⟩
theorem aVY(h:Wd W wr (thO p o::ts)):Calls Tryz.prog 20 #[aN p] wr fun e w' =>∃b,e=.returned (aN b)/\Wd W w' (thO b o::thO p o::ts):=by
 obtain⟨K,X,rfl,hok,pc,ps,px,pf,nq,Ks,lx,Lf,cl,hB,rfl⟩:=h.get;refine(aVT hB).mono ?_;rintro _ w' ⟨b,rfl,pc', ps', px', pf', Ks', lx', Lf', cl', hB', hF,hn⟩;exact⟨b,rfl,h.new hF ⟨X,rfl,hok,pc', ps', px', pf', nq,Ks', lx', Lf', cl', hB', rfl⟩ hn⟩
theorem aVZ(h:Wd W wr (thO p o::ts))(to:Int)(h1:-9223372036854775808<=to)(h2:to<=9223372036854775807):
    Calls Tryz.prog 17 #[aN p,.int .i64 to] wr fun e w' =>e=.returned (.int .i64 (cN o.m o.now to))/\Wd W w' (thO p (o.tickS to)::ts):=by
 obtain⟨K,⟨X,rfl,k1⟩,hs⟩:=h.open;unfold Ob.tickS;by_cases hc:cN X.m X.now to=0
 {
 rw[show cN X.ob.m X.ob.now to=0 from hc,qI rfl];refine(aQL k1 to h1 h2 hc).mono ?_;rintro _ w' ⟨rfl,ds,Q', hm,k⟩;have:=wO k;rw[aCF k1.1 hm]at this;exact⟨rfl,hs this⟩}
 {
 rw[qH (show ¬cN X.ob.m X.ob.now to=0 from hc)];refine(aER k1 to h1 h2 hc).mono ?_;rintro _ _ ⟨rfl,rfl⟩;exact⟨rfl,h⟩}
end
end Go.Proofs.YtgmnemndjjmgkaaGreat
namespace Go.Proofs.YtgmnemndjjmgkaaGreat
open Go.RowKit
section
variable {w w' :World} {pw:Nat} {W:Wm} {K:List Nat}
theorem aCH(h:dS w pw W K)(u:Nat)(wt t:Int):Calls Tryz.prog 21 #[aN pw,iK u u wt t] w fun e w' =>e=.returned (.int .i64 9)/\Fr [] w w' :=by
 have h1:=h.fr0 ((Fr.refl [] w).alloc (.cells #[.int .u64 u,.int .u64 u,.int .i64 wt,.int .i64 t] 42));obtain⟨hok,pc,ps,px,pf,nq,Ks,lx,Lf,cl,hB1,rfl⟩:=h1;have hbx:=Blk.new w [.int .u64 u,.int .u64 u,.int .i64 wt,.int .i64 t] 42;have HF:=qB ((Fr.refl [] w).alloc (.cells #[.int .u64 u,.int .u64 u,.int .i64 wt,.int .i64 t] 42));have HV:=qB (dH hB1);have r0:=hbx.cell 0;have r1:=hbx.cell 1;simp only[zS,zT]at r0 r1;clear hB1 hbx h hok;go_enter Tryz.func21,Tryz.ntmps21
 go_wp2_with fail
 refine HV.out.mono ?_;rintro _ w1 ⟨rfl,rfl⟩;go_wp2
 go_ret;exact⟨rfl,HF.out⟩
theorem aHN(h:dS w pw W K)(u v:Nat)(hne:u≠v)(wt t:Int)(ht1:-9223372036854775808<=t)(ht2:t<=9223372036854775807)(hc:cN W.m W.now t≠0):
    Calls Tryz.prog 21 #[aN pw,iK u v wt t] w fun e w' =>e=.returned (.int .i64 (cN W.m W.now t))/\Fr [] w w' :=by
 have h1:=h.fr0 ((Fr.refl [] w).alloc (.cells #[.int .u64 u,.int .u64 v,.int .i64 wt,.int .i64 t] 42));have hbx:=Blk.new w [.int .u64 u,.int .u64 v,.int .i64 wt,.int .i64 t] 42;obtain⟨w1,hw1⟩:∃w1,w1=w.alloc (.cells #[.int .u64 u,.int .u64 v,.int .i64 wt,.int .i64 t] 42):=⟨_,rfl⟩;rw[show w.alloc (.cells [.int .u64 u,.int .u64 v,.int .i64 wt,.int .i64 t].toArray 42)=w.alloc (.cells #[.int .u64 u,.int .u64 v,.int .i64 wt,.int .i64 t] 42) from rfl]at hbx;have HF:=qB ((Fr.refl [] w).alloc (.cells #[.int .u64 u,.int .u64 v,.int .i64 wt,.int .i64 t] 42));rw[<-hw1]at hbx h1 HF;obtain⟨hok,pc,ps,px,pf,nq,Ks,lx,Lf,cl,hB1,rfl⟩:=h1;have HV:=qB (dH hB1);have HCk:=qB (fun(nq:Nat)=>nB (hB1.clk.fr0 ((Fr.refl [] w1).drewN nq)) t ht1 ht2);rw[show cN (W.wp nq).m (W.wp nq).now t=cN W.m W.now t from rfl]at HCk;have c4:=hB1.hd.cell 4;have r0:=hbx.cell 0;have r1:=hbx.cell 1;have r3:=hbx.cell 3;simp only[zS,zT]at c4 r0 r1 r3;generalize cN W.m W.now t=c at *;have d1:((u:Int) == v)=false:=by simp;omega
 have d4:(c != 0)=true:=by simp[hc]
 clear h hok hB1 hbx hc;go_enter Tryz.func21,Tryz.ntmps21
 obtain⟨xb,hxb⟩:∃xb,xb=w.heap.size:=⟨_,rfl⟩;have HW1:=qB hw1;rw[hw1]at r0 r1 HV;clear hw1;go_wp2_with fail
 refine HV.out.mono ?_;rintro _ _ ⟨rfl,rfl⟩;go_wp2_with fail
 rw[<-HW1.out,<-hxb];rw[<-HW1.out]at r0 r1;rw[<-hxb]at r0 r1 r3;clear hxb HV HW1;refine bA 6 (fun w' =>∃nq,w' =w1.drewN nq) (by kernel_rfl) (by kernel_rfl) (by kernel_rfl) ?_;iterate 6 (refine bM (by decide) (fun K hK=>?_);go_simp;refine hK _ ?_;clear hK K)
 refine aO rfl (.int .i64 c) (fun w' hw' =>?_) ?_
 {
 obtain⟨nq,rfl⟩:=hw';go_simp;refine(HCk.out nq).mono ?_;rintro _ _ ⟨rfl,rfl⟩;exact⟨rfl,nq,rfl⟩};iterate 1 (refine eU (by decide) (fun K hK=>?_);go_simp;refine hK _ ?_;clear hK K)
 refine bN ?_;rintro _ ⟨nq2,rfl⟩;have HF02:=qB (HF.out.drewN nq2);clear c4 r0 r1 r3 HCk HF;generalize w1.drewN nq2=W2 at *;go_wp2
 go_ret;exact⟨rfl,HF02.out⟩
theorem aCI(h:dS w pw W K)(u v:Nat)(hne:u≠v)(wt t:Int)(ht1:-9223372036854775808<=t)(ht2:t<=9223372036854775807)(hc:cN W.m W.now t=0)(hl:9223372036854775807<=W.s.last):
    Calls Tryz.prog 21 #[aN pw,iK u v wt t] w fun e w' =>e=.returned (.int .i64 7)/\Fr [] w w' :=by
 have h1:=h.fr0 ((Fr.refl [] w).alloc (.cells #[.int .u64 u,.int .u64 v,.int .i64 wt,.int .i64 t] 42));have hbx:=Blk.new w [.int .u64 u,.int .u64 v,.int .i64 wt,.int .i64 t] 42;obtain⟨w1,hw1⟩:∃w1,w1=w.alloc (.cells #[.int .u64 u,.int .u64 v,.int .i64 wt,.int .i64 t] 42):=⟨_,rfl⟩;rw[show w.alloc (.cells [.int .u64 u,.int .u64 v,.int .i64 wt,.int .i64 t].toArray 42)=w.alloc (.cells #[.int .u64 u,.int .u64 v,.int .i64 wt,.int .i64 t] 42) from rfl]at hbx;have HF:=qB ((Fr.refl [] w).alloc (.cells #[.int .u64 u,.int .u64 v,.int .i64 wt,.int .i64 t] 42));rw[<-hw1]at hbx h1 HF;obtain⟨hok,pc,ps,px,pf,nq,Ks,lx,Lf,cl,hB1,rfl⟩:=h1;have HV:=qB (dH hB1);have HCk:=qB (fun(nq:Nat)=>nB (hB1.clk.fr0 ((Fr.refl [] w1).drewN nq)) t ht1 ht2);rw[show cN (W.wp nq).m (W.wp nq).now t=0 from hc]at HCk;have c4:=hB1.hd.cell 4;have c8:=hB1.hd.cell 8;have r0:=hbx.cell 0;have r1:=hbx.cell 1;have r3:=hbx.cell 3;simp only[zS,zT]at c4 c8 r0 r1 r3;rw[show(W.wp nq).added=W.s.last from rfl]at c8;have d1:((u:Int) == v)=false:=by simp;omega
 have d2:decide ((W.s.last:Int)≥9223372036854775807)=true:=qO (by omega);have d3:decide (W.s.last≥9223372036854775807)=true:=qO (by omega);clear h hok hB1 hbx hc;go_enter Tryz.func21,Tryz.ntmps21
 obtain⟨xb,hxb⟩:∃xb,xb=w.heap.size:=⟨_,rfl⟩;have HW1:=qB hw1;rw[hw1]at r0 r1 HV;clear hw1;go_wp2_with fail
 refine HV.out.mono ?_;rintro _ _ ⟨rfl,rfl⟩;go_wp2_with fail
 rw[<-HW1.out,<-hxb];rw[<-HW1.out]at r0 r1;rw[<-hxb]at r0 r1 r3;clear hxb HV HW1;refine bA 6 (fun w' =>∃nq,w' =w1.drewN nq) (by kernel_rfl) (by kernel_rfl) (by kernel_rfl) ?_;iterate 6 (refine bM (by decide) (fun K hK=>?_);go_simp;refine hK _ ?_;clear hK K)
 refine aO rfl (.int .i64 0) (fun w' hw' =>?_) ?_
 {
 obtain⟨nq,rfl⟩:=hw';go_simp;refine(HCk.out nq).mono ?_;rintro _ _ ⟨rfl,rfl⟩;exact⟨rfl,nq,rfl⟩};iterate 1 (refine eU (by decide) (fun K hK=>?_);go_simp;refine hK _ ?_;clear hK K)
 refine bN ?_;rintro _ ⟨nq2,rfl⟩;have HF02:=qB (HF.out.drewN nq2);have c8:=((Fr.refl [] w1).drewN nq2).cell c8 (by simp);clear c4 r0 r1 r3 HCk HF;generalize w1.drewN nq2=W2 at *;go_wp2
 go_ret;exact⟨rfl,HF02.out⟩
end
section
variable {W wr w' :World} {p:Nat} {o:Ob} {ts:List Th}
theorem bAL(h:Wd W wr (thO p o::ts))(u v:Nat)(hu:u<18446744073709551616)(hv:v<18446744073709551616)(wt t:Int)(ht1:-9223372036854775808<=t)(ht2:t<=9223372036854775807):
    Calls Tryz.prog 21 #[aN p,iK u v wt t] wr fun e w' =>e=.returned (.int .i64 (o.addC u v t:Nat))/\Wd W w' (thO p (o.add u v wt t)::ts):=by
 obtain⟨K,⟨X,rfl,k1⟩,hs⟩:=h.open;by_cases hne:u=v
 {
 subst hne;have e:X.ob.addC u u t=9:=by unfold Ob.addC;exact qI rfl
 unfold Ob.add;rw[e,qH (by decide)];exact(aCH k1 u wt t).mono fun _ _ k=>⟨k.1,h.fr0 k.2⟩}
 {
 by_cases hc:cN X.m X.now t=0
 {
 obtain⟨q1,q2⟩:=nT hc;by_cases hl:X.s.last<9223372036854775807
 {
 refine(aCC k1 u v hu hv hne wt t ht1 ht2 hc hl).mono ?_;rintro _ w' ⟨c,rfl,ds,Q', hm,hres⟩;have e:=aMG k1.1 hne hc hl hm;rcases hres with⟨g1,_,g2,g3⟩|⟨g1,g2,a,b,_,_,g3⟩
 {
 have e' :X.ob.addC u v t=c:=e.trans g2.symm;refine⟨by rw[e'],?_⟩;unfold Ob.add;rw[e', qH g1];exact h.fr0 g3}
 {
 have e' :X.ob.addC u v t=0:=e.trans g2;subst g1;refine⟨by rw[e'],?_⟩;unfold Ob.add;rw[e', qI rfl];have:=wO g3;rw[bAG,aCF k1.1 hm]at this;exact hs this}}
 {
 have e:X.ob.addC u v t=7:=by {
 unfold Ob.addC;rw[qH hne,qH (show ¬t<X.ob.now by show ¬t<X.now;omega),qI (.inr (by show _<=X.s.last;omega))]};unfold Ob.add;rw[e,qH (by decide)];exact(aCI k1 u v hne wt t ht1 ht2 hc (by omega)).mono fun _ _ k=>⟨k.1,h.fr0 k.2⟩}}
 {
 have e:((X.ob.addC u v t:Nat):Int)=cN X.m X.now t:=by {
 unfold Ob.addC cN eQ;rw[qH hne];by_cases h1:t<X.now
 · rw[qI (show t<X.ob.now from h1),qI h1];rfl
 {
 have h2:¬t+X.m<=9223372036854775807:=fun hh=>hc (by unfold cN eQ;rw[qH h1,qI hh]);rw[qH (show ¬t<X.ob.now from h1),qH h1,qH h2,qI (.inl (by show _<t+X.m;omega))];rfl}};have e0:X.ob.addC u v t≠0:=fun hh=>hc (by rw[<-e,hh];rfl);unfold Ob.add;rw[qH e0,e];exact(aHN k1 u v hne wt t ht1 ht2 hc).mono fun _ _ k=>⟨k.1,h.fr0 k.2⟩}}
end
structure Og (o:Ob) (k:Nat):Prop where
  ok:o.Ok
  m:o.m=20
  E:o.E=40
  V:o.V=12
  D:o.D=0
  now:o.now<=3*k
  id:∀e∈o.L,e.u<12/\e.v<12
  last:o.last<=k
section
variable {o:Ob} {k:Nat}
end
def aRB(u v u' v' :Nat)(wt t wt' t' :Int):Bool:=(u == u')&&(v == v')&&(wt == wt')&&(t == t')
theorem aAD(u v:Nat)(wt t:Int):aRB u v u v wt t wt t=true:=by simp[aRB]
@[go_sem high] theorem bAM(u v u' v' :Nat)(wt t wt' t' :Int)(w:World):(Op.equalIn 10000 42 (.agg #[.int .u64 u,.int .u64 v,.int .i64 wt,.int .i64 t]) (.agg #[.int .u64 u', .int .u64 v', .int .i64 wt', .int .i64 t'])).run Tryz.prog w=.ok (aRB u v u' v' wt t wt' t') w:=by
 have hc:∀(a b:Nat),((a:Int) == (b:Int))=(a == b):=fun a b=>by rw[Bool.eq_iff_iff];simp only[beq_iff_eq];omega
 rw[show(10000:Nat)=9999+1 from rfl,run_equalIn_struct w 9999 _ _ _ (by kernel_rfl) (by kernel_rfl)];unfold aRB;simp only[Program.fieldsOf,Tryz.underlying42,Op.eqFields];go_simp;by_cases h1:u=u' <;> by_cases h2:v=v' <;> by_cases h3:wt=wt' <;> by_cases h4:t=t' <;> simp[h1,h2,h3,h4]
@[go_sem] theorem aXY(op:BinOp)(x y:Operand)(xs ys:Array Value)(w:World):(eqGuard op 42 x y (.agg xs) (.agg ys)).run Tryz.prog w=.ok () w:=run_eqGuard_agg w op 42 x y xs ys (by kernel_rfl)
theorem Fr.of_drewN37(w:World)(k:Nat):Fr [] w (w.drewN k):=(Fr.refl [] w).drewN k
theorem aEX(w:World)(a b:Nat):(w.drewN a).drewN b=w.drewN (a+b):=by
 unfold World.drewN;simp[Nat.add_assoc]
theorem aWA{x y:Lv}(h:dT x=dT y):y.seq=x.seq/\y.u=x.u/\y.v=x.v/\y.wt=x.wt/\y.t=x.t/\y.x=x.x:=by
 unfold dT at h;simp only[Lv.mk.injEq,true_and]at h;obtain⟨h1,h2,h3,h4,h5,h6⟩:=h;exact⟨h1.symm,h2.symm,h3.symm,h4.symm,h5.symm,h6.symm⟩
theorem aWB{w:World}{v u:Value}{p q:List Lv}{n:Nat}(hv:aS w v p)(hu:aS w u q)(hpq:p.map dT=q.map dT)(hn:(p.map (·.slot)).Nodup)(hlt:∀e∈p,e.slot<n)(hp:p.length<=65536):
    Calls Tryz.prog 25 #[v,u,.int .i64 n] w fun e w' =>e=.returned (.bool true)/\Fr [] w w' :=by
 have hl:p.length=q.length:=by have:=congrArg List.length hpq;simpa using this
 obtain⟨a1,c1,rfl⟩:=hv.slice;obtain⟨a2,c2,rfl⟩:=hu.slice;have HV:=qB hv;clear hv;have HU:=qB hu;clear hu;have HP:=qB (zR hpq (zR hn hlt));clear hpq hn hlt;have hb:((p.length:Int) != (q.length:Int))=false:=by simp;omega
 go_enter Tryz.func25,Tryz.ntmps25
 go_wp2
 go_loopw [7] (fun x wr=>∃i:Nat,i<=p.length/\x=.int .i64 i/\(∃k,wr=w.drewN k)) (fun x _=>p.length-(intOf x).toNat)
 case atStart=>exact⟨0,zB _,rfl,⟨0,rfl⟩⟩
 case round=>
  obtain⟨i,hi,rfl,⟨k,rfl⟩⟩:=hrel;by_cases hlt:i<p.length
  {
  obtain⟨b1,c1', e1,_,_,_,r1⟩:=HV.out.at hlt;obtain⟨b2,c2', e2,_,_,_,r2⟩:=HU.out.at (show i<q.length by omega);simp only[qY,true_and]at e1 e2;obtain⟨rfl,rfl⟩:=e1;obtain⟨rfl,rfl⟩:=e2;have hi1:(i:Int)<p.length:=by omega
  have hi2:(i:Int)<q.length:=by omega
  have hi0:(0:Int)<=i:=by omega
  have hc:dT (p[i]'hlt)=dT (q[i]'(by omega)):=by {
  have h1:(p.map dT)[i]? =(q.map dT)[i]? :=by rw[HP.out.1]
  rw[List.getElem?_map,List.getElem?_map,qT hlt,qT (show i<q.length by omega)]at h1;exact Option.some.inj h1};obtain⟨g1,g2,g3,g4,g5,g6⟩:=aWA hc;have hsl:=HP.out.2.2 _ (List.getElem_mem hlt);have hgp:p[i]? =some (p[i]'hlt):=qT hlt;have Hg:=qB hgp;clear hgp;unfold aNO at r1 r2;rw[g1,g2,g3,g4,g5,g6]at r2;clear hc g1 g2 g3 g4 g5 g6;generalize p[i]'hlt=x at *;generalize (q[i]'(by omega)).slot=ys at *;obtain⟨x0,x1,x2,x3,x4,x5,x6⟩:=r1;obtain⟨y0,y1,y2,y3,y4,y5,y6⟩:=r2;have hre:=aAD x.u x.v x.wt x.t;have hs0:decide ((x.slot:Int)<0)=false:=qK (by omega);have hs1:decide ((x.slot:Int)≥n)=false:=qK (by omega);have hs2:decide (x.slot≥n)=false:=qK (by omega);go_wp2
  go_quiet (fail)
  clear x0 x1 x2 x3 x4 x5 x6 y0 y1 y2 y3 y4 y5 y6 hre hs0 hs1 hs2;go_wp2_with fail
  rename_i nq;go_loopw [8] (fun xj wr=>∃j:Nat,j<=i/\xj=.int .i64 j/\(∃k,wr=w.drewN k)) (fun xj _=>i-(intOf xj).toNat)
  case atStart=>exact⟨0,zB _,rfl,⟨_,aEX _ _ _⟩⟩
  case round=>
   obtain⟨j,hj,rfl,⟨k', rfl⟩⟩:=hrel;by_cases hji:j<i
   {
   obtain⟨b1', c1', e1,_,_,_,r1⟩:=HV.out.at hlt;obtain⟨b2', c2', e2,_,_,_,r2⟩:=HV.out.at (show j<p.length by omega);simp only[qY,qQ,Addr.mk.injEq,and_true,true_and]at e1 e2;obtain⟨rfl,rfl⟩:=e1;obtain⟨rfl,rfl⟩:=e2;have hji0:(j:Int)<i:=by omega
   have hj1:(j:Int)<p.length:=by omega
   have hj0:(0:Int)<=j:=by omega
   have hds:(((p[i]'hlt).slot:Int) == (p[j]'(by omega)).slot)=false:=by {
   have:=(List.pairwise_iff_getElem.1 (List.pairwise_map.1 HP.out.2.1)) j i (by omega) hlt hji;simp only[zA,ne_eq];omega};obtain⟨x0,_⟩:=r1;obtain⟨y0,_⟩:=r2;generalize (p[i]'hlt).slot=xs at *;generalize (p[j]'(by omega)).slot=ys' at *;go_wp2
   go_quiet (fail)
   clear x0 y0 hds;go_wp2_with fail
   go_roundw
   case rel=>exact⟨j+1,by omega,by go_num,⟨_,rfl⟩⟩
   case measure=>simp[intOf];omega}
   {
   have hji0:¬(j:Int)<i:=by omega
   go_wp2_with fail
   go_roundw
   case rel=>exact⟨i+1,by omega,by go_num,⟨_,rfl⟩⟩
   case measure=>simp[intOf];omega}}
  {
  obtain rfl:i=p.length:=by omega
  go_wp2
  go_ret;exact⟨rfl,Fr.of_drewN37 w k⟩}
theorem aWC{w:World}{v u:Value}{p:List Nat}(hv:cQ w v p)(hu:cQ w u p)(hp:p.length<=65536):
    Calls Tryz.prog 31 #[v,u] w fun e w' =>e=.returned (.bool true)/\Fr [] w w' :=by
 obtain⟨a1,c1,rfl⟩:=hv.slice;obtain⟨a2,c2,rfl⟩:=hu.slice;have HV:=qB hv;clear hv;have HU:=qB hu;clear hu;go_enter Tryz.func31,Tryz.ntmps31
 go_wp2
 go_loopw [5] (fun x wr=>∃i:Nat,i<=p.length/\x=.int .i64 i/\(∃k,wr=w.drewN k)) (fun x _=>p.length-(intOf x).toNat)
 case atStart=>exact⟨0,zB _,rfl,⟨0,rfl⟩⟩
 case round=>
  obtain⟨i,hi,rfl,⟨k,rfl⟩⟩:=hrel;by_cases hlt:i<p.length
  {
  obtain⟨b1,c1', e1,_,r1⟩:=HV.out.at hlt;obtain⟨b2,c2', e2,_,r2⟩:=HU.out.at hlt;simp only[qY,true_and]at e1 e2;obtain⟨rfl,rfl⟩:=e1;obtain⟨rfl,rfl⟩:=e2;have hi1:(i:Int)<p.length:=by omega
  have hi0:(0:Int)<=i:=by omega
  generalize p[i]'hlt=x at *;go_wp2
  go_quiet (fail)
  go_wp2
  go_roundw
  case rel=>exact⟨i+1,by omega,by go_num,⟨_,rfl⟩⟩
  case measure=>simp[intOf];omega}
  {
  obtain rfl:i=p.length:=by omega
  go_wp2
  go_ret;exact⟨rfl,Fr.of_drewN37 w k⟩}
theorem nG{w:World}{v:Value}{l:List Nat}(h:cQ w v l)(id:Nat)(hl:l.length<=65536):Calls Tryz.prog 128 #[v,.int .u64 id] w fun e w' =>e=.returned (.bool (decide (id∈l)))/\w' =w:=by
 obtain⟨a,c,rfl⟩:=h.slice;have H:=qB h;clear h;go_enter Tryz.func128,Tryz.ntmps128
 go_wp2
 go_loopw [5] (fun x wr=>∃i:Nat,i<=l.length/\x=.int .i64 i/\wr=w/\Hid (id∉l.take i)) (fun x _=>l.length-(intOf x).toNat)
 case atStart=>exact⟨0,zB _,rfl,rfl,qB (by simp)⟩
 case round=>
  obtain⟨i,hi,rfl,rfl,HN⟩:=hrel;rename World=>w
  by_cases hlt:i<l.length
  {
  obtain⟨b1,c1', e1,_,r1⟩:=H.out.at hlt;simp only[qY,true_and]at e1;obtain⟨rfl,rfl⟩:=e1;have hi1:(i:Int)<l.length:=by omega
  have hi0:(0:Int)<=i:=by omega
  have hst:l.take (i+1)=l.take i++[l[i]'hlt]:=by rw[List.take_add_one,qT hlt];rfl
  have hmem:=List.getElem_mem hlt;generalize l[i]'hlt=x at *;by_cases hx:x=id
  {
  have e1:((x:Int) == id)=true:=by simp;omega
  have hd:decide (id∈l)=true:=qO (by rw[<-hx];exact hmem);have Hd:=qB hd;clear hx hst hmem hd;go_wp2
  go_ret;exact⟨by rw[Hd.out];rfl,rfl⟩}
  {
  have e1:((x:Int) == id)=false:=by simp;omega
  have hn:Hid (id∉l.take (i+1)):=qB (by
    rw[hst,qJ,qP];rintro(h|h)
    · exact HN.out h
    · exact hx h.symm)
  clear hx hst hmem;go_wp2
  go_roundw
  case rel=>exact⟨i+1,by omega,by go_num,trivial,hn⟩
  case measure=>simp[intOf];omega}}
  {
  obtain rfl:i=l.length:=by omega
  have hd:decide (id∈l)=false:=qK (by have:=HN.out;rwa[List.take_length]at this);have Hd:=qB hd;clear hd;go_wp2
  go_ret;exact⟨by rw[Hd.out];rfl,rfl⟩}
def atN(l:List Nat)(x i:Nat):List Nat:=l.take i++x::l.drop i
theorem nU(l:List Nat)(x i:Nat):(atN l x i).length=l.length+1:=by
 unfold atN;simp only[zO,zI,List.length_take,List.length_drop];omega
theorem aWD(l:List Nat)(x:Nat):atN l x l.length=l++[x]:=by
 unfold atN;rw[List.take_length,List.drop_length]
theorem atN_self? {l:List Nat}{x i:Nat}(hi:i<=l.length):(atN l x i)[i]? =some x:=by
 unfold atN;rw[List.getElem?_append_right (by rw[List.length_take];omega)];simp[List.length_take,Nat.min_eq_left hi]
theorem aRC{l:List Nat}{x i:Nat}(hi:i<=l.length)(h:i<(atN l x i).length):(atN l x i)[i]'h=x:=
  Option.some.inj ((qT h).symm.trans (atN_self? hi))
theorem atN_prev? {l:List Nat}{x i:Nat}(hi:i<l.length):(atN l x (i+1))[i]? =some l[i]:=by
 unfold atN;rw[List.getElem?_append_left (by rw[List.length_take];omega),List.getElem?_take,qI (by omega),qT hi]
theorem aRD{l:List Nat}{x i:Nat}(hi:i<l.length)(h:i<(atN l x (i+1)).length):(atN l x (i+1))[i]'h=l[i]:=
  Option.some.inj ((qT h).symm.trans (atN_prev? hi))
theorem aRE{l:List Nat}{x i:Nat}(hi:i<l.length):((atN l x (i+1)).set (i+1) l[i]).set i x=atN l x i:=by
 unfold atN;have e1:l.take (i+1)=l.take i++[l[i]]:=by rw[List.take_add_one,qT hi];rfl
 have e2:l.drop i=l[i]::l.drop (i+1):=List.drop_eq_getElem_cons hi;have hl:(l.take i).length=i:=by rw[List.length_take];omega
 rw[e1,e2,List.append_assoc];rw[List.set_append_right _ _ (by omega),List.set_append_right _ _ (by omega),hl];rw[show i+1-i=1 by omega,show i-i=0 by omega];rfl
theorem aEY:∀{l m:List Nat} {x:Nat},(∀y∈l,y<x)->cP x (l++m)=l++cP x m
  | [],_,_,_=>rfl
  | a::r,m,x,h=>by
    have ha:=h a (by simp);rw[zL];show(if x=a then _ else if x<a then _ else a::cP x (r++m))=_
    rw[qH (by omega),qH (by omega),aEY fun y hy=>h y (by simp[hy])];rfl
theorem aHO{m:List Nat}{x:Nat}(h:∀y∈m,x<y):cP x m=x::m:=by
 cases m with
 | nil=>rfl
 | cons a r=>{
 have:=h a (by simp);show(if x=a then _ else if x<a then _ else _)=_
 rw[qH (by omega),qI this]}
theorem rL:∀{l:List Nat} {x:Nat},l.Pairwise (· < ·)->x∈l->cP x l=l
  | [],_,_,h=>by cases h
  | a::r,x,hp,h=>by
    have hp' :=List.pairwise_cons.1 hp;show(if x=a then a::r else if x<a then x::a::r else a::cP x r)=_
    by_cases e:x=a
    · rw[qI e]
    · have hx : x ∈ r := (qF.1 h).resolve_left e
      have:=hp'.1 x hx;rw[qH e,qH (by omega),rL hp'.2 hx]
theorem aRF{l:List Nat}{x i:Nat}(hp:l.Pairwise (· < ·))(hi:i<=l.length)(hx:x∉l)(h1:∀y∈l.drop i,x<y)(h2:∀j (hj:j<l.length),j+1=i->l[j]<x):atN l x i=cP x l:=by
 have hlow:∀y∈l.take i,y<x:=by {
 intro y hy;obtain⟨k,hk,rfl⟩:=List.mem_iff_getElem.1 hy;rw[List.length_take]at hk;rw[List.getElem_take];cases i with
 | zero=>omega
 | succ i=>{
 have h3:=h2 i (by omega) rfl;by_cases e:k=i
 · subst e;exact h3
 {
 have:=(List.pairwise_iff_getElem.1 hp) k i (by omega) (by omega) (by omega);omega}}};have e:=List.take_append_drop i l;conv=>rhs;rw[<-e]
 rw[aEY hlow,aHO h1];rfl
theorem oK{P:Program}{w:World}{ops:Array Oper}{rest:List Oper}{o:Oper}{a:Act}{Q:Exit->Act->World->Prop}(hgd:o.guard=none)(s x:Operand)(t:TypeId)
    (ho:o.op=.call { callee:=.builtin .append,args:=#[s,x],argTypes:=#[t,t] })
    (e:TypeId) (z:Value) (size bytes:Nat) (ht:P.underlying t=some (.slice e)) (hinfo:(P.info? e).map (fun i=>(i.zero,i.size,i.bytes))=some (some z,size,bytes)) (hzs:z.cells.size=size) (hsz:0<size)
    (g:Nat) (hs:a.eval s=.slice (some ⟨g,0,none⟩) 0 0) (hg:Blk w g e []) (v:Value) (m:Nat) (news:List Value) (hv:a.eval x=v) (hx:w.ownsRow 0 e size v m news) (h1:∀u∈news,u.oneCell' =true) (h63:m<=maxLen) (hbytes:m*bytes<=140737488355328)
    (h:∀v' w', w'.ownsRow 0 e size v' m news->Fr [g] w w' -> (∀q,v'.ownBlock=some q->q=g∨w.heap.size<=q)->wpList P ops Q rest (a.put o.dst v') w'):wpList P ops Q (o::rest) a w:=
  wpList_plain hgd fun _ hK=>aKC s x t ho e z size bytes ht hinfo hzs hsz g hs hg v m news hv hx h1 h63 hbytes fun v' w' h2 h3 h4=>hK _ _ (h v' w' h2 h3 h4)
theorem aEZ(l:List Nat):∀u∈eB l,u.oneCell' =true:=by
 intro u hu;obtain⟨x,_,rfl⟩:=zF.1 hu;rfl
theorem aMJ(l m:List Nat):eB (l++m)=eB l++eB m:=List.map_append
theorem cQ.set{w:World}{g n cap:Nat}{l:List Nat}(h:cQ w (.slice (some ⟨g,0,none⟩) n cap) l)(hn:l.length=n){i:Nat}(y:Nat):cQ (w.setCell ⟨g,i,none⟩ (.int .u64 y)) (.slice (some ⟨g,0,none⟩) n cap) (l.set i y):=by
 unfold cQ at *;rw[List.length_set,hn];rw[hn]at h;have e:eB (l.set i y)=(eB l).set i (.int .u64 y):=List.map_set;rw[e];exact dM h _
theorem cQ.fz{w:World}{g n cap:Nat}{l:List Nat}(h:cQ w (.slice (some ⟨g,0,none⟩) n cap) l)(j:Nat):w.frozen? ⟨g,j,none⟩=false:=by
 rcases h.2 with⟨e,_⟩|⟨g', cap', cur,e,_,hh,_⟩
 · cases e
 {
 simp only[qY,qQ,Addr.mk.injEq,and_true]at e;rw[e.1];simp[World.frozen?,hh]}
theorem sQ{w:World}{v:Value}{l:List Nat}(h:cQ w v l)(hp:l.Pairwise (· < ·))(id:Nat)(hl:l.length<=60000):
    Calls Tryz.prog 126 #[v,.int .u64 id] w fun e w' =>∃v', e=.returned v' /\ cQ w' v' (cP id l)/\Fr [] w w' /\ ∀q,v'.ownBlock=some q->v.ownBlock=some q∨w.heap.size<=q:=by
  have hH:=nG h id (by omega);by_cases hm:id∈l
  · rw [qO hm] at hH
    rw[rL hp hm];have HH:=qB hH;have H:=qB h;clear h hp hm hH;go_enter Tryz.func126,Tryz.ntmps126
    go_wp2_with fail
    refine HH.out.mono ?_;rintro _ w ⟨rfl,rfl⟩;go_wp2
    go_ret;exact⟨v,rfl,H.out,Fr.refl _ _,fun q hq=>.inl hq⟩
  · rw [qK hm] at hH
    have HH:=qB hH;have H:=qB (zR (h.fr0 ((Fr.refl [] w).alloc (.cells #[] 26))) (zR hp hm));clear h hp hm hH;go_enter Tryz.func126,Tryz.ntmps126
    go_wp2_with fail
    refine HH.out.mono ?_;rintro _ w ⟨rfl,rfl⟩
    have HM:=qB (show ∀(v1:Value) (w1:World),w1.ownsRow 0 26 1 v1 l.length (eB l)->Fr [w.heap.size] (w.alloc (.cells #[] 26)) w1->(∀q,v1.ownBlock=some q->q=w.heap.size∨(w.alloc (.cells #[] 26)).heap.size<=q) ->
        Fr [] w w1/\(∀q,v1.ownBlock=some q->w.heap.size<=q)/\World.ownsRow (w1.alloc (.cells #[.int .u64 id] 26)) 0 26 1 v1 l.length (eB l) from fun v1 w1 hown1 hF1 hq1=>by
      have hs0:(w.alloc (.cells #[] 26)).heap.size=w.heap.size+1:=by simp
      refine⟨((Fr.refl [] w).alloc _).trans hF1 (fun b hb=>.inr (Nat.le_of_eq (qP.1 hb).symm)),fun q hq=>?_,aI hown1 (fun q hq=>((Fr.refl [] w1).alloc _).keep q (dL hown1 hq) (by simp))⟩;rcases hq1 q hq with e|e<;>omega)
    go_wp2_with (first
      | (at_builtin;refine oK rfl _ _ 48 rfl 26 (.int .u64 0) 1 8 (by kernel_rfl) (by kernel_rfl) rfl (by decide) w.heap.size rfl (Blk.new w [] _) v l.length (eB l) rfl H.out.1 (aEZ l) (by unfold maxLen;omega) (by omega) ?_;intro v1 w1 hown1 hF1 hq1;have HR1:=qB (HM.out v1 w1 hown1 hF1 hq1);obtain⟨a1,c1,rfl⟩:=aJ hown1;clear hown1 hF1 hq1 HM)
      | (at_builtin;refine iD rfl _ _ 48 rfl 26 (.int .u64 0) 1 8 (by kernel_rfl) (by kernel_rfl) rfl (by decide) (.slice a1 l.length c1) l.length (eB l) rfl HR1.out.2.2 w1.heap.size 26 [.int .u64 id] rfl (Blk.new w1 _ _) rfl (by simp[Value.oneCell']) (by omega) (by decide) ?_;intro g cap w2 hown2 hgrow2 hg2))
    clear HH;obtain⟨n,hn⟩:∃n,n=l.length:=⟨_,rfl⟩;have hrow2:cQ w2 (.slice (some ⟨g,0,none⟩) (n+1) cap) (atN l id n):=by
      unfold cQ;rw[nU,hn,aWD,aMJ];exact hown2
    have hs1:=HR1.out.1.size;have hgn:w.heap.size<=g:=by
      rcases hg2 with e|e
      · exact HR1.out.2.1 g e
      · simp at e;omega
    have hF2:Fr [] w w2:=(HR1.out.1.alloc _).grown hgrow2 (fun k e=>.inr (HR1.out.2.1 k e));have HRow:=qB (zR hrow2 (zR hF2 (show ∀y∈l.drop n,id<y from fun y hy=>by rw[hn,List.drop_length]at hy;cases hy)));have HG:=qB (zR hgn hn);have hn60:n<=60000:=by omega
    rw[<-hn];clear hown2 hgrow2 hg2 hrow2 hs1 hgn hF2 hl hn HR1;go_wp2_with fail
    have hwn:IntKind.i64.wrap ((n:Int)+1-1)=n:=by simp[IntKind.wrap,IntKind.bits,IntKind.signed];omega
    go_loopw [6] (fun c wr=>∃i:Nat,i<=n/\c=.int .i64 i/\Hid (cQ wr (.slice (some ⟨g,0,none⟩) (n+1) cap) (atN l id i)/\Fr [] w wr/\∀y∈l.drop i,id<y)) (fun c _=>(intOf c).toNat)
    case atStart=>exact⟨n,qS _,by go_num,HRow⟩
    case round=>
      obtain⟨i,hi,rfl,HR⟩:=hrel;clear HRow hwn;rename World=>wr
      have hfin:¬(∃k,∃hk:k<l.length,k+1=i/\id<l[k])->cQ wr (.slice (some ⟨g,0,none⟩) (n+1) cap) (cP id l):=fun hno=>by
        have hil:i<=l.length:=by rw[<-HG.out.2];exact hi
        rw[<-aRF H.out.2.1 hil H.out.2.2 HR.out.2.2 (fun j hj hji=>by
          have h1:¬id<l[j]:=fun h=>hno ⟨j,hj,hji,h⟩;have h2:id≠l[j]:=fun h=>H.out.2.2 (by rw[h];exact List.getElem_mem hj);omega)]
        exact HR.out.1
      have HFin:=qB hfin;clear hfin;cases i with
      | zero=>
        have d0:decide (((0:Nat):Int)>0)=false:=qK (by omega);go_wp2
        go_quiet (fail)
        go_wp2
        go_ret;exact⟨_,rfl,(HFin.out (fun⟨k,_,h,_⟩=>by omega)).fr0 ((Fr.refl [] wr).drewN _),HR.out.2.1.drewN _,fun q hq=>.inr (by simp[Value.ownBlock]at hq;rw[<-hq];exact HG.out.1)⟩
      | succ k=>
        have hkl:k<l.length:=by rw[<-HG.out.2];omega
        have d0:decide (((k+1:Nat):Int)>0)=true:=qO (by omega);have hwk:IntKind.i64.wrap (((k+1:Nat):Int)-1)=k:=by simp[IntKind.wrap,IntKind.bits,IntKind.signed];omega
        have hl1:k+1<(atN l id (k+1)).length:=by rw[nU];omega
        have hl2:k<(atN l id (k+1)).length:=by rw[nU];omega
        obtain⟨b1,c1', e1,_,r1⟩:=HR.out.1.at hl1;obtain⟨b2,c2', e2,_,r2⟩:=HR.out.1.at hl2;rw[aRC (by omega)]at r1;rw[aRD hkl]at r2;simp only[qY,qQ,Addr.mk.injEq,and_true]at e1 e2;rw[<-e1.1]at r1;rw[<-e2.1]at r2;have ki:((k+1:Nat):Int)<(n:Int)+1:=by omega
        have kn:(k:Int)<(n:Int)+1:=by omega
        have k0:(0:Int)<=((k+1:Nat):Int):=by omega
        have k00:(0:Int)<=(k:Int):=by omega
        obtain⟨x,hx⟩:∃x,x=l[k]:=⟨_,rfl⟩;rw[<-hx]at r2;have Hx:=qB (zR hx hkl);clear e1 e2 hl1 hl2 hx;obtain⟨i,hii⟩:∃i,i=k+1:=⟨_,rfl⟩;have d0n:decide (0<k+1)=true:=qO (by omega);rw[<-hii]at d0 d0n hwk r1 ki k0 HR HFin hi ⊢;have Hi:=qB hii;clear hii;by_cases hlt:id<x
        · have d1 : decide ((id : Int) < x) = true := qO (by omega)
          have d1n:decide (id<x)=true:=qO hlt;have Hlt:=qB hlt;clear hlt;go_wp2
          go_quiet (fail)
          clear d1 d1n d0 d0n;go_wp2_with fail
          have hfr:=Fr.of_drewN37 wr nq;have r1:=hfr.cell r1 (by simp);have r2:=hfr.cell r2 (by simp);have HRn:=qB (zR (HR.out.1.fr0 hfr) (zR (HR.out.2.1.trans' hfr) HR.out.2.2));clear hfr HR;generalize wr.drewN nq=ws at *;have fz1:=HRn.out.1.fz i;have fz2:=HRn.out.1.fz k;refine mM [15,17] [2,3,4] (fun q w' =>match q with
            | 0=>∃m,w' =ws.drewN m
            | 1=>cQ w' (.slice (some ⟨g,0,none⟩) (n+1) cap) ((atN l id i).set i x)/\Fr [] w w'
            | _=>cQ w' (.slice (some ⟨g,0,none⟩) (n+1) cap) (((atN l id i).set i x).set k id)/\Fr [] w w') (fun w' =>Iff.rfl) (by kernel_rfl) (by kernel_rfl) (by kernel_rfl) ?_
          iterate 2 (refine iZ (by decide) (fun K hK=>?_);go_simp;refine hK _ ?_;clear hK K)
          iterate 3 (refine gT (by decide) (fun K hK=>?_);go_simp;refine hK _ ?_;clear hK K)
          iterate 10 (refine iZ (by decide) (fun K hK=>?_);go_simp;refine hK _ ?_;clear hK K)
          refine fW (q:=0) (by decide) rfl undef (fun w' hw' =>?_) ?_
          · obtain ⟨nq, rfl⟩ := hw'
            go_simp;exact⟨(HRn.out.1.fr0 (Fr.of_drewN37 ws nq)).set (by rw[nU,<-HG.out.2]) x,(HRn.out.2.1.drewN nq).setCell _ _ (.inr HG.out.1)⟩
          iterate 1 (refine gT (by decide) (fun K hK=>?_);go_simp;refine hK _ ?_;clear hK K)
          refine fW (q:=1) (by decide) rfl undef (fun w' hw' =>?_) ?_
          · obtain ⟨hA, hB'⟩ := hw'
            have fz3:=hA.fz k;have hl3:k<((atN l id i).set i x).length:=by rw[List.length_set,nU];have:=Hx.out.2;omega
            obtain⟨b2,c2', e2,_,r3⟩:=hA.at hl3;simp only[qY,qQ,Addr.mk.injEq,and_true]at e2;rw[<-e2.1]at r3;clear e2;generalize ((atN l id i).set i x)[k]'hl3=y3 at *;go_simp;exact⟨hA.set (by rw[List.length_set,nU,<-HG.out.2]) id,hB'.setCell _ _ (.inr HG.out.1)⟩
          refine rY ?_;rintro w4 ⟨h4,hF4⟩;have HN:Hid (cQ w4 (.slice (some ⟨g,0,none⟩) (n+1) cap) (atN l id k)/\Fr [] w w4/\∀y∈l.drop k,id<y):=qB (by
            refine⟨?_,hF4,fun y hy=>?_⟩
            · rw[Hi.out,Hx.out.1,aRE Hx.out.2]at h4;exact h4
            · rw [List.drop_eq_getElem_cons Hx.out.2] at hy
              rcases qF.1 hy with rfl|hy
              · rw[<-Hx.out.1];exact Hlt.out
              · have := HRn.out.2.2 y (by rw [Hi.out]; exact hy)
                exact this)
          clear h4 hF4 fz1 fz2 r1 r2 HRn HFin;have hki:=Hi.out;go_wp2_with fail
          go_roundw
          case rel=>exact⟨k,by omega,by go_num,HN⟩
          case measure=>simp[intOf];omega
        · have d1 : decide ((id : Int) < x) = false := qK (by omega)
          have d1n:decide (id<x)=false:=qK hlt;have Hlt:=qB hlt;clear hlt;go_wp2
          go_quiet (fail)
          go_wp2
          go_ret;exact⟨_,rfl,(HFin.out (fun⟨k', hk', h,h'⟩=>by
            have e:k' =k:=by have:=Hi.out;omega
            subst e;rw[<-Hx.out.1]at h';exact Hlt.out h')).fr0 ((Fr.refl [] wr).drewN _),HR.out.2.1.drewN _,fun q hq=>.inr (by simp[Value.ownBlock]at hq;rw[<-hq];exact HG.out.1)⟩
end Go.Proofs.YtgmnemndjjmgkaaGreat
