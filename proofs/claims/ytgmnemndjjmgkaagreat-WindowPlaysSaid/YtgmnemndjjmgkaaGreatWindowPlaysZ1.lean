/- The statement 'WindowPlays': for every input the call returns true, and each argument reads afterwards as it read before. -/
import Derived.Test.YtgmnemndjjmgkaaGreatB12
import Derived.Test.YtgmnemndjjmgkaaGreatB1
import Derived.Test.YtgmnemndjjmgkaaGreatB3
import Derived.Test.YtgmnemndjjmgkaaGreatB4
set_option linter.unusedSimpArgs false
set_option linter.unusedVariables false
/- Windows that may be nil: both. -/
namespace Go.Proofs.YtgmnemndjjmgkaaGreat
open Go.RowKit
set_option maxRecDepth 10000
set_option maxHeartbeats 1600000
section
variable {W wr:World} {ts:List Th}
theorem QOk.of{so:Option Ob}{o:Ob}(h:o.Ok)(e:so=some o):QOk so:=fun o' e' =>by rw[e]at e'; cases e'; exact h
theorem both_w(h:Wd W wr ts)(m E V D:Int)(hm:m≤9223372036854775807):
    Calls Tryz.prog 27 #[.agg #[.int .i64 m,.int .i64 E,.int .i64 V,.int .i64 D]] wr fun e w' =>∃v d so,e=.returned (.tuple #[v,d,.bool true])∧QOk so∧Wd W w' (thN thO v so::thN thF d so::ts):=by
 have hb:=Blk.new wr [.int .i64 m,.int .i64 E,.int .i64 V,.int .i64 D] 55;have r0:=hb.cell 0;have r1:=hb.cell 1;have r2:=hb.cell 2;have r3:=hb.cell 3;simp only[zS,zT]at r0 r1 r2 r3;have hW0:Wd W (wr.alloc (.cells #[.int .i64 m,.int .i64 E,.int .i64 V,.int .i64 D] 55)) (thB wr.heap.size 55 [.int .i64 m,.int .i64 E,.int .i64 V,.int .i64 D]::ts):=
   h.new (K:=[wr.heap.size]) ((Fr.refl [] wr).alloc _) ⟨hb,rfl⟩ (fun q hq=>Nat.le_of_eq (qP.1 hq).symm)
 cases hc:cfgB m E V D with
 | false=>{
 have HN:=qB (td_new_no hW0 m D E V hc);have HD:=qB (fun w=>rd_new_no m E V D w hc);clear h hb hW0 hc;go_enter Tryz.func27,Tryz.ntmps27
 go_wp2_with fail
 refine HN.out.mono ?_;rintro _ w1 ⟨rfl,hW⟩;obtain⟨_,hb,_⟩:=hW.get;have r0:=hb.cell 0;have r1:=hb.cell 1;have r2:=hb.cell 2;have r3:=hb.cell 3;simp only[zS,zT]at r0 r1 r2 r3;have HW:=qB hW;clear hb hW HN;go_wp2_with fail
 refine(HD.out w1).mono ?_;rintro _ w2 ⟨rfl,hF⟩;have HW2:=qB (HW.out.fr0 hF);clear hF HW HD r0 r1 r2 r3;go_wp2_with fail
 go_ret3;exact⟨_,_,none,rfl,(fun o e=>by cases e),HW2.out.drop.mkNil.mkNil⟩}
 | true=>{
 obtain⟨k1,k2,k3,k4,k5,k6,k7⟩:=cfgB_iff.1 hc;obtain⟨E,rfl⟩:=Int.eq_ofNat_of_zero_le (show 0≤E by omega);obtain⟨V,rfl⟩:=Int.eq_ofNat_of_zero_le (show 0≤V by omega);have HN:=qB (td_new hW0 m D E V k1 hm (by omega) (by omega) (by omega) (by omega) k6 k7);have HC:=qB hc;clear h hb hW0 hc k1 k2 k3 k4 k5 k6 k7;go_enter Tryz.func27,Tryz.ntmps27
 go_wp2_with fail
 refine HN.out.mono ?_;rintro _ w1 ⟨p,rfl,hW⟩;obtain⟨_,hb,_⟩:=hW.swap.get;have r0:=hb.cell 0;have r1:=hb.cell 1;have r2:=hb.cell 2;have r3:=hb.cell 3;simp only[zS,zT]at r0 r1 r2 r3;have HD:=qB (rd_new hW m D E V HC.out);clear hb hW HN;go_wp2_with fail
 refine HD.out.mono ?_;rintro _ w2 ⟨q,rfl,hW⟩;have HW2:=qB hW;clear hW HD r0 r1 r2 r3;go_wp2_with fail
 go_ret3;have hw:=HW2.out.swap;exact⟨_,_,some _,rfl,QOk.of hw.ob rfl,(hw.back.swap.back.swap.drop3)⟩}
end
section
variable {W wr:World} {ts:List Th} {v d:Value} {so:Option Ob} {f:Nat→Ob→Th}
theorem Wd.qok(h:Wd W wr (thN thO v so::ts)):QOk so:=by
 intro o e;subst e;obtain⟨p,_,h1⟩:=h.isW;exact h1.ob
theorem Wd.ptr(h:Wd W wr (thN f v so::ts)):(v=.pointer none∧so=none)∨∃p o,v=wptr p∧so=some o:=by
 cases so with
 | none=>exact .inl ⟨h.isN,rfl⟩
 | some o=>obtain⟨p,e,_⟩:=h.isW;exact .inr ⟨p,o,e,rfl⟩
theorem Wd.st4{b:Nat}{t:TypeId}{v0 v1 v2 v3 v4:Value}(h:Wd W wr (thB b t [v0,v1,v2,v3,v4]::ts)):wr.cell? ⟨b,1,none⟩=some v1∧wr.cell? ⟨b,2,none⟩=some v2∧wr.cell? ⟨b,3,none⟩=some v3∧wr.cell? ⟨b,4,none⟩=some v4:=by
 have hb:=h.blk;exact⟨hb.cell 1,hb.cell 2,hb.cell 3,hb.cell 4⟩
theorem step_w(h:Wd W wr (thN thO v so::thN thF d so::ts))(k:Int)(u x:Nat)(hu:u<18446744073709551616)(hx:x<18446744073709551616)(wt t:Int)(ht1:-9223372036854775808≤t)(ht2:t≤9223372036854775807):
    Calls Tryz.prog 35 #[v,d,.agg #[.int .i64 k,.int .u64 u,.int .u64 x,.int .i64 wt,.int .i64 t]] wr fun e w' =>∃v' d' so', e=.returned (.tuple #[v', d', .bool true])∧QOk so' ∧ Wd W w' (thN thO v' so' :: thN thF d' so' :: ts):=by
 have hok:=h.qok;have hb:=Blk.new wr [.int .i64 k,.int .u64 u,.int .u64 x,.int .i64 wt,.int .i64 t] 76;have r0:=hb.cell 0;have r1:=hb.cell 1;have r2:=hb.cell 2;have r3:=hb.cell 3;have r4:=hb.cell 4;simp only[zS,zT]at r0 r1 r2 r3 r4;have hW0:Wd W (wr.alloc (.cells #[.int .i64 k,.int .u64 u,.int .u64 x,.int .i64 wt,.int .i64 t] 76)) (thB wr.heap.size 76 [.int .i64 k,.int .u64 u,.int .u64 x,.int .i64 wt,.int .i64 t]::thN thO v so::thN thF d so::ts):=
   h.new (K:=[wr.heap.size]) ((Fr.refl [] wr).alloc _) ⟨hb,rfl⟩ (fun q hq=>Nat.le_of_eq (qP.1 hq).symm)
 replace hW0:=hW0.back3;by_cases d0:k=0
 {
 subst d0;have HA:=qB (pv_add (hW0.fr0 ((Fr.refl [] _).drew)) u x hu hx wt t ht1 ht2);have HO:=qB (zR hok ht2);clear h hb hW0 hok hu hx ht1 ht2;go_enter Tryz.func35,Tryz.ntmps35
 go_wp2_with fail
 go_region_held3 (fun w' => w'.cell? ⟨wr.heap.size, 1, none⟩ = some (.int .u64 u) ∧ w'.cell? ⟨wr.heap.size, 2, none⟩ = some (.int .u64 x) ∧ w'.cell? ⟨wr.heap.size, 3, none⟩ = some (.int .i64 wt) ∧ w'.cell? ⟨wr.heap.size, 4, none⟩ = some (.int .i64 t))
   (first
     | with_reducible exact hW4.out.drop.drop.st4
     | with_reducible exact hW3.out.drop.drop.st4
     | go_keep)
   (first
     | (go_at_call 21;refine HA.out.mono ?_;rintro _ w3 ⟨rfl,hV3⟩;have hW3:=qB hV3;clear hV3)
     | (go_at_call 71;refine(pd_add hW3.out.swap HO.out.1 u x wt t HO.out.2).mono ?_;rintro _ w4 ⟨rfl,hV4⟩;have hW4:=qB hV4.swap;clear hV4))
 go_wp2_with fail
 go_ret3;exact⟨_,_,_,rfl,hW4.out.qok,hW4.out.drop3⟩}
 {
 have u0:(k == 0)=false:=zA.2 d0;clear d0;by_cases d1:k=1
 {
 subst d1;have HA:=qB (pv_tick (hW0.fr0 ((Fr.refl [] _).drew)) t ht1 ht2);have HO:=qB (zR hok ht2);clear h hb hW0 hok hu hx ht1 ht2;go_enter Tryz.func35,Tryz.ntmps35
 go_wp2_with fail
 go_region_held3 (fun w' => w'.cell? ⟨wr.heap.size, 1, none⟩ = some (.int .u64 u) ∧ w'.cell? ⟨wr.heap.size, 2, none⟩ = some (.int .u64 x) ∧ w'.cell? ⟨wr.heap.size, 3, none⟩ = some (.int .i64 wt) ∧ w'.cell? ⟨wr.heap.size, 4, none⟩ = some (.int .i64 t))
   (first
     | with_reducible exact hW4.out.drop.drop.st4
     | with_reducible exact hW3.out.drop.drop.st4
     | go_keep)
   (first
     | (go_at_call 17;refine HA.out.mono ?_;rintro _ w3 ⟨rfl,hV3⟩;have hW3:=qB hV3;clear hV3)
     | (go_at_call 72;refine(pd_tick hW3.out.swap HO.out.1 t HO.out.2).mono ?_;rintro _ w4 ⟨rfl,hV4⟩;have hW4:=qB hV4.swap;clear hV4))
 go_wp2_with fail
 go_ret3;exact⟨_,_,_,rfl,hW4.out.qok,hW4.out.drop3⟩}
 {
 have u1:(k == 1)=false:=zA.2 d1;clear d1;by_cases d2:k=2
 {
 subst d2;have HA:=qB (pv_copy hW0);have HO:=qB (zR hok (zR hu (zR hx (zR ht1 ht2))));clear h hb hW0 hok hu hx ht1 ht2;go_enter Tryz.func35,Tryz.ntmps35
 go_wp2_with fail
 refine HA.out.mono ?_;rintro _ w1 ⟨v1,rfl,hW⟩;have H:=qB (pd_copy hW.third HO.out.1);have hp:=qB hW.ptr;clear hW HA r0 r1 r2 r3 r4;go_wp2_with fail
 refine H.out.mono ?_;rintro _ w2 ⟨v2,rfl,hW⟩;have hp2:=qB hW.ptr;obtain⟨r1,r2,r3,r4⟩:=hW.drop.drop.drop.drop.st4;have HV:=qB (pv_add hW.fourth u x HO.out.2.1 HO.out.2.2.1 wt t HO.out.2.2.2.1 HO.out.2.2.2.2);clear hW H;go_wp2_with fail
 refine HV.out.mono ?_;rintro _ w3 ⟨rfl,hW⟩;have HW:=qB (zR HO.out.1 (hW.drop.drop2.swap.drop3));clear hW HV HO r1 r2 r3 r4;rcases hp.out with⟨rfl,e1⟩|⟨p,o,rfl,e1⟩
 {
 rcases hp2.out with⟨rfl,e2⟩|⟨p2,o2,rfl,e2⟩
 {
 clear hp hp2;have HE:=qB e1;clear e1 e2;go_wp2_with fail
 go_ret3;exact⟨_,_,_,rfl,HW.out.1,HW.out.2⟩}
 · rw[e1]at e2;cases e2}
 {
 rcases hp2.out with⟨rfl,e2⟩|⟨p2,o2,rfl,e2⟩
 · rw[e1]at e2;cases e2
 {
 clear hp hp2;have HE:=qB e1;clear e1 e2;go_wp2_with fail
 go_ret3;exact⟨_,_,_,rfl,HW.out.1,HW.out.2⟩}}}
 {
 have u2:(k == 2)=false:=zA.2 d2;have HW:=qB (zR hok hW0.drop3);clear d2 h hb hW0 hok hu hx ht1 ht2;go_enter Tryz.func35,Tryz.ntmps35
 go_wp2_with fail
 go_ret3;exact⟨_,_,_,rfl,HW.out.1,HW.out.2⟩}}}
end
end Go.Proofs.YtgmnemndjjmgkaaGreat
namespace Go.Proofs.YtgmnemndjjmgkaaGreat
open Go.RowKit
set_option maxRecDepth 10000
theorem flat_rec:Flat Tryz.prog 42 [.i .u64,.i .u64,.i .i64,.i .i64]:=by
 refine Flat.struct Tryz.underlying42 (by kernel_rfl) (fun j k hj=>?_);have hu:Flat Tryz.prog 26 [.i .u64]:=Flat.int Tryz.underlying26 (by kernel_rfl);have hi:Flat Tryz.prog 2 [.i .i64]:=Flat.int Tryz.underlying2 (by kernel_rfl);match j,hj with
 | 0,hj=>exact⟨0,_,_,rfl,hu,by decide,hj⟩
 | 1,hj=>exact⟨1,_,_,rfl,hu,by decide,hj⟩
 | 2,hj=>exact⟨2,_,_,rfl,hi,by decide,hj⟩
 | 3,hj=>exact⟨3,_,_,rfl,hi,by decide,hj⟩
 | j+4,hj=>simp at hj
end Go.Proofs.YtgmnemndjjmgkaaGreat
namespace Go.Proofs.YtgmnemndjjmgkaaGreat
open Go.RowKit Classical
set_option maxRecDepth 10000
theorem flat_stepR:Flat Tryz.prog 76 [.i .i64,.i .u64,.i .u64,.i .i64,.i .i64]:=by
 refine Flat.struct Tryz.underlying76 (by kernel_rfl) (fun j k hj=>?_);have hi:Flat Tryz.prog 3 [.i .i64]:=Flat.int Tryz.underlying3 (by kernel_rfl);match j,hj with
 | 0,hj=>exact⟨0,_,_,rfl,hi,by decide,hj⟩
 | j+1,hj=>exact⟨1,_,_,rfl,flat_rec,Nat.le_add_left 1 j,hj⟩
abbrev StR5:=Int×Nat×Nat×Int×Int
def StepsR(w:World)(a:Option Addr)(len:Nat)(z:Nat→StR5):Prop:=
  len≤9223372036854775807∧∀i,i<len→∃b off,a=some ⟨b,off,none⟩∧b<w.heap.size∧w.cell? ⟨b,off+i*5,none⟩=some (.int .i64 (z i).1)∧w.cell? ⟨b,off+i*5+1,none⟩=some (.int .u64 (z i).2.1) ∧
    w.cell? ⟨b,off+i*5+2,none⟩=some (.int .u64 (z i).2.2.1)∧w.cell? ⟨b,off+i*5+3,none⟩=some (.int .i64 (z i).2.2.2.1)∧w.cell? ⟨b,off+i*5+4,none⟩=some (.int .i64 (z i).2.2.2.2) ∧
    (z i).2.1<18446744073709551616∧(z i).2.2.1<18446744073709551616∧ -9223372036854775808≤(z i).2.2.2.2∧(z i).2.2.2.2≤9223372036854775807
theorem StepsR.fr{w w' :World}{a:Option Addr}{len:Nat}{z:Nat→StR5}(h:StepsR w a len z)(hb:Fr [] w w'):StepsR w' a len z:=by
 refine⟨h.1,fun i hi=>?_⟩;obtain⟨b,off,rfl,hlt,h0,h1,h2,h3,h4,h5⟩:=h.2 i hi;exact⟨b,off,rfl,Nat.lt_of_lt_of_le hlt hb.size,hb.cell h0 (by simp),hb.cell h1 (by simp),hb.cell h2 (by simp),hb.cell h3 (by simp),hb.cell h4 (by simp),h5⟩
theorem i64_wf2{x:Int}(h:(Lit.int .i64 x).wf=true):-9223372036854775808≤x∧x≤9223372036854775807:=by
 have h:(decide ((-9223372036854775808:Int)≤x)&&decide (x≤9223372036854775807))=true:=h;simp only[zG,decide_eq_true_eq]at h;exact h
theorem open_stepsR{H:Type}{enc:TypeId×Value→H}{W:World}{a:Option Addr}{len cap:Nat}{d:DataW H}{p:List MemPlace}
    (h:DataW.Trod enc Tryz.prog W 0 (fun _=>true) true 73 (.slice a len cap) d p):∃z,StepsR W a len z:=by
  obtain⟨z,hz⟩:=open_flat Tryz.underlying73 flat_stepR (by decide) h;have key:∀i,∃u:StR5,i<len→z i 0=.int .i64 u.1∧z i 1=.int .u64 u.2.1∧z i 2=.int .u64 u.2.2.1∧z i 3=.int .i64 u.2.2.2.1∧z i 4=.int .i64 u.2.2.2.2 ∧
      u.2.1<18446744073709551616∧u.2.2.1<18446744073709551616∧ -9223372036854775808≤u.2.2.2.2∧u.2.2.2.2≤9223372036854775807:=by
    intro i;by_cases hi:i<len
    · obtain ⟨b, off, rfl, _, h1⟩ := hz.2 i hi
      obtain⟨n0,e0,_⟩:=(h1 0 _ rfl).2;obtain⟨n1,e1,w1⟩:=(h1 1 _ rfl).2;obtain⟨n2,e2,w2⟩:=(h1 2 _ rfl).2;obtain⟨n3,e3,_⟩:=(h1 3 _ rfl).2;obtain⟨n4,e4,w4⟩:=(h1 4 _ rfl).2;obtain⟨u,rfl,hu⟩:=u64_of_wf w1;obtain⟨v,rfl,hv⟩:=u64_of_wf w2;exact⟨(n0,u,v,n3,n4),fun _=>⟨e0,e1,e2,e3,e4,hu,hv,i64_wf2 w4⟩⟩
    · exact⟨(0,0,0,0,0),fun h=>absurd h hi⟩
  obtain⟨F,hF⟩:=Classical.axiomOfChoice key;refine⟨F,hz.1,fun i hi=>?_⟩;obtain⟨b,off,rfl,hb,h1⟩:=hz.2 i hi;obtain⟨e0,e1,e2,e3,e4,e5⟩:=hF i hi;refine⟨b,off,rfl,hb,?_,?_,?_,?_,?_,e5⟩
  · rw[←e0];exact(h1 0 _ rfl).1
  · rw[←e1];exact(h1 1 _ rfl).1
  · rw[←e2];exact(h1 2 _ rfl).1
  · rw[←e3];exact(h1 3 _ rfl).1
  · rw[←e4];exact(h1 4 _ rfl).1
end Go.Proofs.YtgmnemndjjmgkaaGreat
namespace Go.Proofs.YtgmnemndjjmgkaaGreat
open Go.RowKit
set_option maxRecDepth 10000
theorem flat_cfg:Flat Tryz.prog 55 [.i .i64,.i .i64,.i .i64,.i .i64]:=by
 refine Flat.struct Tryz.underlying55 (by kernel_rfl) (fun j k hj=>?_);have hi:Flat Tryz.prog 2 [.i .i64]:=Flat.int Tryz.underlying2 (by kernel_rfl);have hn:Flat Tryz.prog 3 [.i .i64]:=Flat.int Tryz.underlying3 (by kernel_rfl);match j,hj with
 | 0,hj=>exact⟨0,_,_,rfl,hi,by decide,hj⟩
 | 1,hj=>exact⟨1,_,_,rfl,hn,by decide,hj⟩
 | 2,hj=>exact⟨2,_,_,rfl,hn,by decide,hj⟩
 | 3,hj=>exact⟨3,_,_,rfl,hn,by decide,hj⟩
 | j+4,hj=>simp at hj
theorem open_cfg{H:Type}{enc:TypeId×Value→H}{W:World}{base:Nat}{v:Value}{d:DataW H}{p:List MemPlace}(hok:Value.okWide Tryz.prog W .any base 55 v)
    (h:DataW.Trod enc Tryz.prog W 0 (fun _=>true) true 55 v d p):∃z:Int×Int×Int×Int,v=.agg #[.int .i64 z.1,.int .i64 z.2.1,.int .i64 z.2.2.1,.int .i64 z.2.2.2]∧(-9223372036854775808≤z.1∧z.1≤9223372036854775807):=by
 obtain⟨cs,rfl,hsz⟩:=Go.WideShapes.okWide_struct Tryz.underlying55 hok;have h4:cs.size=4:=hsz.trans (by kernel_rfl);obtain⟨fuel,hf⟩:=h;obtain⟨v0,e0,n0,rfl,k0⟩:=flat_cfg.2 hf 0 _ rfl;obtain⟨v1,e1,n1,rfl,_⟩:=flat_cfg.2 hf 1 _ rfl;obtain⟨v2,e2,n2,rfl,_⟩:=flat_cfg.2 hf 2 _ rfl;obtain⟨v3,e3,n3,rfl,_⟩:=flat_cfg.2 hf 3 _ rfl;refine⟨(n0,n1,n2,n3),?_,by
   have k0:(decide ((-9223372036854775808:Int)≤n0)&&decide (n0≤9223372036854775807))=true:=k0;simp only[zG,decide_eq_true_eq]at k0;exact k0⟩
 simp only[Value.cells]at e0 e1 e2 e3;congr 1
 refine Array.ext_getElem? fun i=>?_;match i with
 | 0=>simpa using e0
 | 1=>simpa using e1
 | 2=>simpa using e2
 | 3=>simpa using e3
 | i+4=>rw[Array.getElem?_eq_none (by omega),Array.getElem?_eq_none (by simp)]
set_option maxHeartbeats 1600000
theorem walk_windowPlays(W:World)(zc:Int×Int×Int×Int)(hzc:-9223372036854775808≤zc.1∧zc.1≤9223372036854775807)(a:Option Addr)(len cap:Nat)(z:Nat→StR5)(hz:StepsR W a len z)(a2:Int)(w2:(Lit.int .u64 a2).wf=true)(a3:Int)(w3:(Lit.int .u64 a3).wf=true):
    Calls Tryz.prog 9 #[.agg #[.int .i64 zc.1,.int .i64 zc.2.1,.int .i64 zc.2.2.1,.int .i64 zc.2.2.2],.slice a len cap,.int .u64 a2,.int .u64 a3] W fun e w' =>e=.returned (.bool true)∧Below W.heap.size W w' :=by
 obtain⟨u,rfl,hu⟩:=u64_of_wf w2;obtain⟨v,rfl,hv⟩:=u64_of_wf w3;have HWk:=qB (fun w=>works37_w w);obtain⟨m,E,V,D⟩:=zc;have hb:=Blk.new W [.int .i64 m,.int .i64 E,.int .i64 V,.int .i64 D] 55;have hFA:Fr [] W (W.alloc (.cells #[.int .i64 m,.int .i64 E,.int .i64 V,.int .i64 D] 55)):=(Fr.refl [] W).alloc _;by_cases hl:60<len
 {
 have d0:(60:Int)<len:=by omega
 have HFA:=qB hFA;clear hb hz hl hzc w2 w3 hu hv hFA;go_enter Tryz.func9,Tryz.ntmps9
 go_wp2_with fail
 refine(HWk.out _).mono ?_;rintro _ w2 ⟨rfl,hF⟩;have HF:=qB (HFA.out.trans' hF);clear hF HFA;go_wp2_with fail
 go_ret;exact⟨rfl,HF.out.below (by simp)⟩}
 {
 have d0:¬60<len:=hl;have d1:decide ((len:Int)>60)=false:=qK (by omega);have r0:=hb.cell 0;have r1:=hb.cell 1;have r2:=hb.cell 2;have r3:=hb.cell 3;simp only[zS,zT]at r0 r1 r2 r3;have HB:=qB (both_w (Wd.base hFA) m E V D hzc.2);have HU:=qB (zR (show u<18446744073709551616 from hu) (show v<18446744073709551616 from hv));have HZ:=qB hz;have HLen:=qB (show len≤60 by omega);clear hb hz hzc w2 w3 hu hv hFA hl;go_enter Tryz.func9,Tryz.ntmps9
 go_wp2_with fail
 refine HB.out.mono ?_;rintro _ wa ⟨x0,y0,so,rfl,hok,hW⟩;have H2:=qB (zR hok hW);clear hW hok HB r0 r1 r2 r3 d1 d0;go_wp2_with fail
 go_loopw [9,10,11,12] (fun x y r i wr=>∃(k:Nat) (so:Option Ob),k≤len∧i=.int .i64 k∧r=.bool true∧Hid (QOk so∧Wd W wr [thN thO x so,thN thF y so])) (fun _ _ _ i _=>len-(intOf i).toNat)
 case atStart=>exact⟨0,so,zB _,rfl,rfl,H2⟩
 case round=>
  clear H2;obtain⟨k,so,hk,rfl,rfl,HP⟩:=hrel;by_cases hlt:k<len
  {
  have hlt' :(k:Int)<len:=by omega
  have hw1:IntKind.i64.wrap ((k:Int)+1)=((k+1:Nat):Int):=by rw[show(k:Int)+1=((k+1:Nat):Int) by omega];exact zP _ (by have:=HLen.out;omega)
  have HQ:=qB (show ∀w', Fr [] W w' → ∃b off,a=some ⟨b,off,none⟩∧w'.cell? ⟨b,off+k*5+1,none⟩=some (.int .u64 (z k).2.1)∧w'.cell? ⟨b,off+k*5+2,none⟩=some (.int .u64 (z k).2.2.1) from fun w' hF=>by
    obtain⟨b,off,e,_,_,q1,q2,_⟩:=(HZ.out.fr hF).2 k hlt;exact⟨b,off,e,q1,q2⟩)
  obtain⟨b,off,ea,hb,q0,q1,q2,q3,q4,x1,x2,x3,x4⟩:=(HZ.out.fr HP.out.2.frm).2 k hlt;subst ea;have HX:=qB (zR x1 x2);generalize z k=zk at *;obtain⟨dd,eu,ev,wt,t⟩:=zk;simp only at q0 q1 q2 q3 q4 x1 x2 x3 x4 HX HQ;have HA:=qB (step_w HP.out.2 dd eu ev x1 x2 wt t x3 x4);clear HP x1 x2 x3 x4;go_wp2_with fail
  refine HA.out.mono ?_;rintro _ w3 ⟨x', y', so', rfl,hok,hW⟩;have HW:=qB (zR hok hW);clear hW hok HA q0 q1 q2 q3 q4;go_wp2_with fail
  refine region_cw (fun w' =>Wd W w' [thN thO x' so', thN thF y' so']) (by kernel_rfl) (by kernel_rfl) (HW.out.2.fr0 (Fr.refl [] w3).drew) ?_;iterate 6 (refine cw_pure (by kernel_rfl) (fun KK hK=>?_);go_simp;refine hK.out _ ?_;clear hK KK)
  refine cw_val (by kernel_rfl) (.bool true) (fun w' hw' =>?_) ?_
  {
  go_simp;refine(agree_w hw' HW.out.1 u v HU.out.1 HU.out.2).mono ?_;rintro _ w6 ⟨rfl,h1⟩;exact⟨rfl,h1⟩};iterate 9 (refine cw_pure (by kernel_rfl) (fun KK hK=>?_);go_simp;refine hK.out _ ?_;clear hK KK)
  refine cw_val (by kernel_rfl) (.int .u64 eu) (fun w' hw' =>?_) ?_
  {
  obtain⟨b', off', e,q1,q2⟩:=HQ.out _ hw'.frm;cases e;go_simp;first|exact hw' | exact⟨rfl,hw'⟩|skip};iterate 5 (refine cw_pure (by kernel_rfl) (fun KK hK=>?_);go_simp;refine hK.out _ ?_;clear hK KK)
  refine cw_val (by kernel_rfl) (.int .u64 ev) (fun w' hw' =>?_) ?_
  {
  obtain⟨b', off', e,q1,q2⟩:=HQ.out _ hw'.frm;cases e;go_simp;first|exact hw' | exact⟨rfl,hw'⟩|skip};refine cw_val (by kernel_rfl) (.bool true) (fun w' hw' =>?_) ?_
  {
  go_simp;refine(asked_w hw' HW.out.1 eu ev HX.out.1 HX.out.2).mono ?_;rintro _ w6 ⟨rfl,h1⟩;exact⟨rfl,h1⟩};iterate 10 (refine cw_pure (by kernel_rfl) (fun KK hK=>?_);go_simp;refine hK.out _ ?_;clear hK KK)
  refine cw_val (by kernel_rfl) (.int .u64 ev) (fun w' hw' =>?_) ?_
  {
  obtain⟨b', off', e,q1,q2⟩:=HQ.out _ hw'.frm;cases e;go_simp;first|exact hw' | exact⟨rfl,hw'⟩|skip};refine cw_val (by kernel_rfl) (.bool true) (fun w' hw' =>?_) ?_
  {
  go_simp;refine(asked_w hw' HW.out.1 v ev HU.out.2 HX.out.2).mono ?_;rintro _ w6 ⟨rfl,h1⟩;exact⟨rfl,h1⟩};iterate 2 (refine cw_pure (by kernel_rfl) (fun KK hK=>?_);go_simp;refine hK.out _ ?_;clear hK KK)
  refine cw_nil ?_;intro w6 h6;have H6:=qB (zR HW.out.1 h6);clear HW h6;go_wp2_with fail
  go_roundw
  case rel=>exact⟨k+1,so', by omega,rfl,rfl,H6⟩
  case measure=>simp[intOf];omega}
  {
  obtain rfl:k=len:=by omega
  have HF:=qB HP.out.2.frm;clear HP;go_wp2_with fail
  refine(HWk.out _).mono ?_;rintro _ w6 ⟨rfl,hB⟩;have HF:=qB (HF.out.trans' hB);clear hB;go_wp2_with fail
  go_ret;exact⟨rfl,HF.out.below (by simp)⟩}}
end Go.Proofs.YtgmnemndjjmgkaaGreat
namespace Go.Proofs.YtgmnemndjjmgkaaGreat.windowPlays
open Go.ChangeShapes Go.WideShapes Go.ChangeAt Go.RowKit
set_option linter.unusedVariables false
theorem own:ownKnob Tryz.prog.godebug=none:=by kernel_rfl
theorem laidOut:laidOutB Tryz.prog=true:=by kernel_rfl
set_option maxRecDepth 100000 in
theorem lifted(os:Os)(started:os.Started)(H:Type)(enc:TypeId×Value→H):
    ReturnsInHanded {} Tryz.checked os 9 .any (Rows.windowPlaysSpec.pre6 enc Tryz.prog Tryz.f9 Rows.windowPlaysRow.domain false) (Rows.windowPlaysSpec.post enc Tryz.prog Tryz.f9 false true false false):=by
 refine returnsInHanded_of_change (C := Tryz.checked) own started (by kernel_rfl) Tryz.func9
   (ChangeSpec.witness6 (enc:=enc) (C:=Tryz.checked) false ⟨#[],#[.agg #[.int .i64 0,.int .i64 0,.int .i64 0,.int .i64 0],.slice none 0 0,.int .u64 0,.int .u64 0],[]⟩ 8 (by kernel_rfl) (by kernel_rfl) (by kernel_rfl) (by kernel_rfl)) ?_
 intro W base args ds gs before hval0 hW hcnd _;have hval:∀(j:Nat) t v,Tryz.f9.params[j]? =some t→args[j]? =some v→Value.okWide Tryz.prog W .any base t v:=hval0;have hW' :=hW;obtain⟨p,q,hA0,hV,rfl,hfz,hnd⟩:=hW;have hA:DataW.TrodAll enc Tryz.prog W 0 (fun _=>true) true Tryz.f9.params.toList args.toList ds p:=hA0;rw[Tryz.params9]at hA hval;obtain⟨v0,vs0,d0,ds0,p0,q0,hargs,rfl,rfl,h0,r0⟩:=trodAll_cons hA;obtain⟨v1,vs1,d1,ds1,p1,q1,rfl,rfl,rfl,h1,r1⟩:=trodAll_cons r0;obtain⟨v2,vs2,d2,ds2,p2,q2,rfl,rfl,rfl,h2,r2⟩:=trodAll_cons r1;obtain⟨v3,vs3,d3,ds3,p3,q3,rfl,rfl,rfl,h3,r3⟩:=trodAll_cons r2;obtain⟨rfl,rfl,rfl⟩:=trodAll_nil r3;obtain rfl:args=#[v0,v1,v2,v3]:=by cases args;simp_all
 obtain⟨rfl,rfl⟩:=trodVars_none hV;have k0:=h0;have lt0:∀x∈p0,x.block<W.heap.size:=by obtain⟨m,hm⟩:=k0;exact DataW.trod_lt m _ _ _ hm
 obtain⟨z0,rfl,w0⟩:=open_cfg (hval 0 55 v0 rfl rfl) h0;obtain⟨a1,len1,cap1,rfl⟩:=okWide_slice Tryz.underlying73 (hval 1 73 v1 rfl rfl);have k1:=h1;have lt1:∀x∈p1,x.block<W.heap.size:=by obtain⟨m,hm⟩:=k1;exact DataW.trod_lt m _ _ _ hm
 obtain⟨z1,w1⟩:=open_stepsR h1;obtain⟨a2,rfl,rfl,rfl,w2⟩:=open_int Tryz.underlying26 (hval 2 26 v2 rfl rfl) h2;obtain⟨a3,rfl,rfl,rfl,w3⟩:=open_int Tryz.underlying26 (hval 3 26 v3 rfl rfl) h3;clear hA0 hval0;refine(walk_windowPlays W z0 w0 a1 len1 cap1 z1 w1 a2 w2 a3 w3).mono fun e W' ⟨he,bel⟩=>?_;subst he;exact⟨_,rfl,_,_,_,[],_,[],hW', trodAll_mk1 (shut_bool Tryz.underlying4 _),(trodAll_cons_mk (Below.trod laidOut (by kernel_rfl) (of_decide_eq_true (by kernel_rfl)) k0 bel lt0) (trodAll_cons_mk (Below.trod laidOut (by kernel_rfl) (of_decide_eq_true (by kernel_rfl)) k1 bel lt1) (trodAll_cons_mk (shut_int Tryz.underlying26 w2) (trodAll_cons_mk (shut_int Tryz.underlying26 w3) trodAll_mk0)))),rfl,bel.frame _,fun h=>by cases h⟩
theorem over:Rows.windowPlaysRow.holds Tryz.pinned (OpenSpec.ofChange Rows.windowPlaysSpec):=
  OpenClaim.holds_of_wide 9 Tryz.f9 rfl rfl rfl rfl rfl rfl rfl ⟨rfl, rfl, rfl, rfl, rfl⟩ rfl rfl rfl rfl rfl (by kernel_rfl) Tryz.func9 (by kernel_rfl)
    (of_decide_eq_true (by kernel_rfl)) (by unfold Func.isWrapper;first|(rw[qI (by decide +kernel)];kernel_rfl)|(rw[qH (by decide +kernel)];exact⟨rfl,rfl⟩))
    (fun os started H enc _=>lifted os started H enc)
end Go.Proofs.YtgmnemndjjmgkaaGreat.windowPlays
namespace Go.Proofs.YtgmnemndjjmgkaaGreat
theorem windowPlays_holds:Rows.WindowPlaysSaid:=windowPlays.over
#print axioms windowPlays_holds
end Go.Proofs.YtgmnemndjjmgkaaGreat
