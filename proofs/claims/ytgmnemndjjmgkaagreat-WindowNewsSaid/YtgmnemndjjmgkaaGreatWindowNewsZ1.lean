/- The statement 'WindowNews': for every input the call returns true, and each argument reads afterwards as it read before. -/
import Derived.Test.YtgmnemndjjmgkaaGreatB12
import Derived.Test.YtgmnemndjjmgkaaGreatB1
import Derived.Test.YtgmnemndjjmgkaaGreatB3
import Derived.Test.YtgmnemndjjmgkaaGreatB4
import Derived.Test.YtgmnemndjjmgkaaGreatB10
set_option linter.unusedSimpArgs false
set_option linter.unusedVariables false
/- Windows that may be nil: both. -/
namespace Go.Proofs.YtgmnemndjjmgkaaGreat
open Go.RowKit
set_option maxRecDepth 10000
set_option maxHeartbeats 1600000
section
variable {W wr:World} {ts:List Th}
theorem QOk.of{so:Option Ob}{o:Ob}(h:o.Ok)(e:so=some o):QOk so:=fun o' e' =>by rw[e]at e'; cases e'; exact h
theorem both_w(h:Wd W wr ts)(m E V D:Int)(hm:m≤9223372036854775807):
    Calls Tryz.prog 27 #[.agg #[.int .i64 m,.int .i64 E,.int .i64 V,.int .i64 D]] wr fun e w' =>∃v d so,e=.returned (.tuple #[v,d,.bool true])∧QOk so∧Wd W w' (thN thO v so::thN thF d so::ts):=by
 have hb:=Blk.new wr [.int .i64 m,.int .i64 E,.int .i64 V,.int .i64 D] 55;have r0:=hb.cell 0;have r1:=hb.cell 1;have r2:=hb.cell 2;have r3:=hb.cell 3;simp only[zS,zT]at r0 r1 r2 r3;have hW0:Wd W (wr.alloc (.cells #[.int .i64 m,.int .i64 E,.int .i64 V,.int .i64 D] 55)) (thB wr.heap.size 55 [.int .i64 m,.int .i64 E,.int .i64 V,.int .i64 D]::ts):=
   h.new (K:=[wr.heap.size]) ((Fr.refl [] wr).alloc _) ⟨hb,rfl⟩ (fun q hq=>Nat.le_of_eq (qP.1 hq).symm)
 cases hc:cfgB m E V D with
 | false=>{
 have HN:=qB (td_new_no hW0 m D E V hc);have HD:=qB (fun w=>rd_new_no m E V D w hc);clear h hb hW0 hc;go_enter Tryz.func27,Tryz.ntmps27
 go_wp2_with fail
 refine HN.out.mono ?_;rintro _ w1 ⟨rfl,hW⟩;obtain⟨_,hb,_⟩:=hW.get;have r0:=hb.cell 0;have r1:=hb.cell 1;have r2:=hb.cell 2;have r3:=hb.cell 3;simp only[zS,zT]at r0 r1 r2 r3;have HW:=qB hW;clear hb hW HN;go_wp2_with fail
 refine(HD.out w1).mono ?_;rintro _ w2 ⟨rfl,hF⟩;have HW2:=qB (HW.out.fr0 hF);clear hF HW HD r0 r1 r2 r3;go_wp2_with fail
 go_ret3;exact⟨_,_,none,rfl,(fun o e=>by cases e),HW2.out.drop.mkNil.mkNil⟩}
 | true=>{
 obtain⟨k1,k2,k3,k4,k5,k6,k7⟩:=cfgB_iff.1 hc;obtain⟨E,rfl⟩:=Int.eq_ofNat_of_zero_le (show 0≤E by omega);obtain⟨V,rfl⟩:=Int.eq_ofNat_of_zero_le (show 0≤V by omega);have HN:=qB (td_new hW0 m D E V k1 hm (by omega) (by omega) (by omega) (by omega) k6 k7);have HC:=qB hc;clear h hb hW0 hc k1 k2 k3 k4 k5 k6 k7;go_enter Tryz.func27,Tryz.ntmps27
 go_wp2_with fail
 refine HN.out.mono ?_;rintro _ w1 ⟨p,rfl,hW⟩;obtain⟨_,hb,_⟩:=hW.swap.get;have r0:=hb.cell 0;have r1:=hb.cell 1;have r2:=hb.cell 2;have r3:=hb.cell 3;simp only[zS,zT]at r0 r1 r2 r3;have HD:=qB (rd_new hW m D E V HC.out);clear hb hW HN;go_wp2_with fail
 refine HD.out.mono ?_;rintro _ w2 ⟨q,rfl,hW⟩;have HW2:=qB hW;clear hW HD r0 r1 r2 r3;go_wp2_with fail
 go_ret3;have hw:=HW2.out.swap;exact⟨_,_,some _,rfl,QOk.of hw.ob rfl,(hw.back.swap.back.swap.drop3)⟩}
end
end Go.Proofs.YtgmnemndjjmgkaaGreat
namespace Go.Proofs.YtgmnemndjjmgkaaGreat
open Go.RowKit
set_option maxRecDepth 10000
theorem flat_rec:Flat Tryz.prog 42 [.i .u64,.i .u64,.i .i64,.i .i64]:=by
 refine Flat.struct Tryz.underlying42 (by kernel_rfl) (fun j k hj=>?_);have hu:Flat Tryz.prog 26 [.i .u64]:=Flat.int Tryz.underlying26 (by kernel_rfl);have hi:Flat Tryz.prog 2 [.i .i64]:=Flat.int Tryz.underlying2 (by kernel_rfl);match j,hj with
 | 0,hj=>exact⟨0,_,_,rfl,hu,by decide,hj⟩
 | 1,hj=>exact⟨1,_,_,rfl,hu,by decide,hj⟩
 | 2,hj=>exact⟨2,_,_,rfl,hi,by decide,hj⟩
 | 3,hj=>exact⟨3,_,_,rfl,hi,by decide,hj⟩
 | j+4,hj=>simp at hj
theorem flat_cfg:Flat Tryz.prog 55 [.i .i64,.i .i64,.i .i64,.i .i64]:=by
 refine Flat.struct Tryz.underlying55 (by kernel_rfl) (fun j k hj=>?_);have hi:Flat Tryz.prog 2 [.i .i64]:=Flat.int Tryz.underlying2 (by kernel_rfl);have hn:Flat Tryz.prog 3 [.i .i64]:=Flat.int Tryz.underlying3 (by kernel_rfl);match j,hj with
 | 0,hj=>exact⟨0,_,_,rfl,hi,by decide,hj⟩
 | 1,hj=>exact⟨1,_,_,rfl,hn,by decide,hj⟩
 | 2,hj=>exact⟨2,_,_,rfl,hn,by decide,hj⟩
 | 3,hj=>exact⟨3,_,_,rfl,hn,by decide,hj⟩
 | j+4,hj=>simp at hj
theorem open_cfg{H:Type}{enc:TypeId×Value→H}{W:World}{base:Nat}{v:Value}{d:DataW H}{p:List MemPlace}(hok:Value.okWide Tryz.prog W .any base 55 v)
    (h:DataW.Trod enc Tryz.prog W 0 (fun _=>true) true 55 v d p):∃z:Int×Int×Int×Int,v=.agg #[.int .i64 z.1,.int .i64 z.2.1,.int .i64 z.2.2.1,.int .i64 z.2.2.2]∧(-9223372036854775808≤z.1∧z.1≤9223372036854775807):=by
 obtain⟨cs,rfl,hsz⟩:=Go.WideShapes.okWide_struct Tryz.underlying55 hok;have h4:cs.size=4:=hsz.trans (by kernel_rfl);obtain⟨fuel,hf⟩:=h;obtain⟨v0,e0,n0,rfl,k0⟩:=flat_cfg.2 hf 0 _ rfl;obtain⟨v1,e1,n1,rfl,_⟩:=flat_cfg.2 hf 1 _ rfl;obtain⟨v2,e2,n2,rfl,_⟩:=flat_cfg.2 hf 2 _ rfl;obtain⟨v3,e3,n3,rfl,_⟩:=flat_cfg.2 hf 3 _ rfl;refine⟨(n0,n1,n2,n3),?_,by
   have k0:(decide ((-9223372036854775808:Int)≤n0)&&decide (n0≤9223372036854775807))=true:=k0;simp only[zG,decide_eq_true_eq]at k0;exact k0⟩
 simp only[Value.cells]at e0 e1 e2 e3;congr 1
 refine Array.ext_getElem? fun i=>?_;match i with
 | 0=>simpa using e0
 | 1=>simpa using e1
 | 2=>simpa using e2
 | 3=>simpa using e3
 | i+4=>rw[Array.getElem?_eq_none (by omega),Array.getElem?_eq_none (by simp)]
set_option maxHeartbeats 1600000
theorem walk_windowNews(W:World)(z:Int×Int×Int×Int)(hz:-9223372036854775808≤z.1∧z.1≤9223372036854775807)(a1:Int)(w1:(Lit.int .u64 a1).wf=true)(a2:Int)(w2:(Lit.int .u64 a2).wf=true):
    Calls Tryz.prog 6 #[.agg #[.int .i64 z.1,.int .i64 z.2.1,.int .i64 z.2.2.1,.int .i64 z.2.2.2],.int .u64 a1,.int .u64 a2] W fun e w' =>e=.returned (.bool true)∧Below W.heap.size W w' :=by
 obtain⟨u,rfl,hu⟩:=u64_of_wf w1;obtain⟨v,rfl,hv⟩:=u64_of_wf w2;have HWk:=qB (fun w=>works37_w w);obtain⟨m,E,V,D⟩:=z;have hb:=Blk.new W [.int .i64 m,.int .i64 E,.int .i64 V,.int .i64 D] 55;have r0:=hb.cell 0;have r1:=hb.cell 1;have r2:=hb.cell 2;have r3:=hb.cell 3;simp only[zS,zT]at r0 r1 r2 r3;have HB:=qB (both_w (Wd.base ((Fr.refl [] W).alloc (.cells #[.int .i64 m,.int .i64 E,.int .i64 V,.int .i64 D] 55))) m E V D hz.2);have HU:=qB (zR (show u<18446744073709551616 from hu) (show v<18446744073709551616 from hv));clear hb hz w1 w2 hu hv;go_enter Tryz.func6,Tryz.ntmps6
 go_wp2_with fail
 refine HB.out.mono ?_;rintro _ w1 ⟨x,d,so,rfl,hok,hW⟩;have H:=qB (agree_w hW hok u v HU.out.1 HU.out.2);clear hW hok HB r0 r1 r2 r3;go_wp2_with fail
 refine H.out.mono ?_;rintro _ w2 ⟨rfl,hW⟩;have HF:=qB hW.frm;clear hW H;go_wp2_with fail
 refine(HWk.out w2).mono ?_;rintro _ w3 ⟨rfl,hF⟩;have HF2:=qB (HF.out.trans' hF);clear hF HF;go_wp2_with fail
 go_ret;exact⟨rfl,HF2.out.below (by simp)⟩
end Go.Proofs.YtgmnemndjjmgkaaGreat
namespace Go.Proofs.YtgmnemndjjmgkaaGreat.windowNews
open Go.ChangeShapes Go.WideShapes Go.ChangeAt Go.RowKit
set_option linter.unusedVariables false
theorem own:ownKnob Tryz.prog.godebug=none:=by kernel_rfl
theorem laidOut:laidOutB Tryz.prog=true:=by kernel_rfl
set_option maxRecDepth 100000 in
theorem lifted(os:Os)(started:os.Started)(H:Type)(enc:TypeId×Value→H):
    ReturnsInHanded {} Tryz.checked os 6 .any (Rows.windowNewsSpec.pre6 enc Tryz.prog Tryz.f6 Rows.windowNewsRow.domain false) (Rows.windowNewsSpec.post enc Tryz.prog Tryz.f6 false true false false):=by
 refine returnsInHanded_of_change (C := Tryz.checked) own started (by kernel_rfl) Tryz.func6
   (ChangeSpec.witness6 (enc:=enc) (C:=Tryz.checked) false ⟨#[],#[.agg #[.int .i64 0,.int .i64 0,.int .i64 0,.int .i64 0],.int .u64 0,.int .u64 0],[]⟩ 8 (by kernel_rfl) (by kernel_rfl) (by kernel_rfl) (by kernel_rfl)) ?_
 intro W base args ds gs before hval0 hW hcnd _;have hval:∀(j:Nat) t v,Tryz.f6.params[j]? =some t→args[j]? =some v→Value.okWide Tryz.prog W .any base t v:=hval0;have hW' :=hW;obtain⟨p,q,hA0,hV,rfl,hfz,hnd⟩:=hW;have hA:DataW.TrodAll enc Tryz.prog W 0 (fun _=>true) true Tryz.f6.params.toList args.toList ds p:=hA0;rw[Tryz.params6]at hA hval;obtain⟨v0,vs0,d0,ds0,p0,q0,hargs,rfl,rfl,h0,r0⟩:=trodAll_cons hA;obtain⟨v1,vs1,d1,ds1,p1,q1,rfl,rfl,rfl,h1,r1⟩:=trodAll_cons r0;obtain⟨v2,vs2,d2,ds2,p2,q2,rfl,rfl,rfl,h2,r2⟩:=trodAll_cons r1;obtain⟨rfl,rfl,rfl⟩:=trodAll_nil r2;obtain rfl:args=#[v0,v1,v2]:=by cases args;simp_all
 obtain⟨rfl,rfl⟩:=trodVars_none hV;have k0:=h0;have lt0:∀x∈p0,x.block<W.heap.size:=by obtain⟨m,hm⟩:=k0;exact DataW.trod_lt m _ _ _ hm
 obtain⟨z0,rfl,w0⟩:=open_cfg (hval 0 55 v0 rfl rfl) h0;obtain⟨a1,rfl,rfl,rfl,w1⟩:=open_int Tryz.underlying26 (hval 1 26 v1 rfl rfl) h1;obtain⟨a2,rfl,rfl,rfl,w2⟩:=open_int Tryz.underlying26 (hval 2 26 v2 rfl rfl) h2;clear hA0 hval0;refine(walk_windowNews W z0 w0 a1 w1 a2 w2).mono fun e W' ⟨he,bel⟩=>?_;subst he;exact⟨_,rfl,_,_,_,[],_,[],hW', trodAll_mk1 (shut_bool Tryz.underlying4 _),(trodAll_cons_mk (Below.trod laidOut (by kernel_rfl) (of_decide_eq_true (by kernel_rfl)) k0 bel lt0) (trodAll_cons_mk (shut_int Tryz.underlying26 w1) (trodAll_cons_mk (shut_int Tryz.underlying26 w2) trodAll_mk0))),rfl,bel.frame _,fun h=>by cases h⟩
theorem over:Rows.windowNewsRow.holds Tryz.pinned (OpenSpec.ofChange Rows.windowNewsSpec):=
  OpenClaim.holds_of_wide 6 Tryz.f6 rfl rfl rfl rfl rfl rfl rfl ⟨rfl, rfl, rfl, rfl, rfl⟩ rfl rfl rfl rfl rfl (by kernel_rfl) Tryz.func6 (by kernel_rfl)
    (of_decide_eq_true (by kernel_rfl)) (by unfold Func.isWrapper;first|(rw[qI (by decide +kernel)];kernel_rfl)|(rw[qH (by decide +kernel)];exact⟨rfl,rfl⟩))
    (fun os started H enc _=>lifted os started H enc)
end Go.Proofs.YtgmnemndjjmgkaaGreat.windowNews
namespace Go.Proofs.YtgmnemndjjmgkaaGreat
theorem windowNews_holds:Rows.WindowNewsSaid:=windowNews.over
#print axioms windowNews_holds
end Go.Proofs.YtgmnemndjjmgkaaGreat
