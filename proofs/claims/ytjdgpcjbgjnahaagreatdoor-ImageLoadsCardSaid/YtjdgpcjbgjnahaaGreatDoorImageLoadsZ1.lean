/- The statement 'ImageLoads': for every input the call returns true, and each argument reads afterwards as it read before. -/
import Derived.Test.YtjdgpcjbgjnahaaGreatDoorH13
import Derived.Test.YtjdgpcjbgjnahaaGreatDoorTie
import Derived.Test.YtjdgpcjbgjnahaaGreatDoorCards
import Derived.SevenTiedAt
import Derived.Test.YtjdgpcjbgjnahaaGreatDoorH16
set_option linter.unusedSimpArgs false
set_option linter.unusedVariables false
namespace Go.Proofs.YtjdgpcjbgjnahaaGreatDoor.imageLoads
open Go.ChangeShapes Go.WideShapes Go.ChangeAt Go.RowKit
set_option linter.unusedVariables false
theorem own:ownKnob Tryz.prog.godebug=none:=by kernel_rfl
theorem laidOut:laidOutB Tryz.prog=true:=by kernel_rfl
set_option maxRecDepth 100000 in
theorem lifted(os:Os)(started:os.Started)(H:Type)(enc:TypeId×Value->H):
    ReturnsInHanded {} Tryz.checked os 6 .any (fun w args => (Rows.imageLoadsSpec.pre enc Tryz.prog Tryz.f6 [] false w args /\ laidMetH Tryz.prog aLC w) /\ sizedMet enc Tryz.prog Tryz.f6 (OpenSpec.ofChange Rows.imageLoadsSpec) false w args)
      (Rows.imageLoadsSpec.post enc Tryz.prog Tryz.f6 false true false false):=by
 refine returnsInHanded_of_change_and (C := Tryz.checked) (X := fun w _ => laidMetH Tryz.prog aLC w) (fun _ _ _ hh h => h.of_heap hh) own started (by kernel_rfl) Tryz.func6
   (ChangeSpec.witness_shaped (enc:=enc) (C:=Tryz.checked) (os:=os) (X:=fun w _=>laidMetH Tryz.prog aLC w) false (World.doorLaid Tryz.prog 18 os) #[.slice none 0 0,.bool false] 8 rfl (World.shaped_of_RefB (by kernel_rfl) (by kernel_rfl)) (by kernel_rfl) (by kernel_rfl) (by kernel_rfl) (door43 os _)) ?_
 intro W base args ds gs before hval0 hW hcnd _ hL _;have hval:∀(j:Nat) t v,Tryz.f6.params[j]? =some t->args[j]? =some v->Value.okWide Tryz.prog W .any base t v:=hval0;have hW' :=hW;obtain⟨p,q,hA0,hV,rfl,hfz,hnd⟩:=hW;have hA:DataW.TrodAll enc Tryz.prog W 0 (fun _=>true) true Tryz.f6.params.toList args.toList ds p:=hA0;rw[Tryz.params6]at hA hval;obtain⟨v0,vs0,d0,ds0,p0,q0,hargs,rfl,rfl,h0,r0⟩:=trodAll_cons hA;obtain⟨v1,vs1,d1,ds1,p1,q1,rfl,rfl,rfl,h1,r1⟩:=trodAll_cons r0;obtain⟨rfl,rfl,rfl⟩:=trodAll_nil r1;obtain rfl:args=#[v0,v1]:=by cases args;simp_all
 obtain⟨rfl,rfl⟩:=trodVars_none hV;obtain⟨a0,len0,cap0,rfl⟩:=okWide_slice Tryz.underlying22 (hval 0 22 v0 rfl rfl);have k0:=h0;have lt0:∀x∈p0,x.block<W.heap.size:=by obtain⟨m,hm⟩:=k0;exact DataW.trod_lt m _ _ _ hm
 obtain⟨z0,w0⟩:=aSX Tryz.underlying22 Tryz.underlying5 (by kernel_rfl) h0;obtain⟨a1,rfl,rfl,rfl⟩:=open_bool Tryz.underlying4 (hval 1 4 v1 rfl rfl) h1;clear hA0 hval0;refine(walk_imageLoads W a0 len0 cap0 z0 w0 a1 (aTV hL)).mono fun e W' ⟨he,bel⟩=>?_;subst he;exact⟨_,rfl,_,_,_,[],_,[],hW', trodAll_mk1 (shut_bool Tryz.underlying4 _),(trodAll_cons_mk (Below.trod laidOut (by kernel_rfl) (of_decide_eq_true (by kernel_rfl)) k0 bel lt0) (trodAll_cons_mk (shut_bool Tryz.underlying4 a1) trodAll_mk0)),rfl,bel.frame _,fun h=>by cases h⟩
theorem cl2:(laidOutB Tryz.pinned.checked.prog&&mapsRowed Tryz.pinned.checked.prog)=true:=by kernel_rfl
theorem cl10:(Rows.imageLoadsRow.inPlace == Tryz.pinned.checked.prog.inPlace 6)=true:=by kernel_rfl
theorem cl11:(Rows.imageLoadsRow.unfollowed == Tryz.pinned.checked.prog.unfollowed 6)=true:=by kernel_rfl
theorem cl12:(Rows.imageLoadsRow.recurses == Tryz.pinned.checked.prog.recurses 6)=true:=by kernel_rfl
theorem cl13:(Rows.imageLoadsRow.named == Tryz.pinned.checked.prog.varsNamed 6)=true:=by kernel_rfl
theorem closed:joinedFacts Tryz.pinned.checked.prog 6 Tryz.f6 Rows.imageLoadsSpec Rows.imageLoadsRow=true:=by
 have h2:=cl2;rw[qX]at h2;unfold joinedFacts;rw[h2.1,h2.2,cl10,cl11,cl12,cl13];show _=true
 kernel_rfl
theorem noInit:Tryz.prog.inits.idxOf? 6=none:=by kernel_rfl
theorem named:Tryz.pinned.checked.prog.funcNamed Rows.imageLoadsRow.func=some 6:=by kernel_rfl
theorem over:Rows.imageLoadsRow.holds Tryz.pinned (OpenSpec.ofChange Rows.imageLoadsSpec):=
  OpenClaim.holds_of_wide 6 Tryz.f6 rfl rfl rfl rfl rfl rfl rfl ⟨rfl, rfl, rfl, rfl, rfl⟩ rfl rfl rfl rfl rfl named Tryz.func6 closed
    (of_decide_eq_true (by kernel_rfl)) (by unfold Func.isWrapper;first|(rw[qD (by decide +kernel)];kernel_rfl)|(rw[qC (by decide +kernel)];exact⟨rfl,rfl⟩))
    (fun os started H enc _=>lifted os started H enc)
end Go.Proofs.YtjdgpcjbgjnahaaGreatDoor.imageLoads
namespace Go.Proofs.YtjdgpcjbgjnahaaGreatDoor
theorem imageLoads_holds:Rows.ImageLoadsCardSaid:=
  Claim7.holds_tied_plain_at .later [] [.data] true (true, "b794668284a096c90ab3d73d28c3344e75c0f6d39937ef53f4cd27343f4ba8a8") true
    imageLoads.over (fun _ h=>by cases h) (by kernel_rfl) (fun _ h=>by cases h) imageLoads_row_tie rfl ⟨rfl,rfl⟩ (by kernel_rfl) rfl
    (fun f fn hf hfn=>by
      obtain rfl : f = 6 := Option.some.inj ((show Tryz.prog.funcNamed "seepage/seepagelaw43.ImageLoads" = some 6 by kernel_rfl).symm.trans hf) |>.symm
      obtain rfl:fn=Tryz.f6:=(Option.some.inj (Tryz.func6.symm.trans hfn)).symm;exact⟨by kernel_rfl,fun j t ht=>by
        have hm:t∈Tryz.f6.params.toList:=by simpa using Array.mem_of_getElem? ht
        have hall:(Tryz.f6.params.toList.all fun u=> !Tryz.prog.wantsStandIn u)=true:=by kernel_rfl
        exact(show Tryz.prog.wantsStandIn t=false by simpa using List.all_eq_true.1 hall t hm)⟩)
    (by kernel_rfl)
#print axioms imageLoads_holds
end Go.Proofs.YtjdgpcjbgjnahaaGreatDoor
