/- The statement 'ImageSaves': for every input the call returns true, and each argument reads afterwards as it read before. -/
import Derived.Test.YtjdgpcjbgjnahaaGreatDoorF1
import Derived.Test.YtjdgpcjbgjnahaaGreatDoorTie
import Derived.Test.YtjdgpcjbgjnahaaGreatDoorCards
import Derived.SevenTiedAt
import Derived.Test.YtjdgpcjbgjnahaaGreatDoorF20
set_option linter.unusedSimpArgs false
set_option linter.unusedVariables false
namespace Go.Proofs.YtjdgpcjbgjnahaaGreatDoor.imageSaves
open Go.ChangeShapes Go.WideShapes Go.ChangeAt Go.RowKit
set_option linter.unusedVariables false
theorem own:ownKnob Tryz.prog.godebug=none:=by kernel_rfl
theorem laidOut:laidOutB Tryz.prog=true:=by kernel_rfl
set_option maxRecDepth 100000 in
theorem lifted(os:Os)(started:os.Started)(H:Type)(enc:TypeId×Value->H):
    ReturnsInHanded {} Tryz.checked os 7 .any (fun w args => (Rows.imageSavesSpec.pre enc Tryz.prog Tryz.f7 [] false w args /\ laidMetH Tryz.prog aMH w) /\ sizedMet enc Tryz.prog Tryz.f7 (OpenSpec.ofChange Rows.imageSavesSpec) false w args)
      (Rows.imageSavesSpec.post enc Tryz.prog Tryz.f7 false true false false):=by
 refine returnsInHanded_of_change_and (C := Tryz.checked) (X := fun w _ => laidMetH Tryz.prog aMH w) (fun _ _ _ hh h => h.of_heap hh) own started (by kernel_rfl) Tryz.func7
   (ChangeSpec.witness_shaped (enc:=enc) (C:=Tryz.checked) (os:=os) (X:=fun w _=>laidMetH Tryz.prog aMH w) false (World.doorLaid Tryz.prog 18 os) #[.agg #[.int .i64 0,.int .i64 0,.int .i64 0,.int .i64 0],.slice none 0 0] 8 rfl (World.shaped_of_RefB (by kernel_rfl) (by kernel_rfl)) (by kernel_rfl) (by kernel_rfl) (by kernel_rfl) (door43 os _)) ?_
 intro W base args ds gs before hval0 hW hcnd _ hL _;have hval:∀(j:Nat) t v,Tryz.f7.params[j]? =some t->args[j]? =some v->Value.okWide Tryz.prog W .any base t v:=hval0;have hW' :=hW;obtain⟨p,q,hA0,hV,rfl,hfz,hnd⟩:=hW;have hA:DataW.TrodAll enc Tryz.prog W 0 (fun _=>true) true Tryz.f7.params.toList args.toList ds p:=hA0;rw[Tryz.params7]at hA hval;obtain⟨v0,vs0,d0,ds0,p0,q0,hargs,rfl,rfl,h0,r0⟩:=trodAll_cons hA;obtain⟨v1,vs1,d1,ds1,p1,q1,rfl,rfl,rfl,h1,r1⟩:=trodAll_cons r0;obtain⟨rfl,rfl,rfl⟩:=trodAll_nil r1;obtain rfl:args=#[v0,v1]:=by cases args;simp_all
 obtain⟨rfl,rfl⟩:=trodVars_none hV;have k0:=h0;have lt0:∀x∈p0,x.block<W.heap.size:=by obtain⟨m,hm⟩:=k0;exact DataW.trod_lt m _ _ _ hm
 obtain⟨z0,rfl,w0⟩:=bAD (hval 0 31 v0 rfl rfl) h0;obtain⟨a1,len1,cap1,rfl⟩:=okWide_slice Tryz.underlying62 (hval 1 62 v1 rfl rfl);have k1:=h1;have lt1:∀x∈p1,x.block<W.heap.size:=by obtain⟨m,hm⟩:=k1;exact DataW.trod_lt m _ _ _ hm
 obtain⟨z1,w1⟩:=aVA h1;clear hA0 hval0;refine(walk_imageSaves W z0 w0 a1 len1 cap1 z1 w1 (aZH hL)).mono fun e W' ⟨he,bel⟩=>?_;subst he;exact⟨_,rfl,_,_,_,[],_,[],hW', trodAll_mk1 (shut_bool Tryz.underlying4 _),(trodAll_cons_mk (Below.trod laidOut (by kernel_rfl) (of_decide_eq_true (by kernel_rfl)) k0 bel lt0) (trodAll_cons_mk (Below.trod laidOut (by kernel_rfl) (of_decide_eq_true (by kernel_rfl)) k1 bel lt1) trodAll_mk0)),rfl,bel.frame _,fun h=>by cases h⟩
theorem cl2:(laidOutB Tryz.pinned.checked.prog&&mapsRowed Tryz.pinned.checked.prog)=true:=by kernel_rfl
theorem cl10:(Rows.imageSavesRow.inPlace == Tryz.pinned.checked.prog.inPlace 7)=true:=by kernel_rfl
theorem cl11:(Rows.imageSavesRow.unfollowed == Tryz.pinned.checked.prog.unfollowed 7)=true:=by kernel_rfl
theorem cl12:(Rows.imageSavesRow.recurses == Tryz.pinned.checked.prog.recurses 7)=true:=by kernel_rfl
theorem cl13:(Rows.imageSavesRow.named == Tryz.pinned.checked.prog.varsNamed 7)=true:=by kernel_rfl
theorem closed:joinedFacts Tryz.pinned.checked.prog 7 Tryz.f7 Rows.imageSavesSpec Rows.imageSavesRow=true:=by
 have h2:=cl2;rw[qY]at h2;unfold joinedFacts;rw[h2.1,h2.2,cl10,cl11,cl12,cl13];show _=true
 kernel_rfl
theorem noInit:Tryz.prog.inits.idxOf? 7=none:=by kernel_rfl
theorem named:Tryz.pinned.checked.prog.funcNamed Rows.imageSavesRow.func=some 7:=by kernel_rfl
theorem over:Rows.imageSavesRow.holds Tryz.pinned (OpenSpec.ofChange Rows.imageSavesSpec):=
  OpenClaim.holds_of_wide 7 Tryz.f7 rfl rfl rfl rfl rfl rfl rfl ⟨rfl, rfl, rfl, rfl, rfl⟩ rfl rfl rfl rfl rfl named Tryz.func7 closed
    (of_decide_eq_true (by kernel_rfl)) (by unfold Func.isWrapper;first|(rw[qD (by decide +kernel)];kernel_rfl)|(rw[qC (by decide +kernel)];exact⟨rfl,rfl⟩))
    (fun os started H enc _=>lifted os started H enc)
end Go.Proofs.YtjdgpcjbgjnahaaGreatDoor.imageSaves
namespace Go.Proofs.YtjdgpcjbgjnahaaGreatDoor
theorem imageSaves_holds:Rows.ImageSavesCardSaid:=
  Claim7.holds_tied_plain_at .later [] [.data] true (true, "b794668284a096c90ab3d73d28c3344e75c0f6d39937ef53f4cd27343f4ba8a8") true
    imageSaves.over (fun _ h=>by cases h) (by kernel_rfl) (fun _ h=>by cases h) imageSaves_row_tie rfl ⟨rfl,rfl⟩ (by kernel_rfl) rfl
    (fun f fn hf hfn=>by
      obtain rfl : f = 7 := Option.some.inj ((show Tryz.prog.funcNamed "seepage/seepagelaw43.ImageSaves" = some 7 by kernel_rfl).symm.trans hf) |>.symm
      obtain rfl:fn=Tryz.f7:=(Option.some.inj (Tryz.func7.symm.trans hfn)).symm;exact⟨by kernel_rfl,fun j t ht=>by
        have hm:t∈Tryz.f7.params.toList:=by simpa using Array.mem_of_getElem? ht
        have hall:(Tryz.f7.params.toList.all fun u=> !Tryz.prog.wantsStandIn u)=true:=by kernel_rfl
        exact(show Tryz.prog.wantsStandIn t=false by simpa using List.all_eq_true.1 hall t hm)⟩)
    (by kernel_rfl)
#print axioms imageSaves_holds
end Go.Proofs.YtjdgpcjbgjnahaaGreatDoor
