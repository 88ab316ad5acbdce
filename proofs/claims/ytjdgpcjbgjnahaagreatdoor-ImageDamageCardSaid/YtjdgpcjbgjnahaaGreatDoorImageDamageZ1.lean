/- The statement 'ImageDamage': for every input the call returns true, and each argument reads afterwards as it read before. -/
import Derived.Test.YtjdgpcjbgjnahaaGreatDoorD1
import Derived.Test.YtjdgpcjbgjnahaaGreatDoorTie
import Derived.Test.YtjdgpcjbgjnahaaGreatDoorCards
import Derived.SevenTiedAt
import Derived.Test.YtjdgpcjbgjnahaaGreatDoorD14
set_option linter.unusedSimpArgs false
set_option linter.unusedVariables false
namespace Go.Proofs.YtjdgpcjbgjnahaaGreatDoor.imageDamage
open Go.ChangeShapes Go.WideShapes Go.ChangeAt Go.RowKit
set_option linter.unusedVariables false
theorem own:ownKnob Tryz.prog.godebug=none:=by kernel_rfl
theorem laidOut:laidOutB Tryz.prog=true:=by kernel_rfl
set_option maxRecDepth 100000 in
theorem lifted(os:Os)(started:os.Started)(H:Type)(enc:TypeId×Value->H):
    ReturnsInHanded {} Tryz.checked os 9 .any (fun w args => (Rows.imageDamageSpec.pre enc Tryz.prog Tryz.f9 [] false w args /\ laidMetH Tryz.prog aIC w) /\ sizedMet enc Tryz.prog Tryz.f9 (OpenSpec.ofChange Rows.imageDamageSpec) false w args)
      (Rows.imageDamageSpec.post enc Tryz.prog Tryz.f9 false true false false):=by
 refine returnsInHanded_of_change_and (C := Tryz.checked) (X := fun w _ => laidMetH Tryz.prog aIC w) (fun _ _ _ hh h => h.of_heap hh) own started (by kernel_rfl) Tryz.func9
   (ChangeSpec.witness_shaped (enc:=enc) (C:=Tryz.checked) (os:=os) (X:=fun w _=>laidMetH Tryz.prog aIC w) false (World.doorLaid Tryz.prog 18 os) #[.int .u8 0,.slice none 0 0,.int .u16 0,.agg #[.int .u8 0,.int .u8 0,.int .u8 0,.int .u8 0],.bool false] 8 rfl (World.shaped_of_RefB (by kernel_rfl) (by kernel_rfl)) (by kernel_rfl) (by kernel_rfl) (by kernel_rfl) (door43 os _)) ?_
 intro W base args ds gs before hval0 hW hcnd _ hL _;have hval:∀(j:Nat) t v,Tryz.f9.params[j]? =some t->args[j]? =some v->Value.okWide Tryz.prog W .any base t v:=hval0;have hW' :=hW;obtain⟨p,q,hA0,hV,rfl,hfz,hnd⟩:=hW;have hA:DataW.TrodAll enc Tryz.prog W 0 (fun _=>true) true Tryz.f9.params.toList args.toList ds p:=hA0;rw[Tryz.params9]at hA hval;obtain⟨v0,vs0,d0,ds0,p0,q0,hargs,rfl,rfl,h0,r0⟩:=trodAll_cons hA;obtain⟨v1,vs1,d1,ds1,p1,q1,rfl,rfl,rfl,h1,r1⟩:=trodAll_cons r0;obtain⟨v2,vs2,d2,ds2,p2,q2,rfl,rfl,rfl,h2,r2⟩:=trodAll_cons r1;obtain⟨v3,vs3,d3,ds3,p3,q3,rfl,rfl,rfl,h3,r3⟩:=trodAll_cons r2;obtain⟨v4,vs4,d4,ds4,p4,q4,rfl,rfl,rfl,h4,r4⟩:=trodAll_cons r3;obtain⟨rfl,rfl,rfl⟩:=trodAll_nil r4;obtain rfl:args=#[v0,v1,v2,v3,v4]:=by cases args;simp_all
 obtain⟨rfl,rfl⟩:=trodVars_none hV;obtain⟨a0,rfl,rfl,rfl,w0⟩:=open_int Tryz.underlying5 (hval 0 5 v0 rfl rfl) h0;obtain⟨a1,len1,cap1,rfl⟩:=okWide_slice Tryz.underlying67 (hval 1 67 v1 rfl rfl);have k1:=h1;have lt1:∀x∈p1,x.block<W.heap.size:=by obtain⟨m,hm⟩:=k1;exact DataW.trod_lt m _ _ _ hm
 obtain⟨z1,w1⟩:=aOW h1;obtain⟨a2,rfl,rfl,rfl,w2⟩:=open_int Tryz.underlying76 (hval 2 76 v2 rfl rfl) h2;have k3:=h3;have lt3:∀x∈p3,x.block<W.heap.size:=by obtain⟨m,hm⟩:=k3;exact DataW.trod_lt m _ _ _ hm
 obtain⟨z3,rfl,w3⟩:=aSF (hval 3 77 v3 rfl rfl) h3;obtain⟨a4,rfl,rfl,rfl⟩:=open_bool Tryz.underlying4 (hval 4 4 v4 rfl rfl) h4;clear hA0 hval0;refine(walk_imageDamage W a0 w0 a1 len1 cap1 z1 w1 a2 w2 z3 w3 a4 (aSK hL)).mono fun e W' ⟨he,bel⟩=>?_;subst he;exact⟨_,rfl,_,_,_,[],_,[],hW', trodAll_mk1 (shut_bool Tryz.underlying4 _),(trodAll_cons_mk (shut_int Tryz.underlying5 w0) (trodAll_cons_mk (Below.trod laidOut (by kernel_rfl) (of_decide_eq_true (by kernel_rfl)) k1 bel lt1) (trodAll_cons_mk (shut_int Tryz.underlying76 w2) (trodAll_cons_mk (Below.trod laidOut (by kernel_rfl) (of_decide_eq_true (by kernel_rfl)) k3 bel lt3) (trodAll_cons_mk (shut_bool Tryz.underlying4 a4) trodAll_mk0))))),rfl,bel.frame _,fun h=>by cases h⟩
theorem cl2:(laidOutB Tryz.pinned.checked.prog&&mapsRowed Tryz.pinned.checked.prog)=true:=by kernel_rfl
theorem cl10:(Rows.imageDamageRow.inPlace == Tryz.pinned.checked.prog.inPlace 9)=true:=by kernel_rfl
theorem cl11:(Rows.imageDamageRow.unfollowed == Tryz.pinned.checked.prog.unfollowed 9)=true:=by kernel_rfl
theorem cl12:(Rows.imageDamageRow.recurses == Tryz.pinned.checked.prog.recurses 9)=true:=by kernel_rfl
theorem cl13:(Rows.imageDamageRow.named == Tryz.pinned.checked.prog.varsNamed 9)=true:=by kernel_rfl
theorem closed:joinedFacts Tryz.pinned.checked.prog 9 Tryz.f9 Rows.imageDamageSpec Rows.imageDamageRow=true:=by
 have h2:=cl2;rw[qW]at h2;unfold joinedFacts;rw[h2.1,h2.2,cl10,cl11,cl12,cl13];show _=true
 kernel_rfl
theorem noInit:Tryz.prog.inits.idxOf? 9=none:=by kernel_rfl
theorem named:Tryz.pinned.checked.prog.funcNamed Rows.imageDamageRow.func=some 9:=by kernel_rfl
theorem over:Rows.imageDamageRow.holds Tryz.pinned (OpenSpec.ofChange Rows.imageDamageSpec):=
  OpenClaim.holds_of_wide 9 Tryz.f9 rfl rfl rfl rfl rfl rfl rfl ⟨rfl, rfl, rfl, rfl, rfl⟩ rfl rfl rfl rfl rfl named Tryz.func9 closed
    (of_decide_eq_true (by kernel_rfl)) (by unfold Func.isWrapper;first|(rw[qD (by decide +kernel)];kernel_rfl)|(rw[qC (by decide +kernel)];exact⟨rfl,rfl⟩))
    (fun os started H enc _=>lifted os started H enc)
end Go.Proofs.YtjdgpcjbgjnahaaGreatDoor.imageDamage
namespace Go.Proofs.YtjdgpcjbgjnahaaGreatDoor
theorem imageDamage_holds:Rows.ImageDamageCardSaid:=
  Claim7.holds_tied_plain_at .later [] [.data] true (true, "b794668284a096c90ab3d73d28c3344e75c0f6d39937ef53f4cd27343f4ba8a8") true
    imageDamage.over (fun _ h=>by cases h) (by kernel_rfl) (fun _ h=>by cases h) imageDamage_row_tie rfl ⟨rfl,rfl⟩ (by kernel_rfl) rfl
    (fun f fn hf hfn=>by
      obtain rfl : f = 9 := Option.some.inj ((show Tryz.prog.funcNamed "seepage/seepagelaw43.ImageDamage" = some 9 by kernel_rfl).symm.trans hf) |>.symm
      obtain rfl:fn=Tryz.f9:=(Option.some.inj (Tryz.func9.symm.trans hfn)).symm;exact⟨by kernel_rfl,fun j t ht=>by
        have hm:t∈Tryz.f9.params.toList:=by simpa using Array.mem_of_getElem? ht
        have hall:(Tryz.f9.params.toList.all fun u=> !Tryz.prog.wantsStandIn u)=true:=by kernel_rfl
        exact(show Tryz.prog.wantsStandIn t=false by simpa using List.all_eq_true.1 hall t hm)⟩)
    (by kernel_rfl)
#print axioms imageDamage_holds
end Go.Proofs.YtjdgpcjbgjnahaaGreatDoor
