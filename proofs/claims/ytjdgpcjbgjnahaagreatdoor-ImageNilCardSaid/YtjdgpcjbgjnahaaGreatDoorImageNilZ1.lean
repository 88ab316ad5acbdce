/- The statement 'ImageNil': for every input the call returns true, and each argument reads afterwards as it read before. -/
import Derived.Test.YtjdgpcjbgjnahaaGreatDoorB1
import Derived.Test.YtjdgpcjbgjnahaaGreatDoorB14
import Derived.Test.YtjdgpcjbgjnahaaGreatDoorTie
import Derived.Test.YtjdgpcjbgjnahaaGreatDoorCards
import Derived.SevenTiedAt
set_option maxRecDepth 10000
set_option maxHeartbeats 1600000
set_option linter.unusedSimpArgs false
set_option linter.unusedVariables false
/- ImageNil: the walk. -/
namespace Go.Proofs.YtjdgpcjbgjnahaaGreatDoor
open Go.RowKit
def zeroWin:List Value:=[.int .i64 0,.int .i64 0,.int .i64 0,.int .i64 0,.pointer none,.pointer none,.pointer none,.pointer none,.int .u64 0,.int .u64 0]
theorem walk_imageNil(W:World)(hL:eC W):
    Calls Tryz.prog 5 #[] W fun e W' =>e=.returned (.bool true)/\Below W.heap.size W W' :=by
 have HL:=qA hL;clear hL;have hz0:Wd W (W.alloc (.cells zeroWin.toArray 38)) [thB W.heap.size 38 zeroWin]:=
   (Wd.begin W).new (K:=[W.heap.size]) ((Fr.refl [] W).alloc _) ⟨Blk.new W zeroWin 38,rfl⟩ (by simp)
 have HN:=qA (aJU hz0 1 0 1 2 (by decide) (by decide) (by decide) (by decide) (by decide) (by decide) (by decide) (by decide));clear hz0;unfold zeroWin at HN;go_enter Tryz.func5,Tryz.ntmps5
 go_wp2_with fail
 refine HN.out.mono ?_;rintro _ w1 ⟨p,rfl,hW⟩;clear HN;have hW2:=(hW.new (t:=thB w1.heap.size 29 [.pointer none,.pointer (some ⟨W.heap.size,0,none⟩)]) (K:=[w1.heap.size]) ((Fr.refl [] w1).alloc (.cells #[.pointer none,.pointer (some ⟨W.heap.size,0,none⟩)] 29)) ⟨Blk.new w1 [.pointer none,.pointer (some ⟨W.heap.size,0,none⟩)] 29,rfl⟩ (by simp)).swap;have HP0:=qA hW2;have HPc:=qA (show(Ob.new 1 1 2 0 0).Pc from aKC (by decide));obtain⟨bz,hbz⟩:∃bz,bz=W.heap.size:=⟨_,rfl⟩;obtain⟨bl,hbl⟩:∃bl,bl=w1.heap.size:=⟨_,rfl⟩;rw[<-hbz,<-hbl]at HP0;generalize Ob.new 1 1 2 0 0=o at *;have HE:=qA (zH hbz hbl);clear hW hW2;go_wp2_with fail
 rw[<-HE.out.1,<-HE.out.2];clear hbz hbl;go_loopw [6,7,8] (fun c1 c2 c3 wr=>∃i:Nat,i<=2/\c1=.int .i64 i/\Hid (Wd W wr (thO p o::thB bl 29 [.pointer none,.pointer (some ⟨bz,0,none⟩)]::[thB bz 38 zeroWin]))) (fun c _ _ _=>2-(intOf c).toNat)
 case atStart=>exact⟨0,by omega,rfl,HP0⟩
 case round=>
  clear HP0;obtain⟨i,hi,rfl,HP⟩:=hrel;rename World=>wr
  by_cases hlt:i<2
  {
  have hi1:(i:Int)<2:=by omega
  have hi0:(0:Int)<=i:=by omega
  have hw1:IntKind.i64.wrap ((i:Int)+1)=((i+1:Nat):Int):=by rw[show(i:Int)+1=((i+1:Nat):Int) by omega];exact zF _ (by omega)
  obtain⟨pv,hpv⟩:∃pv,([.pointer none,.pointer (some ⟨bz,0,none⟩)]:List Value)[i]? =some (.pointer pv)/\∀w', Wd W w' (thO p o::thB bl 29 [.pointer none,.pointer (some ⟨bz,0,none⟩)]::[thB bz 38 zeroWin])->oL w' (.pointer pv):=by {
  have:i=0∨i=1:=by omega
  rcases this with rfl|rfl
  · exact⟨none,rfl,fun w' _=>oL.none w'⟩
  · exact⟨some ⟨bz,0,none⟩,rfl,fun w' h=>.inr ⟨bz,rfl,h.drop.drop.blk.cell 4⟩⟩};have HV:=qA hpv;have HC:=qA (fun w' (h:Wd W w' (thO p o::thB bl 29 [.pointer none,.pointer (some ⟨bz,0,none⟩)]::[thB bz 38 zeroWin]))=>(h.swap.blk.cell i).trans hpv.1);have c0:=HC.out _ HP.out;have HS:=qA (oM (hpv.2 _ HP.out) (HL.out.fr HP.out.frm (by simp)));clear hpv;go_wp2_with fail
  refine HS.out.mono ?_;rintro _ w2 ⟨rfl,hF⟩;have HP2:=qA (HP.out.fr0 hF);clear hF HS HP c0;go_wp2_with fail
  refine dQ (fun w' =>Wd W w' (thO p o::thB bl 29 [.pointer none,.pointer (some ⟨bz,0,none⟩)]::[thB bz 38 zeroWin])) (by kernel_rfl) (by kernel_rfl) (HP2.out.fr0 ((Fr.refl [] w2).drew)) ?_;iterate 11 (refine aL (by kernel_rfl) (fun KK hK=>?_);go_simp;refine hK.out _ ?_;clear hK KK)
  refine bS (by kernel_rfl) (.pointer pv) (fun w' hw' =>?_) ?_
  {
  have c0:=HC.out w' hw';go_simp;first|exact hw' | exact⟨rfl,hw'⟩|skip};iterate 1 (refine aL (by kernel_rfl) (fun KK hK=>?_);go_simp;refine hK.out _ ?_;clear hK KK)
  refine bS (by kernel_rfl) (.bool false) (fun w' hw' =>?_) ?_
  {
  go_simp;refine(aRV hw' HL.out HPc.out (HV.out.2 w' hw')).mono ?_;rintro _ w6 ⟨rfl,h1⟩;exact⟨rfl,h1⟩};iterate 6 (refine aL (by kernel_rfl) (fun KK hK=>?_);go_simp;refine hK.out _ ?_;clear hK KK)
  refine bS (by kernel_rfl) (.pointer pv) (fun w' hw' =>?_) ?_
  {
  have c0:=HC.out w' hw';go_simp;first|exact hw' | exact⟨rfl,hw'⟩|skip};refine bS (by kernel_rfl) (.bool false) (fun w' hw' =>?_) ?_
  {
  go_simp;refine(aRW hw' HL.out HPc.out (HV.out.2)).mono ?_;rintro _ w6 ⟨rfl,h1⟩;exact⟨rfl,h1⟩};iterate 5 (refine aL (by kernel_rfl) (fun KK hK=>?_);go_simp;refine hK.out _ ?_;clear hK KK)
  refine bS (by kernel_rfl) (.pointer pv) (fun w' hw' =>?_) ?_
  {
  have c0:=HC.out w' hw';go_simp;first|exact hw' | exact⟨rfl,hw'⟩|skip};iterate 3 (refine aL (by kernel_rfl) (fun KK hK=>?_);go_simp;refine hK.out _ ?_;clear hK KK)
  refine bS (by kernel_rfl) (.pointer pv) (fun w' hw' =>?_) ?_
  {
  have c0:=HC.out w' hw';go_simp;first|exact hw' | exact⟨rfl,hw'⟩|skip};refine bS (by kernel_rfl) (.bool false) (fun w' hw' =>?_) ?_
  {
  go_simp;refine(aRX (HV.out.2 w' hw') (HL.out.fr hw'.frm (by simp))).mono ?_;rintro _ w6 ⟨rfl,h1⟩;exact⟨rfl,hw'.fr0 h1⟩};iterate 1 (refine aL (by kernel_rfl) (fun KK hK=>?_);go_simp;refine hK.out _ ?_;clear hK KK)
  refine iB ?_;intro w5 hf5;have HP5:=qA hf5;clear hf5 HP2;go_wp2_with fail
  go_roundw
  case rel=>exact⟨i+1,by omega,by go_num,HP5⟩
  case measure=>simp[intOf];omega}
  {
  obtain rfl:i=2:=by omega
  have HWk:=qA (lP HP.out HL.out);clear HP;go_wp2_with fail
  refine HWk.out.mono ?_;rintro _ w5 ⟨rfl,hW⟩;have hB:=hW.below;clear hW HWk;go_wp2
  go_ret;exact⟨rfl,hB⟩}
end Go.Proofs.YtjdgpcjbgjnahaaGreatDoor
namespace Go.Proofs.YtjdgpcjbgjnahaaGreatDoor.imageNil
open Go.ChangeShapes Go.WideShapes Go.ChangeAt Go.RowKit
set_option linter.unusedVariables false
theorem own:ownKnob Tryz.prog.godebug=none:=by kernel_rfl
theorem laidOut:laidOutB Tryz.prog=true:=by kernel_rfl
set_option maxRecDepth 100000 in
theorem lifted(os:Os)(started:os.Started)(H:Type)(enc:TypeId×Value->H):
    ReturnsInHanded {} Tryz.checked os 5 .any (fun w args => (Rows.imageNilSpec.pre enc Tryz.prog Tryz.f5 [] false w args /\ laidMetH Tryz.prog aGR w) /\ sizedMet enc Tryz.prog Tryz.f5 (OpenSpec.ofChange Rows.imageNilSpec) false w args)
      (Rows.imageNilSpec.post enc Tryz.prog Tryz.f5 false true false false):=by
 refine returnsInHanded_of_change_and (C := Tryz.checked) (X := fun w _ => laidMetH Tryz.prog aGR w) (fun _ _ _ hh h => h.of_heap hh) own started (by kernel_rfl) Tryz.func5
   (ChangeSpec.witness_shaped (enc:=enc) (C:=Tryz.checked) (os:=os) (X:=fun w _=>laidMetH Tryz.prog aGR w) false (World.doorLaid Tryz.prog 18 os) #[] 8 rfl (World.shaped_of_RefB (by kernel_rfl) (by kernel_rfl)) (by kernel_rfl) (by kernel_rfl) (by kernel_rfl) (door43 os _)) ?_
 intro W base args ds gs before hval0 hW hcnd _ hL _;have hval:∀(j:Nat) t v,Tryz.f5.params[j]? =some t->args[j]? =some v->Value.okWide Tryz.prog W .any base t v:=hval0;have hW' :=hW;obtain⟨p,q,hA0,hV,rfl,hfz,hnd⟩:=hW;have hA:DataW.TrodAll enc Tryz.prog W 0 (fun _=>true) true Tryz.f5.params.toList args.toList ds p:=hA0;rw[Tryz.params5]at hA hval;obtain⟨hargs,rfl,rfl⟩:=trodAll_nil hA;obtain rfl:args=#[]:=by cases args;simp_all
 obtain⟨rfl,rfl⟩:=trodVars_none hV;clear hA0 hval0;refine(walk_imageNil W  (aQZ hL)).mono fun e W' ⟨he,bel⟩=>?_;subst he;exact⟨_,rfl,_,_,_,[],_,[],hW', trodAll_mk1 (shut_bool Tryz.underlying4 _),trodAll_mk0,rfl,bel.frame _,fun h=>by cases h⟩
theorem cl2:(laidOutB Tryz.pinned.checked.prog&&mapsRowed Tryz.pinned.checked.prog)=true:=by kernel_rfl
theorem cl10:(Rows.imageNilRow.inPlace == Tryz.pinned.checked.prog.inPlace 5)=true:=by kernel_rfl
theorem cl11:(Rows.imageNilRow.unfollowed == Tryz.pinned.checked.prog.unfollowed 5)=true:=by kernel_rfl
theorem cl12:(Rows.imageNilRow.recurses == Tryz.pinned.checked.prog.recurses 5)=true:=by kernel_rfl
theorem cl13:(Rows.imageNilRow.named == Tryz.pinned.checked.prog.varsNamed 5)=true:=by kernel_rfl
theorem closed:joinedFacts Tryz.pinned.checked.prog 5 Tryz.f5 Rows.imageNilSpec Rows.imageNilRow=true:=by
 have h2:=cl2;rw[qW]at h2;unfold joinedFacts;rw[h2.1,h2.2,cl10,cl11,cl12,cl13];show _=true
 kernel_rfl
theorem noInit:Tryz.prog.inits.idxOf? 5=none:=by kernel_rfl
theorem named:Tryz.pinned.checked.prog.funcNamed Rows.imageNilRow.func=some 5:=by kernel_rfl
theorem over:Rows.imageNilRow.holds Tryz.pinned (OpenSpec.ofChange Rows.imageNilSpec):=
  OpenClaim.holds_of_wide 5 Tryz.f5 rfl rfl rfl rfl rfl rfl rfl ⟨rfl, rfl, rfl, rfl, rfl⟩ rfl rfl rfl rfl rfl named Tryz.func5 closed
    (of_decide_eq_true (by kernel_rfl)) (by unfold Func.isWrapper;first|(rw[qD (by decide +kernel)];kernel_rfl)|(rw[qC (by decide +kernel)];exact⟨rfl,rfl⟩))
    (fun os started H enc _=>lifted os started H enc)
end Go.Proofs.YtjdgpcjbgjnahaaGreatDoor.imageNil
namespace Go.Proofs.YtjdgpcjbgjnahaaGreatDoor
theorem imageNil_holds:Rows.ImageNilCardSaid:=
  Claim7.holds_tied_plain_at .later [] [.data] true (true, "b794668284a096c90ab3d73d28c3344e75c0f6d39937ef53f4cd27343f4ba8a8") true
    imageNil.over (fun _ h=>by cases h) (by kernel_rfl) (fun _ h=>by cases h) imageNil_row_tie rfl ⟨rfl,rfl⟩ (by kernel_rfl) rfl
    (fun f fn hf hfn=>by
      obtain rfl : f = 5 := Option.some.inj ((show Tryz.prog.funcNamed "seepage/seepagelaw43.ImageNil" = some 5 by kernel_rfl).symm.trans hf) |>.symm
      obtain rfl:fn=Tryz.f5:=(Option.some.inj (Tryz.func5.symm.trans hfn)).symm;exact⟨by kernel_rfl,fun j t ht=>by
        have hm:t∈Tryz.f5.params.toList:=by simpa using Array.mem_of_getElem? ht
        have hall:(Tryz.f5.params.toList.all fun u=> !Tryz.prog.wantsStandIn u)=true:=by kernel_rfl
        exact(show Tryz.prog.wantsStandIn t=false by simpa using List.all_eq_true.1 hall t hm)⟩)
    (by kernel_rfl)
#print axioms imageNil_holds
end Go.Proofs.YtjdgpcjbgjnahaaGreatDoor
