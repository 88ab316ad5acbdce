/- A window: the time goes on. -/
import Derived.Test.YtjdgpcjbgjnahaaGreatDoorE4
import Derived.Shelf.SlSortCmp.WholeK
import Derived.Shelf.Lay
import Derived.Ground.SlsfProg
import Derived.Test.YtjdgpcjbgjnahaaGreatDoorE5
import Derived.Test.YtjdgpcjbgjnahaaGreatDoorE10
import Derived.RangeFuncNested
import Derived.RangeFuncCalls
import Derived.Test.YtjdgpcjbgjnahaaGreatDoorE1
import Derived.RangeFuncBox
import Derived.RangeFuncLeaves
import Derived.Shelf.Abstract
import Derived.WalkKit
import Derived.OwnWalkIn
import Derived.TacticsInMore
import Derived.LoopNIn
import Derived.LoopIn
import Derived.Maps.AppendAt
set_option maxRecDepth 10000
set_option maxHeartbeats 1600000
set_option linter.unusedSimpArgs false
set_option linter.unusedVariables false
/- slices.SortFunc of edges by their sequence numbers. -/
namespace Go.Proofs.YtjdgpcjbgjnahaaGreatDoor
open Go.RowKit Go.Lib Go.Sort
instance:Inhabited Lv:=⟨Lv.z⟩
def Tryz.laysSortL_ren:Go.Shelf.Ren:=⟨fun|6=>104|15=>147|14=>146|28=>193|29=>194|20=>185|21=>186|22=>187|23=>188|24=>189|25=>190|26=>191|27=>192|46=>215|47=>216|48=>217|49=>218|50=>219|57=>233|n=>n,fun|22=>59|24=>74|25=>162|3=>3|39=>27|0=>0|53=>23|55=>36|4=>4|46=>275|45=>274|50=>164|5=>5|9=>9|66=>292|70=>295|76=>302|77=>303|n=>n,fun|n=>n⟩
theorem Tryz.laysSortL:Go.Proofs.SlLaysF0.n6 Tryz.prog Tryz.laysSortL_ren:={
  mixed:=by kernel_rfl
  f6:=⟨Tryz.f104.name,by decide,Tryz.func104.trans (congrArg some (by kernel_rfl))⟩
  f14:=⟨Tryz.f146.name,by decide,Tryz.func146.trans (congrArg some (by kernel_rfl))⟩
  f15:=Tryz.func147.trans (congrArg some (by kernel_rfl))
  f20:=⟨Tryz.f185.name,by decide,Tryz.func185.trans (congrArg some (by kernel_rfl))⟩
  f21:=⟨Tryz.f186.name,by decide,Tryz.func186.trans (congrArg some (by kernel_rfl))⟩
  f22:=⟨Tryz.f187.name,by decide,Tryz.func187.trans (congrArg some (by kernel_rfl))⟩
  f23:=⟨Tryz.f188.name,by decide,Tryz.func188.trans (congrArg some (by kernel_rfl))⟩
  f24:=⟨Tryz.f189.name,by decide,Tryz.func189.trans (congrArg some (by kernel_rfl))⟩
  f25:=⟨Tryz.f190.name,by decide,Tryz.func190.trans (congrArg some (by kernel_rfl))⟩
  f26:=⟨Tryz.f191.name,by decide,Tryz.func191.trans (congrArg some (by kernel_rfl))⟩
  f27:=⟨Tryz.f192.name,by decide,Tryz.func192.trans (congrArg some (by kernel_rfl))⟩
  f28:=Tryz.func193.trans (congrArg some (by kernel_rfl))
  f29:=Tryz.func194.trans (congrArg some (by kernel_rfl))
  f46:=⟨Tryz.f215.name,by decide,Tryz.func215.trans (congrArg some (by kernel_rfl))⟩
  f47:=Tryz.func216.trans (congrArg some (by kernel_rfl))
  f48:=Tryz.func217.trans (congrArg some (by kernel_rfl))
  f49:=⟨Tryz.f218.name,by decide,Tryz.func218.trans (congrArg some (by kernel_rfl))⟩
  f50:=⟨Tryz.f219.name,by decide,Tryz.func219.trans (congrArg some (by kernel_rfl))⟩
  f57:=⟨Tryz.f233.name,by decide,Tryz.func233.trans (congrArg some (by kernel_rfl))⟩
  t0:=Tryz.underlying0
  a0:=Tryz.isAgg0
  z0:=Tryz.sizeOf0
  v0:=Tryz.zeroValue0
  t3:=Tryz.underlying3
  a3:=Tryz.isAgg3
  z3:=Tryz.sizeOf3
  v3:=Tryz.zeroValue3
  t4:=Tryz.underlying4
  a4:=Tryz.isAgg4
  z4:=Tryz.sizeOf4
  v4:=Tryz.zeroValue4
  t5:=Tryz.underlying5
  a5:=Tryz.isAgg5
  z5:=Tryz.sizeOf5
  v5:=Tryz.zeroValue5
  t9:=Tryz.underlying9
  a9:=Tryz.isAgg9
  z9:=Tryz.sizeOf9
  v9:=Tryz.zeroValue9
  t22:=Tryz.underlying59
  a22:=Tryz.isAgg59
  z22:=Tryz.sizeOf59
  v22:=Tryz.zeroValue59
  t25:=Tryz.underlying162
  a25:=Tryz.isAgg162
  z25:=Tryz.sizeOf162
  v25:=Tryz.zeroValue162
  t39:=Tryz.underlying27
  a39:=Tryz.isAgg27
  z39:=Tryz.sizeOf27
  v39:=Tryz.zeroValue27
  t45:=Tryz.underlying274
  a45:=Tryz.isAgg274
  z45:=Tryz.sizeOf274
  v45:=Tryz.zeroValue274
  t46:=Tryz.underlying275
  a46:=Tryz.isAgg275
  z46:=Tryz.sizeOf275
  v46:=Tryz.zeroValue275
  t50:=Tryz.underlying164
  a50:=Tryz.isAgg164
  z50:=Tryz.sizeOf164
  v50:=Tryz.zeroValue164
  t53:=Tryz.underlying23
  a53:=Tryz.isAgg23
  z53:=Tryz.sizeOf23
  v53:=Tryz.zeroValue23
  t55:=Tryz.underlying36
  a55:=Tryz.isAgg36
  z55:=Tryz.sizeOf36
  v55:=Tryz.zeroValue36
  t66:=Tryz.underlying292
  a66:=Tryz.isAgg292
  z66:=Tryz.sizeOf292
  v66:=Tryz.zeroValue292
  t70:=Tryz.underlying295
  a70:=Tryz.isAgg295
  z70:=Tryz.sizeOf295
  v70:=Tryz.zeroValue295
  t76:=Tryz.underlying302
  a76:=Tryz.isAgg302
  z76:=Tryz.sizeOf302
  v76:=Tryz.zeroValue302
  t77:=Tryz.underlying303
  a77:=Tryz.isAgg303
  z77:=Tryz.sizeOf303
  v77:=Tryz.zeroValue303 }
def sH(a b:Lv):Int:=if a.seq<b.seq then -1 else if b.seq<a.seq then 1 else 0
theorem aAH(a b:Lv):ltOf sH a b=decide (a.seq<b.seq):=by
 unfold ltOf sH;by_cases h1:a.seq<b.seq
 · simp[h1]
 · by_cases h2:b.seq<a.seq<;>simp[h1,h2]
theorem aRR:SWO (ltOf sH) where
  irrefl x:=by rw[aAH];simp
  trans x y z h1 h2:=by rw[aAH]at *;simp at *;omega
  ntrans x y z h1 h2:=by rw[aAH]at *;simp at *;omega
theorem aCT(l:List Lv):(flatK lvC 7 l.toArray).toList=rowV l:=by
 refine List.ext_getElem? fun t=>?_;by_cases ht:t<l.length*7
 {
 have h7:t/7<l.length:=by omega
 have hm:t%7<7:=Nat.mod_lt _ (by omega);have h1:=yZ h7 (t%7) hm;rw[show t/7*7+t%7=t by omega]at h1;rw[h1,Array.getElem?_toList];have hc:t%7<(lvC l[t/7]).length:=by simp[lvC];omega
 rw[qL hc];simp only[flatK,List.size_toArray,Array.getElem?_map];rw[Array.getElem?_eq_getElem (by simpa using ht)];simp only[Array.getElem_range,Option.map_some];rw[getElem!_pos l.toArray (t/7) (by simpa using h7)];simp only[List.getElem_toArray];rw[getElem!_pos (lvC (l[t/7])) (t%7) hc]}
 · rw[zB (by simp;omega),zB (by rw[oU];omega)]
theorem mA:∀{L l:List Lv},l.Perm L->L.Pairwise (fun a b=>a.seq<b.seq)->l.Pairwise (fun a b=>a.seq<=b.seq)->l=L
  | [],l,hp,_,_=>List.Perm.eq_nil hp
  | a::r,[],hp,_,_=>by have:=hp.length_eq;simp at this
  | a::r,b::t,hp,hL,hl=>by
    rw[List.pairwise_cons]at hL hl;have hb:b∈a::r:=hp.subset (List.mem_cons_self ..);have ha:a∈b::t:=hp.symm.subset (List.mem_cons_self ..);have e:b=a:=by
      rcases qB.1 hb with e|hb
      · exact e
      · rcases qB.1 ha with e | ha
        · exact e.symm
        · have h1 := hL.1 b hb
          have h2:=hl.1 a ha;omega
    subst e;rw[mA (List.Perm.cons_inv hp) hL.2 hl.2]
theorem aAI(x:Int)(w:World):Calls Tryz.prog 148 #[.int .u64 x] w fun e w' =>e=.returned (.bool false)/\w' =w:=by
 go_enter Tryz.func148,Tryz.ntmps148
 go_wp2
 go_ret;exact⟨by simp,rfl⟩
theorem aJT(x y:Nat)(w:World):Calls Tryz.prog 106 #[.int .u64 x,.int .u64 y] w fun e w' =>e=.returned (.int .i64 (if x<y then -1 else if y<x then 1 else 0))/\w' =w:=by
 go_enter Tryz.func106,Tryz.ntmps106
 by_cases h1:x<y
 {
 have d1:decide ((x:Int)<(y:Int))=true:=qG (by omega);go_wp2_with (go_at_call 148;refine(aAI _ _).mono ?_;rintro e w' ⟨rfl,rfl⟩)
 go_ret;exact⟨by simp[h1],rfl⟩}
 {
 have d1:decide ((x:Int)<(y:Int))=false:=qF (by omega);by_cases h2:y<x
 {
 have d2:decide ((y:Int)<(x:Int))=true:=qG (by omega);go_wp2_with (go_at_call 148;refine(aAI _ _).mono ?_;rintro e w' ⟨rfl,rfl⟩)
 go_ret;exact⟨by simp[h1],rfl⟩}
 {
 have d2:decide ((y:Int)<(x:Int))=false:=qF (by omega);go_wp2_with (go_at_call 148;refine(aAI _ _).mono ?_;rintro e w' ⟨rfl,rfl⟩)
 go_ret;exact⟨by simp[h1],rfl⟩}}
theorem aCU(a b:Lv)(w:World):Calls Tryz.prog 105 #[lvA a,lvA b] w fun e w' =>e=.returned (.int .i64 (sH a b))/\∃q os', w' =grow (w.drewN q) os' :=by
 have hcon:=fun W=>aJT a.seq b.seq W;have hr:sH a b=if a.seq<b.seq then -1 else if b.seq<a.seq then 1 else 0:=rfl;rw[<-hr]at hcon;generalize sH a b=r at *;have HC:=qA hcon;clear hr hcon;go_enter Tryz.func105,Tryz.ntmps105
 go_wp2_with (go_at_call 106;refine(HC.out _).mono ?_;rintro e w' ⟨rfl,rfl⟩)
 go_ret;exact⟨rfl,0,_,by rw[alloc_eq_grow,alloc_eq_grow,grow_grow];rfl⟩
theorem aNV(blk off size:Nat)(w:World):CmpLays Tryz.prog 105 #[] lvC 7 sH blk off size w:=
  fun _ _ _ _ x y=>aCU x y _
theorem aNW(fv:Value)(w:World):Calls Tryz.prog 185 #[.slice none 0 0,.int .i64 0,.int .i64 0,fv] w fun e w' =>e=.returned (.tuple #[])/\w' =w:=by
 go_enter Tryz.func185,Tryz.ntmps185
 go_wp2
 refine wp_loop_rounds 1 ?_;rw[rounds_succ];go_wp2
 go_end0
 exact⟨rfl,rfl⟩
theorem aNX(k:Int)(fv:Value)(w:World):Calls Tryz.prog 146 #[.slice none 0 0,.int .i64 0,.int .i64 0,.int .i64 k,fv] w fun e w' =>e=.returned (.tuple #[])/\w' =w:=by
 go_enter Tryz.func146,Tryz.ntmps146
 go_wp2
 refine wp_loop_rounds 1 ?_;rw[rounds_succ];go_wp2_with (first|(go_at_call 185;refine(aNW _ _).mono ?_;rintro e w' ⟨rfl,rfl⟩))
 refine bodyPost_ret (v:=.tuple #[]) (results_none rfl _ _ _) rfl ?_;exact⟨rfl,rfl⟩
theorem aJU(fv:Value)(w:World):Calls Tryz.prog 104 #[.slice none 0 0,fv] w fun e w' =>e=.returned (.tuple #[])/\w' =w:=by
 have h:=Any.bits_Len Tryz.laysLen 0 w (by omega) (by omega);have HL:=qA h;clear h;go_enter Tryz.func104,Tryz.ntmps104
 go_wp2_with fail
 refine HL.out.mono ?_;rintro _ _ ⟨rfl,rfl⟩;go_wp2_with fail
 refine(aNX _ _ _).mono ?_;rintro _ w1 ⟨rfl,rfl⟩;go_wp2
 go_end0
 exact⟨rfl,rfl⟩
theorem aJV{w:World}{v:Value}{l L:List Lv}(h:dF w v l)(hn:l.length<=16384)(hp:l.Perm L)(hs:L.Pairwise fun a b=>a.seq<b.seq):
    Calls Tryz.prog 104 #[v,.func (.func 105) #[] #[]] w fun e w' =>e=.returned (.tuple #[])/\dF w' v L/\Fr v.ownBlock.toList w w' :=by
 have hl:=h.1;rcases h.2 with⟨rfl,h0⟩|⟨g,cap,cur,rfl,hg,hcur,hnc,hcm,hcs,htk⟩
 {
 have:l=[]:=List.length_eq_zero_iff.1 (by simpa using h0);subst this;have hL:L=[]:=List.Perm.eq_nil hp.symm;subst hL;refine(aJU _ w).mono ?_;rintro _ w' ⟨rfl,rfl⟩;exact⟨rfl,h,Fr.refl _ _⟩}
 {
 have eg:∀args w,(callFunc 105 args).run Tryz.prog w=.ok (.enter 105 args) w:=enters_of Tryz.func105 (by kernel_rfl) rfl;have hH:HoldsK lvC 7 w g 0 l.toArray:=by {
 intro j hj;have hj' :j<l.length*7:=by simpa using hj
 refine⟨?_,by simp[World.frozen?,hcur]⟩;have h1:(cur.toList.take (l.length*7))[j]? =(rowV l)[j]? :=by rw[htk]
 rw[List.getElem?_take_of_lt hj']at h1;simp only[World.cell?,hcur,Nat.zero_add];simp only[Option.isSome_none,Bool.false_eq_true,if_false];rw[<-Array.getElem?_toList,h1,<-aCT,Array.getElem?_toList,getElem!_pos _ j hj,Array.getElem?_eq_getElem hj];rfl};have hcon:=AnyQ.slices_SortFunc Tryz.laysSortL 7 Tryz.isAgg74 Tryz.sizeOf74 lvC (fun _=>rfl) (fun x u hu=>by simp[lvC]at hu;rcases hu with rfl|rfl|rfl|rfl|rfl|rfl|rfl<;>rfl) sH aRR 105 #[] g 0 cap l.toArray w eg (aNV g 0 l.toArray.size w) hH (qM.1 hcur).1 (by simp;omega);rw[List.size_toArray]at hcon;refine hcon.mono ?_;rintro _ w' ⟨rfl,d', m,os,hperm,hsort,rfl⟩;obtain⟨hsz,_,hpp⟩:=hperm;simp only[List.size_toArray]at hsz;have e1:d'.extract 0 l.length=d' :=by rw[<-hsz];simp
 have e2:l.toArray.extract 0 l.length=l.toArray:=by simp
 rw[e1,e2]at hpp;have hd:d'.toList=L:=by {
 refine mA (hpp.trans hp) hs ?_;rw[List.pairwise_iff_getElem];intro i j hi hj hij;have hi' :i<d'.size:=by simpa using hi
 have hj' :j<d'.size:=by simpa using hj
 have:=hsort i j (qS _) hij (by omega);rw[aAH,getElem!_pos d' i hi', getElem!_pos d' j hj']at this;simp only[decide_eq_false_iff_not]at this;simp only[Array.getElem_toList];omega};have hda:d' =L.toArray:=by rw[<-hd]
 subst hda;have hLl:L.length=l.length:=by simpa using hsz
 have hb:(sortWorldK lvC 7 w g 0 m L.toArray os).heap[g]? =some (.cells (putCells id 0 (flatK lvC 7 L.toArray) cur) 74 (0,0)):=by {
 unfold sortWorldK putRowK;rw[heap_grow_old _ _ (by simpa using (qM.1 hcur).1)];simp[putRow,mapBlock,Sort.ahead,Array.getElem?_modify,hcur,onCells]};refine⟨rfl,⟨by rw[oU],.inr ⟨g,cap,_,by rw[hLl],qS _,hb,by omega,hcm,by simp[putCells,hcs],?_⟩⟩,?_⟩
 {
 rw[<-aCT];refine List.ext_getElem? fun j=>?_;by_cases hj:j<L.length*7
 {
 rw[List.getElem?_take_of_lt hj,Array.getElem?_toList,Array.getElem?_toList];have hjc:j<cur.size:=by rw[hcs];omega
 have hjf:j<(flatK lvC 7 L.toArray).size:=by simpa using hj
 simp only[putCells,Array.getElem?_mapIdx,Array.getElem?_eq_getElem hjc,Option.map_some,qS,true_and,Nat.zero_add,qD hjf,Nat.sub_zero];rw[getElem!_pos _ j hjf,Array.getElem?_eq_getElem hjf];rfl}
 · rw[List.getElem?_take_eq_none (by omega),zB (by simp;omega)]}
 {
 refine(Fr.refl _ _).grown (row:=some g) ⟨rfl,rfl,rfl,by simp[sortWorldK,putRowK],fun k hk hne=>?_⟩ (fun k e=>.inl (by simp at e;simp[e,Value.ownBlock]));unfold sortWorldK putRowK;rw[heap_grow_old _ _ (by simpa using hk)];have:g≠k:=fun e=>hne (by rw[e]);simp[putRow,mapBlock,Sort.ahead,Array.getElem?_modify,this]}}
end Go.Proofs.YtjdgpcjbgjnahaaGreatDoor
namespace Go.Proofs.YtjdgpcjbgjnahaaGreatDoor
open Go.RowKit
theorem aJW{s:Sm}(h:s.Ok):((fJ s.A).map (aF s.L)).Perm s.L:=by
 have h1:(fJ s.A).Perm (s.L.map (·.slot)):=(List.perm_ext_iff_of_nodup (lA s.A) h.one).2 fun i=>by rw[iG,h.used];simp
 have h2:=h1.map (aF s.L);rw[List.map_map]at h2;have h3:s.L.map (aF s.L ∘ fun e=>e.slot)=s.L:=by {
 (conv=>rhs;rw[<-List.map_id s.L])
 exact List.map_congr_left fun e he=>gB h.one he};rw[h3]at h2;exact h2
section
variable {w w' :World} {ps:Nat} {s:Sm} {K:List Nat}
theorem aRS(h:bA w ps s K):Calls Tryz.prog 65 #[fF ps] w fun e w' =>∃v,e=.returned v/\dF w' v s.L/\(∀q,v.ownBlock=some q->w.heap.size<=q)/\Fr [] w w' :=by
 have HV:=qA (gS h);obtain⟨pa,pt,mb,n,vl,la,lT,lb,c,hB,rfl,c0,c1,c2,c3,c4,c5,c6⟩:=h.open;have HL:=qA (tW hB.ar);have HB:=qA hB;have HLT:=qA hB.lt;clear h hB c0 c1 c2 c4 c6;go_enter Tryz.func65,Tryz.ntmps65
 go_wp2_with fail
 refine HV.out.mono ?_;rintro _ w ⟨rfl,rfl⟩;go_wp2_with fail
 refine HL.out.mono ?_;rintro _ w1 ⟨v,rfl,hown,hnew,hF1⟩;have hrow:dO w1 v (fJ s.A):=hown;obtain⟨av,cv,rfl⟩:=hrow.slice;obtain⟨U,hU⟩:∃U,U=fJ s.A:=⟨_,rfl⟩;have hUu:∀i∈U,aF s.L i∈s.L/\(aF s.L i).slot=i:=fun i hi=>by
   rw[hU,iG]at hi;exact Sm.live_used HB.out.ok hi
 have hperm:=aJW HB.out.ok;have hUl:U.length<=16384:=by {
 rw[hU,rG HB.out.ok.ar];have h2:=HB.out.ok.ar.hb;have h3:=HB.out.ok.sl;have h4:=HB.out.ok.leE;unfold Ar.used;omega};rw[<-hU]at hown hrow hperm hnew ⊢;clear hU hown HL HV;have HU:=qA (zI hUu (zI hperm hUl));clear hUu hperm;have HR:=qA (zI hrow (zI hnew hF1));clear hrow hnew hF1;go_wp2_with fail
 go_loopw [3,15] (fun x y wr=>∃(k:Nat) (v' :Value),k<=U.length/\y=.int .i64 k/\x=v' /\ Hid (dF wr v' ((U.take k).map (aF s.L))/\(∀q,v'.ownBlock=some q->w1.heap.size<=q)/\Fr [] w1 wr)) (fun _ y _=>U.length-(intOf y).toNat)
 case atStart=>exact⟨0,_,qS _,rfl,rfl,qA ⟨dF.nil _,fun q e=>(by cases e),Fr.refl _ _⟩⟩
 case round=>
  obtain⟨k,v', hk,rfl,rfl,HS⟩:=hrel;rename World=>wr
  by_cases hlt:k<U.length
  {
  have hki:(k:Int)<U.length:=by omega
  obtain⟨bI,cI,eI,hbI,hcI⟩:=(HR.out.1.fr0 HS.out.2.2).at hlt;simp only[qP,true_and]at eI;obtain⟨rfl,rfl⟩:=eI;obtain⟨x,hx⟩:∃x,x=U[k]:=⟨_,rfl⟩;obtain⟨hm,hs⟩:=HU.out.1 x (by rw[hx];exact List.getElem_mem hlt);have hxn:x<n:=by have:=HB.out.sn _ hm;omega
  have hxi:(x:Int)<n:=by omega
  have hF:Fr [] w wr:=HR.out.2.2.trans' HS.out.2.2;obtain⟨b,cap,ev,_,hb,hz,hat⟩:=(HB.out.lv.fr0 hF).at (i:=x) (by simp;omega);simp only[List.length_map,List.length_range]at ev;have k5:=hF.cell c5 (by simp);rw[ev]at k5;simp only[List.getElem_map,List.getElem_range]at hat;rw[<-hx]at hcI;obtain⟨e,he⟩:∃e,e=aF s.L x:=⟨_,rfl⟩;rw[<-he]at hat;have HE:=qA (zI he hx);clear he hx hm hs hz;obtain⟨e0,e1,e2,e3,e4,e5,e6⟩:=hat;obtain⟨ar,cr,er⟩:=HS.out.1.slice;have hlk:((U.take k).map (aF s.L)).length=k:=by simp;omega
  rw[hlk]at er;subst er;have hrow:(wr.alloc (.cells (lvC e).toArray 74)).ownsRow 0 74 7 (.slice ar k cr) k (rowV ((U.take k).map (aF s.L))):=by {
  have:=HS.out.1.fr0 ((Fr.refl [] wr).alloc (.cells (lvC e).toArray 74));unfold dF at this;rw[hlk]at this;exact this};have HRW:=qA hrow;clear hrow;have HZ:=qA (Blk.new wr (lvC e) 74);have H7:=qA (show ∀u∈lvC e,u.oneCell' =true from fun u hu=>by simp[lvC]at hu;rcases hu with rfl|rfl|rfl|rfl|rfl|rfl|rfl<;>rfl);have hUl2:=HU.out.2.2;go_wp2_with (first|(at_builtin;refine lH rfl _ _ 59 rfl 74 yY 7 56 Tryz.underlying59 Tryz.info74 rfl (by decide) (.slice ar k cr) k _ rfl HRW.out wr.heap.size 74 (lvC e) rfl HZ.out rfl H7.out (by omega) (by decide) ?_;intro g' cap' w6 hown6 hgrow6 hg6;have hF6:Fr (Value.slice ar k cr).ownBlock.toList (wr.alloc (.cells (lvC e).toArray 74)) w6:=(Fr.refl _ _).grown hgrow6 (fun q e=>.inl (by simp[e])))|fail)
  go_roundw
  case rel=>
   have hs6:=hF6.size;have hown7:dF w6 (.slice (some ⟨g', 0,none⟩) (k+1) cap') ((U.take (k+1)).map (aF s.L)):=by {
   rw[List.take_add_one,qL hlt,Option.toList_some,List.map_append,List.map_cons,List.map_nil,<-HE.out.2,<-HE.out.1];unfold dF;rw[xE,zF,hlk];exact hown6};refine⟨k+1,_,by omega,by go_num,rfl,qA ⟨hown7,?_,?_⟩⟩
   {
   intro q hq;simp only[Value.ownBlock,qI]at hq;subst hq;rcases hg6 with h6|h6
   · exact HS.out.2.1 _ h6
   {
   have:=HS.out.2.2.size;simp only[World.size_alloc]at h6;omega}}
   · exact(HS.out.2.2.alloc _).trans hF6 (fun q hq=>.inr (HS.out.2.1 q (by simpa using hq)))
  case measure=>simp[intOf];omega}
  {
  obtain rfl:k=U.length:=by omega
  have hrow:=HS.out.1;rw[List.take_length]at hrow;have HSO:=qA (aJV hrow (by rw[List.length_map];exact HU.out.2.2) HU.out.2.1 HB.out.ok.seq);clear hrow;go_wp2_with fail
  refine HSO.out.mono ?_;rintro _ w9 ⟨rfl,hr9,hF9⟩;have HR9:=qA (zI hr9 hF9);clear hr9 hF9;go_wp2
  go_ret;have hs1:=HR.out.2.2.size;refine⟨_,rfl,HR9.out.1,fun q hq=>zH hs1 (HS.out.2.1 q hq),?_⟩;exact(HR.out.2.2.trans' HS.out.2.2).trans HR9.out.2 (fun q hq=>.inr (zH hs1 (HS.out.2.1 q (by simpa using hq))))}
end
abbrev cJ(p:Nat):Value:=.pointer (some ⟨p,0,none⟩)
section
variable {w w' :World} {pw pc ps px pf:Nat} {P:Wp} {Ks lx Lf:List Nat} {cl:Nat->Nat}
theorem dC(h:cU w pw pc ps px pf P Ks lx Lf cl):Calls Tryz.prog 57 #[cJ pw] w fun e w' =>e=.returned (.bool true)/\w' =w:=by
 have c4:=h.hd.cell 4;simp only[zJ,zK]at c4;clear h;go_enter Tryz.func57,Tryz.ntmps57
 go_wp2
 go_ret;exact⟨rfl,rfl⟩
theorem aVC(h:cU w pw pc ps px pf P Ks lx Lf cl):Calls Tryz.prog 29 #[cJ pw] w fun e w' =>e=.returned (.int .i64 P.now)/\w' =w:=by
 have HV:=qA (dC h);have HN:=qA (aVA h.clk);have c4:=h.hd.cell 4;simp only[zJ,zK]at c4;clear h;go_enter Tryz.func29,Tryz.ntmps29
 go_wp2_with fail
 refine HV.out.mono ?_;rintro _ w ⟨rfl,rfl⟩;go_wp2_with fail
 refine HN.out.mono ?_;rintro _ w ⟨rfl,rfl⟩;go_wp2
 go_ret;exact⟨rfl,rfl⟩
theorem aRT(h:cU w pw pc ps px pf P Ks lx Lf cl):Calls Tryz.prog 34 #[cJ pw] w fun e w' =>∃v,e=.returned v/\dF w' v P.s.L/\(∀q,v.ownBlock=some q->w.heap.size<=q)/\Fr [] w w' :=by
 have HV:=qA (dC h);have HL:=qA (aRS h.st);have c5:=h.hd.cell 5;simp only[zJ,zK]at c5;clear h;go_enter Tryz.func34,Tryz.ntmps34
 go_wp2_with fail
 refine HV.out.mono ?_;rintro _ w ⟨rfl,rfl⟩;go_wp2_with fail
 refine HL.out.mono ?_;rintro _ w1 ⟨v,rfl,h1⟩;have H1:=qA h1;clear h1;go_wp2
 go_ret;exact⟨v,rfl,H1.out⟩
theorem aVD(h:cU w pw pc ps px pf P Ks lx Lf cl):Calls Tryz.prog 80 #[cJ pw] w fun e w' =>∃v,e=.returned v/\oX w' v P.s.ids/\(∀q,v.ownBlock=some q->w.heap.size<=q)/\Fr [] w w' :=by
 have HV:=qA (dC h);have HL:=qA (aTZ h.st);have c5:=h.hd.cell 5;simp only[zJ,zK]at c5;clear h;go_enter Tryz.func80,Tryz.ntmps80
 go_wp2_with fail
 refine HV.out.mono ?_;rintro _ w ⟨rfl,rfl⟩;go_wp2_with fail
 refine HL.out.mono ?_;rintro _ w1 ⟨v,rfl,h1⟩;have H1:=qA h1;clear h1;go_wp2
 go_ret;exact⟨v,rfl,H1.out⟩
def dV(s:Sm)(u v:Nat):Int:=if (s.M.find u).isSome=true/\(s.M.find v).isSome=true then 0 else 13
def dR(s:Sm)(u v:Nat):Nat:=if (s.M.find u).isSome=true/\(s.M.find v).isSome=true then(s.M.find u).getD 0 else 0
theorem aRU(h:cU w pw pc ps px pf P Ks lx Lf cl)(u v:Nat)(hu:u<18446744073709551616)(hv:v<18446744073709551616):
    Calls Tryz.prog 125 #[cJ pw,.int .u64 u,.int .u64 v] w fun e w' =>e=.returned (.tuple #[.int .i64 (dR P.s u v),.int .i64 (dR P.s v u),.int .i64 (dV P.s u v)])/\Fr [] w w' :=by
 have HV:=qA (dC h);have HU:=qA (oW h.st u hu);have HW:=qA (fun(w' :World) (hf:Fr [] w w')=>oW (h.st.fr0 hf) v hv);have c5:=h.hd.cell 5;simp only[zJ,zK]at c5;clear h;unfold dR dV;generalize hi:(P.s.M.find u).isSome=iu at *;generalize hj:(P.s.M.find v).isSome=iv at *;generalize (P.s.M.find u).getD 0=a at *;generalize (P.s.M.find v).getD 0=b at *;clear hi hj;go_enter Tryz.func125,Tryz.ntmps125
 go_wp2_with fail
 refine HV.out.mono ?_;rintro _ w ⟨rfl,rfl⟩;go_wp2_with fail
 refine HU.out.mono ?_;rintro _ w1 ⟨rfl,hF1⟩;have c5:=hF1.cell c5 (by simp);have HW1:=qA (HW.out w1 hF1);have HF1:=qA hF1;clear hF1 HW HU HV;go_wp2_with fail
 refine HW1.out.mono ?_;rintro _ w2 ⟨rfl,hF2⟩;have HF2:=qA (HF1.out.trans' hF2);clear hF2 HF1 HW1 c5;cases iu<;>cases iv
 all_goals
  go_wp2
  go_ret3;exact⟨rfl,HF2.out⟩
end
section
variable {w w' :World} {pf S V:Nat} {G:bX} {L:List Nat}
theorem FAt.fo(h:FAt w pf S V G L):FO { w with heap:=#[] } w pf S V G L:=
  ⟨h,⟨rfl,rfl,rfl,qS _,fun b hb=>absurd hb (Nat.not_lt_zero _)⟩,fun q _=>qS _⟩
def FMv(w w' :World)(pf S V:Nat)(G:bX)(L:List Nat):Prop:=∃L', FAt w' pf S V G L' /\ Fr L w w' /\ ∀q∈L', q∈L∨w.heap.size<=q
theorem FM.mv{w0:World}{G' :bX}(h:FM w0 w w' pf S V G' L):FMv w w' pf S V G' L:=by
 obtain⟨L', h1,h2,h3⟩:=h;exact⟨L', h1.f,h2,h3⟩
theorem aVE(h:FAt w pf S V G L)(s a b x:Int)(hx:-9223372036854775808<=x/\x<=9223372036854775807):
    Calls Tryz.prog 138 #[cH pf,.int .i64 s,.int .i64 a,.int .i64 b,.int .i64 x] w fun e w' =>e=.returned (.int .i64 (eO S V G s a b))/\FMv w w' pf S V (sW S V G s a b x) L:=
  (aUV h.fo s a b x hx).mono fun _ _ h=>⟨h.1,h.2.mv⟩
theorem aVF(h:FAt w pf S V G L):Calls Tryz.prog 108 #[cH pf] w fun e w' =>e=.returned (.tuple #[.int .i64 ((pM G).getD 0:Nat),.bool (pM G).isSome])/\FMv w w' pf S V (wN G) L:=
  (aUW h.fo).mono fun _ _ h=>⟨h.1,h.2.mv⟩
theorem aNY(h:FAt w pf S V G L)(a b:Int):Calls Tryz.prog 126 #[cH pf,.int .i64 a,.int .i64 b] w fun e w' =>e=.returned (.tuple #[.int .i64 (fI V G a b),.bool (dK V G a b)])/\FMv w w' pf S V G L:=
  (aNQ h.fo a b).mono fun _ _ h=>⟨h.1,h.2.mv⟩
theorem aNZ(h:FAt w pf S V G L):Calls Tryz.prog 61 #[cH pf] w fun e w' =>e=.returned (.int .i64 (kS V G))/\Fr [] w w' :=
  (aNR h.fo).mono fun _ _ h=>⟨h.1,h.2.2⟩
end
def WMv(w w' :World)(pw pc ps px pf:Nat)(P:Wp)(Ks lx Lf:List Nat):Prop:=∃Lf' cl', cU w' pw pc ps px pf P Ks lx Lf' cl' /\ Fr Lf w w' /\ ∀q∈Lf', q∈Lf∨w.heap.size<=q
section
variable {w w' :World} {pw pc ps px pf:Nat} {P:Wp} {Ks lx Lf:List Nat} {cl:Nat->Nat}
theorem cU.mv(h:cU w pw pc ps px pf P Ks lx Lf cl){w1:World}(hF:Fr [] w w1)(hm:FMv w1 w' pf P.E P.V P.G Lf):WMv w w' pw pc ps px pf P Ks lx Lf:=by
 obtain⟨L', h1,h2,h3⟩:=hm;have hs:=hF.size;obtain⟨cl', h4⟩:=(h.fr0 hF).setFo h1 h2 h3;exact⟨L', cl', h4,(hF.mono (by simp)).trans' h2,fun q hq=>(h3 q hq).imp id (fun e=>by omega)⟩
theorem cU.mv0(h:cU w pw pc ps px pf P Ks lx Lf cl)(hF:Fr [] w w'):WMv w w' pw pc ps px pf P Ks lx Lf:=⟨Lf,cl,h.fr0 hF,hF.mono (by simp),fun _ hq=>.inl hq⟩
noncomputable def kO(P:Wp)(u v:Nat):Bool:=if dV P.s u v=0 then nV P.V P.G (dR P.s u v) (dR P.s v u) else false
noncomputable def iO(P:Wp)(u v:Nat):Bool:=if dV P.s u v=0 then dK P.V P.G (dR P.s u v) (dR P.s v u) else false
noncomputable def pR(P:Wp)(u v:Nat):Int:=if dV P.s u v=0 then fI P.V P.G (dR P.s u v) (dR P.s v u) else 0
theorem aOA(h:cU w pw pc ps px pf P Ks lx Lf cl)(u v:Nat)(hu:u<18446744073709551616)(hv:v<18446744073709551616):
    Calls Tryz.prog 81 #[cJ pw,.int .u64 u,.int .u64 v] w fun e w' =>e=.returned (.tuple #[.int .i64 (pR P u v),.bool (iO P u v),.int .i64 (dV P.s u v)])/\WMv w w' pw pc ps px pf P Ks lx Lf:=by
 have HE:=qA (aRU h u v hu hv);have HB:=qA h;have HC:=qA (fun(w' :World) (hf:Fr [] w w')=>aNY (h.fo.fr hf (by simp)) (dR P.s u v) (dR P.s v u));have c7:=h.hd.cell 7;simp only[zJ,zK]at c7;clear h;unfold iO pR;by_cases hc:dV P.s u v=0
 {
 rw[qD hc,qD hc,hc];rw[hc]at HE;generalize dK P.V P.G (dR P.s u v) (dR P.s v u)=bb at *;generalize fI P.V P.G (dR P.s u v) (dR P.s v u)=tt at *;generalize dR P.s u v=a at *;generalize dR P.s v u=b at *;clear hc;go_enter Tryz.func81,Tryz.ntmps81
 go_wp2_with fail
 refine HE.out.mono ?_;rintro _ w1 ⟨rfl,hF1⟩;have c7:=hF1.cell c7 (by simp);have HC1:=qA (HC.out w1 hF1);have HF1:=qA hF1;clear hF1 HC HE;go_wp2_with fail
 refine HC1.out.mono ?_;rintro _ w2 ⟨rfl,hM⟩;have HM:=qA (HB.out.mv HF1.out hM);clear hM;go_wp2
 go_ret3;exact⟨rfl,HM.out⟩}
 {
 rw[qC hc,qC hc];generalize dV P.s u v=cc at *;generalize dR P.s u v=a at *;generalize dR P.s v u=b at *;have d1:(cc != 0)=true:=by simp[hc]
 clear hc HC;go_enter Tryz.func81,Tryz.ntmps81
 go_wp2_with fail
 refine HE.out.mono ?_;rintro _ w1 ⟨rfl,hF1⟩;have HF1:=qA hF1;clear hF1 HE;go_wp2
 go_ret3;exact⟨rfl,HB.out.mv0 HF1.out⟩}
end
section
variable {w w' :World} {ph px slots n:Nat} {Q:Nat->Option Int} {l S:List Nat}
theorem aOB(h:dE w ph slots Q n l){i:Nat}(hi:i<slots)(hQ:Q i=none):
    Calls Tryz.prog 209 #[aP ph,.int .i64 i] w fun e w' =>e=.returned (.tuple #[.int .i64 0,.int .i64 5])/\w' =w:=by
 obtain⟨e,pl,v,gp,cp,bs,hm,hk,hp,hq,rfl⟩:=h;have hpl:pl i=0:=by {
 apply qQ;intro h0;obtain⟨p,hpn,hpe⟩:=hk.inv i h0;have:=(hq i (e p).2).2 ⟨p,hpn,by rw[<-hpe]⟩;rw[hQ]at this;cases this};have HV:=qA (lV hm);have HH:=qA (aNE hm hi);have hP:=aGY hm hi;rw[hpl]at hP;have HP:=qA hP;have t1:(((0:Nat):Int)-1 == -1)=true:=by decide
 have t2:((0:Int)-1 == -1)=true:=by decide
 clear hm hk hp hq hQ hpl hP;go_enter Tryz.func209,Tryz.ntmps209
 go_wp2_with fail
 refine HV.out.mono ?_;rintro _ w ⟨rfl,rfl⟩;go_wp2_with fail
 refine HH.out.mono ?_;rintro _ w ⟨rfl,rfl⟩;go_wp2_with fail
 refine HP.out.mono ?_;rintro _ w ⟨rfl,rfl⟩;go_wp2
 go_ret2;exact⟨rfl,rfl⟩
theorem aRV(h:dE w ph slots Q n l){i:Nat}(hi:i<slots)(hQ:Q i=none):
    Calls Tryz.prog 208 #[aP ph,.int .i64 i] w fun e w' =>e=.returned (.tuple #[.int .i64 0,.bool false])/\w' =w:=by
 have HF:=qA (aOB h hi hQ);clear h hQ;go_enter Tryz.func208,Tryz.ntmps208
 go_wp2_with fail
 refine HF.out.mono ?_;rintro _ w ⟨rfl,rfl⟩;go_wp2
 go_ret2;exact⟨rfl,rfl⟩
theorem aRW{bs bi bt:Nat}(h:cQ w px slots Q n l){i:Nat}(hi:i<slots)(hQ:Q i=none)(x:Int)(cs:w.cell? ⟨bs,0,none⟩=some (aP px))(ci:w.cell? ⟨bi,0,none⟩=some (.int .i64 i))(ct:w.cell? ⟨bt,0,none⟩=some (.int .i64 x)):
    Calls Tryz.prog 175 #[.bool false,.pointer (some ⟨bs,0,none⟩),.pointer (some ⟨bi,0,none⟩),.pointer (some ⟨bt,0,none⟩)] w fun e w' =>e=.returned (.int .i64 0)/\∃l', cQ w' px slots (nK Q i (some x)) (n+1) l' /\ Fr l w w' /\ ∀b∈l', b∈l∨w.heap.size<=b:=by
 obtain⟨ph,lh,h1,h2,h3,rfl⟩:=h;have c1:=h1.cell 1;simp only[zJ,zK]at c1;have HP:=qA (fun(nq:Nat)=>aHD (h2.fr ((Fr.refl [] w).drewN nq) (by simp)) hi hQ x);have HX:=qA (zI h1 (zI h2 h3));clear h1 h2 h3 hQ;go_enter Tryz.func175,Tryz.ntmps175
 go_wp2_with fail
 refine bF 6 (fun w' =>∃lh', dE w' ph slots (nK Q i (some x)) (n+1) lh' /\ Fr lh w w' /\ ∀b∈lh', b∈lh∨w.heap.size<=b) (by kernel_rfl) (by kernel_rfl) (by kernel_rfl) ?_;iterate 6 (refine bM (by decide) (fun K hK=>?_);go_simp;refine hK _ ?_;clear hK K)
 refine aU rfl (.int .i64 0) (fun w' hw' =>?_) ?_
 {
 obtain⟨nq,rfl⟩:=hw';go_simp;refine(HP.out nq).mono ?_;rintro _ w1 ⟨rfl,lh', k1,k2,k3⟩;exact⟨rfl,lh', k1,((Fr.refl lh w).drewN nq).trans' k2,fun b hb=>(k3 b hb).imp id (fun e=>by simpa using e)⟩};iterate 1 (refine eF (by decide) (fun K hK=>?_);go_simp;refine hK _ ?_;clear hK K)
 refine bN ?_;rintro w1 ⟨lh', k1,k2,k3⟩;have HK:=qA (zI k1 (zI k2 k3));clear k1 k2 k3 cs ci ct c1;go_wp2
 go_ret;refine⟨rfl,px::lh', ⟨ph,lh', HK.out.2.1.blk HX.out.1 HX.out.2.2,HK.out.1,fun hm=>?_,rfl⟩,HK.out.2.1.mono (by simp +contextual),fun b hb=>?_⟩
 {
 rcases HK.out.2.2 _ hm with h|h
 · exact HX.out.2.2 h
 · have:=HX.out.1.lt;omega}
 {
 rcases qB.1 hb with rfl|hb
 · exact .inl (by simp)
 · exact(HK.out.2.2 b hb).imp (fun h=>by simp[h]) id}
theorem aRX(h:cQ w px slots Q n l){i:Nat}(hi:i<slots)(hQ:Q i=none){a b c:Value}{R:World->Prop}(hc:Calls Tryz.prog 175 #[.bool false,a,b,c] w fun e w' =>e=.returned (.int .i64 0)/\R w'):
    Calls Tryz.prog 174 #[aP px,.int .i64 i,.func (.func 175) #[] #[a,b,c]] w fun e w' =>e=.returned (.int .i64 0)/\R w' :=by
 have HV:=qA (pQ h);obtain⟨ph,lh,h1,h2,h3,rfl⟩:=h;have HK:=qA (aRV h2 hi hQ);have HC:=qA hc;have k0:=h1.cell 0;have k1:=h1.cell 1;simp only[zJ,zK]at k0 k1;clear h1 h2 h3 hQ hc;have d1:decide ((i:Int)<0)=false:=qF (by omega);have d2:decide ((i:Int)≥slots)=false:=qF (by omega);go_enter Tryz.func174,Tryz.ntmps174
 go_wp2_with fail
 refine HV.out.mono ?_;rintro _ w ⟨rfl,rfl⟩;go_wp2_with fail
 refine HK.out.mono ?_;rintro _ w ⟨rfl,rfl⟩;go_wp2_with fail
 refine HC.out.mono ?_;rintro _ w1 ⟨rfl,hR⟩;have HR:=qA hR;clear hR k0 k1;go_wp2
 go_ret;exact⟨rfl,HR.out⟩
theorem aVG(h:cQ w px slots Q n l){i:Nat}(hi:i<slots)(hQ:Q i=none)(x:Int):
    Calls Tryz.prog 137 #[aP px,.int .i64 i,.int .i64 x] w fun e w' =>e=.returned (.int .i64 0)/\∃l', cQ w' px slots (nK Q i (some x)) (n+1) l' /\ Fr l w w' /\ ∀b∈l', b∈l∨w.heap.size<=b:=by
 have b1:=Blk.new w [aP px] 34;have b2:=Blk.new (w.alloc (.cells #[aP px] 34)) [.int .i64 i] 3;have b3:=Blk.new ((w.alloc (.cells #[aP px] 34)).alloc (.cells #[.int .i64 i] 3)) [.int .i64 x] 2;have hF:Fr [] w (((w.alloc (.cells #[aP px] 34)).alloc (.cells #[.int .i64 i] 3)).alloc (.cells #[.int .i64 x] 2)):=(((Fr.refl _ _).alloc _).alloc _).alloc _;have hs:(((w.alloc (.cells #[aP px] 34)).alloc (.cells #[.int .i64 i] 3)).alloc (.cells #[.int .i64 x] 2)).heap.size=w.heap.size+3:=by simp
 have y1:=((b1.alloc (.cells #[.int .i64 i] 3)).alloc (.cells #[.int .i64 x] 2)).cell 0;have y2:=(b2.alloc (.cells #[.int .i64 x] 2)).cell 0;have y3:=b3.cell 0;simp only[zJ,World.size_alloc]at y1 y2 y3;have HW:=qA (aRX (h.fr0 hF) hi hQ (aRW (h.fr0 hF) hi hQ x y1 y2 y3));have HF:=qA hF;clear b1 b2 b3 hF h hQ y2 y3;go_enter Tryz.func137,Tryz.ntmps137
 go_wp2_with fail
 refine HW.out.mono ?_;rintro _ w1 ⟨rfl,l', k1,k2,k3⟩;have HK:=qA (zI k1 (zI k2 k3));clear k1 k2 k3 y1;go_wp2
 go_ret;exact⟨rfl,l', HK.out.1,(HF.out.mono (by simp)).trans' HK.out.2.1,fun b hb=>(HK.out.2.2 b hb).imp id (fun e=>by omega)⟩
theorem aHN(h:cQ w px slots Q n l):Calls Tryz.prog 77 #[aP px] w fun e w' =>∃p', e=.returned (aP p')/\∃l', cQ w' p' slots Q n l' /\ Fr [] w w' /\ ∀b∈l', w.heap.size<=b:=by
 have h0:=h;obtain⟨ph,lh,h1,h2,h3,rfl⟩:=h;have c0:=h1.cell 0;have c1:=h1.cell 1;simp only[zJ,zK]at c0 c1;have HV:=qA (pQ h0);have HC:=qA (aHL (h2.fr (Fr.refl [] w).drew (by simp)));clear h0 h1 h2 h3;go_enter Tryz.func77,Tryz.ntmps77
 go_wp2_with fail
 refine HV.out.mono ?_;rintro _ w ⟨rfl,rfl⟩;go_wp2_with fail
 go_region_held3 (fun w' => w'.cell? ⟨px, 0, none⟩ = some (.int .i64 slots) /\ w'.cell? ⟨px, 1, none⟩ = some (aP ph))
   (first
     | go_keep
     | exact⟨hF4.cell c0 (by simp),hF4.cell c1 (by simp)⟩)
   (first|(go_at_call 121;with_reducible refine HC.out.mono ?_;rintro e w4 ⟨p4,rfl,l4,hH4,hF4,hN4⟩))
 all_goals
  have hb:=Blk.new w4 [.int .i64 slots,aP p4] 179;have hF:Fr [] w (w4.alloc (.cells #[.int .i64 slots,aP p4] 179)):=((Fr.refl [] w).drew.trans' hF4).alloc _;have hs4:=hF4.size;have HB:=qA (zI hb (zI hF (zI hH4 hN4)));clear hb hF hH4 hN4;go_wp2
  go_ret;refine⟨_,rfl,_,⟨p4,l4,HB.out.1,HB.out.2.2.1.fr ((Fr.refl [] _).alloc _) (by simp),fun hm=>by have:=HB.out.2.2.1.lt _ hm;omega,rfl⟩,HB.out.2.1,fun b hb=>?_⟩;rcases qB.1 hb with rfl|hb
  · simpa using hs4
  · simpa using HB.out.2.2.2 b hb
end
theorem aRY{s:Sm}{i:Nat}{e:Lv}(h:e∈(s.rem i).L):e∈s.L:=(kC.1 h).1
theorem aOC(ds:List Nat):∀{s:Sm} {e:Lv},e∈(s.rems ds).L->e∈s.L:=by
 induction ds with
 | nil=>intro s e h;exact h
 | cons i r ih=>intro s e h;rw[Sm.rems_cons]at h;exact aRY (ih h)
theorem mC{M:Md}(h:M.Ok){u v i:Nat}(hu:M.find u=some i)(hv:M.find v=some i):u=v:=by
 have h1:=Md.find_mem hu;have h2:=Md.find_mem hv;have h3:=Md.mem_idOf h.idx h1;have h4:=Md.mem_idOf h.idx h2;rw[h3]at h4;exact Option.some.inj h4
def IS(w0:World)(K:List Nat)(wr:World)(pw pc ps px pf:Nat)(P:Wp)(Ks lx Lf:List Nat)(Z:List (Nat×TypeId×List Value)):Prop:=
  (∃cl,cU wr pw pc ps px pf P Ks lx Lf cl)/\Fr K w0 wr/\(∀q∈bZ pw pc Ks lx Lf,q∈K∨w0.heap.size<=q)/\∀z∈Z,Blk wr z.1 z.2.1 z.2.2/\z.1∉bZ pw pc Ks lx Lf
section
variable {w0 wr w' :World} {K Ks Ks' lx lx' Lf Lf' :List Nat} {pw pc ps px pf:Nat} {P P' :Wp} {Z:List (Nat×TypeId×List Value)}
theorem IS.start{cl:Nat->Nat}(h:cU wr pw pc ps px pf P Ks lx Lf cl):IS wr (bZ pw pc Ks lx Lf) wr pw pc ps px pf P Ks lx Lf []:=⟨⟨cl,h⟩,Fr.refl _ _,fun q hq=>.inl hq,by simp⟩
theorem IS.sub(h:IS w0 K wr pw pc ps px pf P Ks lx Lf Z){Y:List (Nat×TypeId×List Value)}(hy:∀y∈Y,y∈Z):IS w0 K wr pw pc ps px pf P Ks lx Lf Y:=⟨h.1,h.2.1,h.2.2.1,fun y hm=>h.2.2.2 y (hy y hm)⟩
theorem IS.step(h:IS w0 K wr pw pc ps px pf P Ks lx Lf Z){X:List Nat}(hB:∃cl,cU w' pw pc ps px pf P' Ks' lx' Lf' cl)(hF:Fr X wr w')(hX:∀q∈X,q∈bZ pw pc Ks lx Lf)(hn:∀q∈bZ pw pc Ks' lx' Lf', q∈bZ pw pc Ks lx Lf∨wr.heap.size<=q):
    IS w0 K w' pw pc ps px pf P' Ks' lx' Lf' Z:=by
 obtain⟨_,hF0,hn0,hZ⟩:=h;have hs:=hF0.size;refine⟨hB,hF0.trans hF (fun b hb=>hn0 b (hX b hb)),fun q hq=>?_,fun z hz=>⟨hF.blk (hZ z hz).1 (fun hm=>(hZ z hz).2 (hX _ hm)),fun hm=>?_⟩⟩
 {
 rcases hn q hq with e|e
 · exact hn0 q e
 · exact .inr (by omega)}
 {
 rcases hn _ hm with e|e
 · exact(hZ z hz).2 e
 · have:=(hZ z hz).1.lt;omega}
theorem IS.fr0(h:IS w0 K wr pw pc ps px pf P Ks lx Lf Z)(hf:Fr [] wr w'):IS w0 K w' pw pc ps px pf P Ks lx Lf Z:=by
 obtain⟨cl,hB⟩:=h.1;exact h.step ⟨cl,hB.fr0 hf⟩ hf (by simp) (fun q hq=>.inl hq)
theorem IS.box(h:IS w0 K wr pw pc ps px pf P Ks lx Lf Z)(l:List Value)(t:TypeId):IS w0 K (wr.alloc (.cells l.toArray t)) pw pc ps px pf P Ks lx Lf ((wr.heap.size,t,l)::Z):=by
 have h1:=h.fr0 ((Fr.refl [] wr).alloc (.cells l.toArray t));refine⟨h1.1,h1.2.1,h1.2.2.1,fun z hz=>?_⟩;rcases qB.1 hz with rfl|hz
 {
 refine⟨Blk.new wr l t,fun hm=>?_⟩;obtain⟨cl,hB⟩:=h.1;have:=hB.lt _ hm;exact absurd this (Nat.lt_irrefl _)}
 · exact h1.2.2.2 z hz
theorem IS.other(h:IS w0 K wr pw pc ps px pf P Ks lx Lf Z){X:List Nat}(hF:Fr X wr w')(hX:∀q∈X,w0.heap.size<=q/\q∉bZ pw pc Ks lx Lf/\∀z∈Z,z.1≠q):IS w0 K w' pw pc ps px pf P Ks lx Lf Z:=by
 obtain⟨⟨cl,hB⟩,hF0,hn0,hZ⟩:=h;exact⟨⟨cl,hB.fr hF (fun q hq hm=>(hX q hm).2.1 hq)⟩,hF0.trans hF (fun b hb=>.inr (hX b hb).1),hn0,fun z hz=>⟨hF.blk (hZ z hz).1 (fun hm=>(hX _ hm).2.2 z hz rfl),(hZ z hz).2⟩⟩
theorem IS.cons(h:IS w0 K wr pw pc ps px pf P Ks lx Lf Z){b:Nat}{t:TypeId}{l:List Value}(hb:Blk wr b t l)(hn:b∉bZ pw pc Ks lx Lf):IS w0 K wr pw pc ps px pf P Ks lx Lf ((b,t,l)::Z):=
  ⟨h.1,h.2.1,h.2.2.1,fun z hz=>by
 rcases qB.1 hz with rfl|hz
 · exact⟨hb,hn⟩
 · exact h.2.2.2 z hz⟩
theorem aHO{q:Nat}(h:q∈Ks):q∈bZ pw pc Ks lx Lf:=by simp[bZ,h]
theorem aOD{q:Nat}(h:q∈lx):q∈bZ pw pc Ks lx Lf:=by simp[bZ,h]
theorem aHP{q:Nat}(h:q∈Lf):q∈bZ pw pc Ks lx Lf:=by simp[bZ,h]
theorem IS.st(h:IS w0 K wr pw pc ps px pf P Ks lx Lf Z){s' :Sm}(hs:bA w' ps s' Ks')(hF:Fr Ks wr w')(hq:∀q∈Ks', q∈Ks∨wr.heap.size<=q):IS w0 K w' pw pc ps px pf { P with s:=s' } Ks' lx Lf Z:=by
 obtain⟨cl,hB⟩:=h.1;refine h.step (hB.setSt hs hF hq) hF (fun q hq=>aHO hq) (fun q hm=>?_);simp only[bZ,qB,qE]at hm ⊢;rcases hm with e|e|e|e|e
 · simp[e]
 · simp[e]
 · exact(hq q e).imp (fun e=>by simp[e]) id
 · simp[e]
 · simp[e]
theorem IS.sch(h:IS w0 K wr pw pc ps px pf P Ks lx Lf Z){Q' :Nat->Option Int}{nq' :Nat}(hs:cQ w' px P.E Q' nq' lx')(hF:Fr lx wr w')(hq:∀q∈lx', q∈lx∨wr.heap.size<=q):IS w0 K w' pw pc ps px pf { P with Q:=Q', nq:=nq' } Ks lx' Lf Z:=by
 obtain⟨cl,hB⟩:=h.1;refine h.step (hB.setSch hs hF hq) hF (fun q hq=>aOD hq) (fun q hm=>?_);simp only[bZ,qB,qE]at hm ⊢;rcases hm with e|e|e|e|e
 · simp[e]
 · simp[e]
 · simp[e]
 · exact(hq q e).imp (fun e=>by simp[e]) id
 · simp[e]
theorem IS.fo(h:IS w0 K wr pw pc ps px pf P Ks lx Lf Z){G' :Nat->Option (Nat×Nat×Int)}(hm:FMv wr w' pf P.E P.V G' Lf):∃Lf', IS w0 K w' pw pc ps px pf { P with G:=G' } Ks lx Lf' Z:=by
 obtain⟨cl,hB⟩:=h.1;obtain⟨Lf', h1,h2,h3⟩:=hm;refine⟨Lf', h.step (hB.setFo h1 h2 h3) h2 (fun q hq=>aHP hq) (fun q hm=>?_)⟩;simp only[bZ,qB,qE]at hm ⊢;rcases hm with e|e|e|e|e
 · simp[e]
 · simp[e]
 · simp[e]
 · simp[e]
 · exact(h3 q e).imp (fun e=>by simp[e]) id
theorem IS.n(h:IS w0 K wr pw pc ps px pf P Ks lx Lf Z){a g:Nat}(hF:Fr [pw] wr w')(hb:Blk w' pw 38 [.int .i64 P.m,.int .i64 P.E,.int .i64 P.V,.int .i64 P.D,gL pc,fF ps,aP px,cH pf,.int .u64 a,.int .u64 g]):IS w0 K w' pw pc ps px pf { P with added:=a,gone:=g } Ks lx Lf Z:=by
 obtain⟨cl,hB⟩:=h.1;exact h.step ⟨cl,hB.setN hF hb⟩ hF (fun q hq=>by simp at hq;simp[bZ,hq]) (fun q hm=>.inl hm)
theorem IS.blk(h:IS w0 K wr pw pc ps px pf P Ks lx Lf Z){z:Nat×TypeId×List Value}(hz:z∈Z):Blk wr z.1 z.2.1 z.2.2:=(h.2.2.2 z hz).1
end
theorem Sm.idx_lt{s:Sm}(h:s.Ok){u i:Nat}(hf:s.M.find u=some i):i<s.V:=by
 have h1:=(h.md.used _ (Md.find_mem hf)).1;have h2:=h.md.ar.hb;have h3:s.M.ar.slots=s.M.slots:=rfl;have h4:=h.ms;simp only at h1;omega
section
variable {w w' :World} {pw pc ps px pf:Nat} {P:Wp} {Ks lx Lf:List Nat} {cl:Nat->Nat}
theorem rT(h:cU w pw pc ps px pf P Ks lx Lf cl)(hl:Lk P.s P.Q P.G)(hok:P.s.Ok)(hV:P.s.V=P.V)(hE:P.s.E=P.E)(u v:Nat)(hu:u<18446744073709551616)(hv:v<18446744073709551616)(wt t:Int)(ht:0<=t)(htm:t+P.m<=9223372036854775807)(hc:P.s.chk u v=0)(hla:P.s.last+1<=9223372036854775807)(had:P.added+1<=9223372036854775807):
    Calls Tryz.prog 91 #[cJ pw,rJ u v wt t] w fun e w' =>e=.returned (.tuple #[])/\∃a b Ks' lx' Lf', (P.s.ins u v wt t (t+P.m)).M.find u=some a/\(P.s.ins u v wt t (t+P.m)).M.find v=some b /\
      IS w (bZ pw pc Ks lx Lf) w' pw pc ps px pf { P with s:=P.s.ins u v wt t (t+P.m),Q:=fun j=>if j=P.s.slot then some (t+P.m) else P.Q j,nq:=P.nq+1,G:=fun j=>if j=P.s.slot then some (a,b,t+P.m) else P.G j,added:=P.added+1 } Ks' lx' Lf' []:=by
 have hm1:=h.clk.m1;have hm2:=h.clk.m2;have hI:=(IS.start h).box [.int .u64 u,.int .u64 v,.int .i64 wt,.int .i64 t] 72;obtain⟨w1,hw1⟩:∃w1,w1=w.alloc (.cells #[.int .u64 u,.int .u64 v,.int .i64 wt,.int .i64 t] 72):=⟨_,rfl⟩;obtain⟨x,hx⟩:∃x,x=t+P.m:=⟨_,rfl⟩;obtain⟨xb,hxb⟩:∃xb,xb=w.heap.size:=⟨_,rfl⟩;have hok1:=Sm.ok_ins hok hu hv hc (by omega) wt t x;have hne:u≠v:=(Sm.chk_ok hok hc).1;have hsn:=Sm.slot_next hok hc;have hslt:=tY hok.ar hsn;rw[hok.sl,hE]at hslt;obtain⟨hfq,hfg⟩:=hl.free hok (Md.isUsed_alloc' hok.ar hsn).1;have hmem:P.s.edge u v wt t x∈(P.s.ins u v wt t x).L:=by simp[Sm.ins]
 obtain⟨a,ha⟩:=qV.1 (fS hok1 hmem (x:=u) (by simp[Lv.at,Sm.edge]));obtain⟨b,hb⟩:=qV.1 (fS hok1 hmem (x:=v) (by simp[Lv.at,Sm.edge]));have hal:=Sm.idx_lt hok1 ha;have hbl:=Sm.idx_lt hok1 hb;have hab:a≠b:=fun e=>hne (mC hok1.md ha (by rw[e];exact hb));have hcode:eO P.E P.V P.G P.s.slot a b=0:=by {
 have e1:inV P.E P.s.slot=true:=by simp[inV];omega
 have hV' :(P.s.ins u v wt t x).V=P.V:=hV;have e2:inV P.V a=true:=by simp[inV];omega
 have e3:inV P.V b=true:=by simp[inV];omega
 unfold eO;rw[qD ⟨e1,e2,e3⟩,qC (by omega),qC (by simp[hfg])]};have haddG:sW P.E P.V P.G P.s.slot a b x=fun j=>if j=P.s.slot then some (a,b,x) else P.G j:=by {
 unfold sW;rw[qD hcode];funext j
 simp[bS]};rw[<-hw1,<-hxb]at hI;have hsx:vJ t P.m=x:=by unfold vJ;rw[qD htm,hx]
 have hcx:lX t P.m=0:=by unfold lX;rw[qD htm]
 rw[<-hx];have HI:=qA hI;obtain⟨cl1,hB1⟩:=hI.1;have HA:=qA (fun(nq:Nat)=>aVB (hB1.clk.fr0 ((Fr.refl [] w1).drewN nq)) t (by omega) (by omega));rw[hsx,hcx]at HA;have c4:=hB1.hd.cell 4;have hbx:Blk w1 xb 72 [.int .u64 u,.int .u64 v,.int .i64 wt,.int .i64 t]:=hI.blk (z:=(xb,72,[.int .u64 u,.int .u64 v,.int .i64 wt,.int .i64 t])) (by simp);have r0:=hbx.cell 0;have r1:=hbx.cell 1;have r2:=hbx.cell 2;have r3:=hbx.cell 3;simp only[zJ,zK]at c4 r0 r1 r2 r3;have HXR:=qA (show -9223372036854775808<=x/\x<=9223372036854775807 by omega);have HP:=qA (zI hok (zI hc (zI hla (zI hslt (zI hfq (zI ha (zI hb (zI hcode (zI haddG had)))))))));clear hI hbx hB1 hl hok hV hE hc hla hok1 hne hsn hslt hfq hfg hmem ha hb hal hbl hab hcode haddG hsx hcx h had;rw[hw1,hxb]at r0 r1 r2 r3;rw[hw1]at c4;go_enter Tryz.func91,Tryz.ntmps91
 go_wp2_with fail
 rw[<-hw1];rw[<-hw1,<-hxb]at r0 r1 r2 r3;rw[<-hw1]at c4;rw[<-hxb];clear hw1 hxb hx;refine bF 6 (fun w' =>∃nq,w' =w1.drewN nq) (by kernel_rfl) (by kernel_rfl) (by kernel_rfl) ?_;iterate 6 (refine bM (by decide) (fun K hK=>?_);go_simp;refine hK _ ?_;clear hK K)
 refine aU rfl (.tuple #[.int .i64 x,.int .i64 0]) (fun w' hw' =>?_) ?_
 {
 obtain⟨nq,rfl⟩:=hw';go_simp;refine(HA.out nq).mono ?_;rintro _ w1 ⟨rfl,rfl⟩;exact⟨rfl,nq,rfl⟩};iterate 5 (refine eF (by decide) (fun K hK=>?_);go_simp;refine hK _ ?_;clear hK K)
 refine bN ?_;rintro _ ⟨nq,rfl⟩;have hI2:=HI.out.fr0 ((Fr.refl [] w1).drewN nq);clear c4 r0 r1 r2 r3 HA HI;generalize w1.drewN nq=wz at *;obtain⟨cl2,hB2⟩:=hI2.1;have hbx:Blk wz xb 72 [.int .u64 u,.int .u64 v,.int .i64 wt,.int .i64 t]:=hI2.blk (z:=(xb,72,[.int .u64 u,.int .u64 v,.int .i64 wt,.int .i64 t])) (by simp);have c5:=hB2.hd.cell 5;have r0:=hbx.cell 0;have r1:=hbx.cell 1;have r2:=hbx.cell 2;have r3:=hbx.cell 3;simp only[zJ,zK]at c5 r0 r1 r2 r3;obtain⟨y,hy⟩:∃y,y=P.s.edge u v wt t x:=⟨_,rfl⟩;have HI:=qA (show ∀w', Fr [] wz w' -> Calls Tryz.prog 135 #[fF ps,rJ u v wt t,.int .i64 x] w' fun e w'' =>e=.returned (.tuple #[lvA y,.int .i64 0])/\∃K', bA w'' ps (P.s.ins u v wt t x) K' /\ Fr Ks w' w'' /\ ∀q∈K', q∈Ks∨w'.heap.size<=q from fun w' hf=>by
   rw[hy];exact aFD (hB2.st.fr0 hf) u v hu hv wt t x HP.out.2.1 (by have:=HP.out.2.2.1;omega))
 have HI2:=qA hI2;have hkx:xb∉Ks:=fun hm=>(hI2.2.2.2 (xb,_,_) (List.mem_cons_self ..)).2 (aHO hm);have hkp:pw∉Ks:=fun hm=>by have:=hB2.ks _ hm;have:=hB2.kw;omega
 have hkn:wz.heap.size∉Ks:=fun hm=>absurd (hB2.st.lt _ hm) (Nat.lt_irrefl _);have hxl:=hbx.lt;have hpl:=hB2.hd.lt;have hkx2:xb∉wz.heap.size::Ks:=fun hm=>(qB.1 hm).elim (fun e=>by omega) hkx;have hkp2:pw∉wz.heap.size::Ks:=fun hm=>(qB.1 hm).elim (fun e=>by omega) hkp;have HC:=qA (fun(w' :World) (hf:Fr (wz.heap.size::Ks) wz w')=>zI (hf.cell c5 hkp2) (zI (hf.cell r0 hkx2) (zI (hf.cell r1 hkx2) (zI (hf.cell r2 hkx2) (hf.cell r3 hkx2)))));have HST:=qA (show ∀(w' :World) (a0 a1 a2 a3 a4 a5 a6:Value),Fr (wz.heap.size::Ks) wz w' -> Fr (wz.heap.size::Ks) wz (((((((w'.setCell ⟨wz.heap.size,0,none⟩ a0).setCell ⟨wz.heap.size,1,none⟩ a1).setCell ⟨wz.heap.size,2,none⟩ a2).setCell ⟨wz.heap.size,3,none⟩ a3).setCell ⟨wz.heap.size,4,none⟩ a4).setCell ⟨wz.heap.size,5,none⟩ a5).setCell ⟨wz.heap.size,6,none⟩ a6) from fun w' _ _ _ _ _ _ _ hf=>
   (((((((hf).setCell _ _ (.inl (by simp))).setCell _ _ (.inl (by simp))).setCell _ _ (.inl (by simp))).setCell _ _ (.inl (by simp))).setCell _ _ (.inl (by simp))).setCell _ _ (.inl (by simp))).setCell _ _ (.inl (by simp)))
 have HB0:=qA (show ∀(w5:World) (S:List Nat),Fr Ks (wz.alloc (.cells #[.int .i64 0,.int .u64 0,.int .u64 0,.int .u64 0,.int .i64 0,.int .i64 0,.int .i64 0] 74)).drew w5->Blk w5 wz.heap.size 74 [.int .i64 0,.int .u64 0,.int .u64 0,.int .u64 0,.int .i64 0,.int .i64 0,.int .i64 0] from fun w5 _ hf=>
   hf.blk ((Blk.new wz [.int .i64 0,.int .u64 0,.int .u64 0,.int .u64 0,.int .i64 0,.int .i64 0,.int .i64 0] 74).drew) hkn)
 have hpz:pw≠wz.heap.size:=by omega
 have hxz:xb≠wz.heap.size:=by omega
 have HY:=qA hy;clear hy hB2 hbx hI2 c5 r0 r1 r2 r3 hkx2 hkp2 hkx hkp hxl hpl;go_wp2_with fail
 go_region_held3 (fun w' => w'.cell? ⟨pw, 5, none⟩ = some (fF ps) /\ w'.cell? ⟨xb, 0, none⟩ = some (.int .u64 u) /\ w'.cell? ⟨xb, 1, none⟩ = some (.int .u64 v) /\ w'.cell? ⟨xb, 2, none⟩ = some (.int .i64 wt) /\ w'.cell? ⟨xb, 3, none⟩ = some (.int .i64 t))
   (first
     | with_reducible exact HC.out _ (HST.out w5 _ _ _ _ _ _ _ HF7.out)
     | with_reducible exact HC.out _ HF7.out
     | with_reducible exact HC.out _ (Fr.refl (wz.heap.size::Ks) wz).drew
     | with_reducible exact HC.out _ (Fr.trans' (Fr.refl (wz.heap.size::Ks) wz).drew hF6)
     | with_reducible exact HC.out _ ((Fr.trans' (Fr.refl (wz.heap.size::Ks) wz).drew hF6).alloc _)
     | with_reducible exact HC.out _ ((Fr.refl (wz.heap.size::Ks) wz).alloc _).drew
     )
   (first
     | (go_at_call 135;with_reducible refine Calls.mono (HI.out _ ((Fr.refl [] wz).drew)) ?_;rintro r w5 ⟨rfl,Ks5,hS5,hF5,hN5⟩;have hF6:=hF5.mono (S' :=wz.heap.size::Ks) (fun q hq=>.inl (List.mem_cons_of_mem _ hq)))
     | (go_at_call 135; with_reducible refine Calls.mono (HI.out _ ((Fr.refl [] wz).alloc _).drew) ?_; rintro r w5 ⟨rfl, Ks5, hS5, hF5, hN5⟩
        go_loud (have hF6:=hF5.mono (S' :=wz.heap.size::Ks) (fun q hq=>.inl (List.mem_cons_of_mem _ hq)));go_loud (have HF7:=qA (Fr.trans' ((Fr.refl (wz.heap.size::Ks) wz).alloc _).drew hF6));go_loud (have hB5:=HB0.out _ [] hF5);go_loud (have hz5:=hB5.frozen);go_loud (have t0:=hB5.cell 0;have t1:=hB5.cell 1;have t2:=hB5.cell 2;have t3:=hB5.cell 3;have t4:=hB5.cell 4;have t5:=hB5.cell 5;have t6:=hB5.cell 6;simp only[zJ,zK]at t0 t1 t2 t3 t4 t5 t6)))
 focus
   have hX:IS w (bZ pw pc Ks lx Lf) (w5.alloc (.cells #[.int .i64 y.slot,.int .u64 y.seq,.int .u64 y.u,.int .u64 y.v,.int .i64 y.wt,.int .i64 y.t,.int .i64 y.x] 74)) pw pc ps px pf { P with s:=P.s.ins u v wt t x } Ks5 lx Lf [(w5.heap.size,74,[.int .i64 y.slot,.int .u64 y.seq,.int .u64 y.u,.int .u64 y.v,.int .i64 y.wt,.int .i64 y.t,.int .i64 y.x]),(xb,72,[.int .u64 u,.int .u64 v,.int .i64 wt,.int .i64 t])]:=
     ((HI2.out.fr0 (Fr.refl [] wz).drew).st hS5 hF5 hN5).box [.int .i64 y.slot,.int .u64 y.seq,.int .u64 y.u,.int .u64 y.v,.int .i64 y.wt,.int .i64 y.t,.int .i64 y.x] 74
   have HX:=qA hX;clear hX hS5 hF5 hN5 hF6 HI HC HST HB0 hpz hxz hkn HI2;generalize (w5.alloc (.cells #[.int .i64 y.slot,.int .u64 y.seq,.int .u64 y.u,.int .u64 y.v,.int .i64 y.wt,.int .i64 y.t,.int .i64 y.x] 74))=W6 at *;generalize w5.heap.size=eb at *;rename_i hHH;clear hHH
 rotate_left
 focus
   have h5:=(((HI2.out.box [.int .i64 0,.int .u64 0,.int .u64 0,.int .u64 0,.int .i64 0,.int .i64 0,.int .i64 0] 74).fr0 (Fr.refl [] _).drew).st hS5 hF5 hN5);have hnz:=(h5.2.2.2 _ (List.mem_cons_self ..)).2;have hws:=HI2.out.2.1.size;have hxn:=(HI2.out.2.2.2 _ (List.mem_cons_self ..)).1.lt;simp only at hnz hxn;have hfc:Fr [wz.heap.size] w5 (((((((w5.setCell ⟨wz.heap.size,0,none⟩ (.int .i64 y.slot)).setCell ⟨wz.heap.size,1,none⟩ (.int .u64 y.seq)).setCell ⟨wz.heap.size,2,none⟩ (.int .u64 y.u)).setCell ⟨wz.heap.size,3,none⟩ (.int .u64 y.v)).setCell ⟨wz.heap.size,4,none⟩ (.int .i64 y.wt)).setCell ⟨wz.heap.size,5,none⟩ (.int .i64 y.t)).setCell ⟨wz.heap.size,6,none⟩ (.int .i64 y.x)):=
     (((((((Fr.refl _ w5).setCell _ _ (.inl (by simp))).setCell _ _ (.inl (by simp))).setCell _ _ (.inl (by simp))).setCell _ _ (.inl (by simp))).setCell _ _ (.inl (by simp))).setCell _ _ (.inl (by simp))).setCell _ _ (.inl (by simp))
   have hb7:=((((((hB5.set 0 (.int .i64 y.slot)).set 1 (.int .u64 y.seq)).set 2 (.int .u64 y.u)).set 3 (.int .u64 y.v)).set 4 (.int .i64 y.wt)).set 5 (.int .i64 y.t)).set 6 (.int .i64 y.x);simp only[qY,qU]at hb7;have hX:IS w (bZ pw pc Ks lx Lf) (((((((w5.setCell ⟨wz.heap.size,0,none⟩ (.int .i64 y.slot)).setCell ⟨wz.heap.size,1,none⟩ (.int .u64 y.seq)).setCell ⟨wz.heap.size,2,none⟩ (.int .u64 y.u)).setCell ⟨wz.heap.size,3,none⟩ (.int .u64 y.v)).setCell ⟨wz.heap.size,4,none⟩ (.int .i64 y.wt)).setCell ⟨wz.heap.size,5,none⟩ (.int .i64 y.t)).setCell ⟨wz.heap.size,6,none⟩ (.int .i64 y.x)) pw pc ps px pf { P with s:=P.s.ins u v wt t x } Ks5 lx Lf [(wz.heap.size,74,[.int .i64 y.slot,.int .u64 y.seq,.int .u64 y.u,.int .u64 y.v,.int .i64 y.wt,.int .i64 y.t,.int .i64 y.x]),(xb,72,[.int .u64 u,.int .u64 v,.int .i64 wt,.int .i64 t])]:=
     ((h5.sub (Y:=[(xb,72,[.int .u64 u,.int .u64 v,.int .i64 wt,.int .i64 t])]) (fun z hz=>List.mem_cons_of_mem _ hz)).other hfc (fun q hq=>by
       rw[qH]at hq;subst hq;exact⟨hws,hnz,fun z hz=>by rw[qH]at hz;subst hz;simp only;omega⟩)).cons hb7 hnz
   have HX:=qA hX;clear hX hS5 hF5 hN5 hF6 HI HC HST HB0 hpz hxz hkn HI2 h5 hnz hws hxn hfc hb7 hB5 hz5 t0 t1 t2 t3 t4 t5 t6 HF7;generalize (((((((w5.setCell ⟨wz.heap.size,0,none⟩ (.int .i64 y.slot)).setCell ⟨wz.heap.size,1,none⟩ (.int .u64 y.seq)).setCell ⟨wz.heap.size,2,none⟩ (.int .u64 y.u)).setCell ⟨wz.heap.size,3,none⟩ (.int .u64 y.v)).setCell ⟨wz.heap.size,4,none⟩ (.int .i64 y.wt)).setCell ⟨wz.heap.size,5,none⟩ (.int .i64 y.t)).setCell ⟨wz.heap.size,6,none⟩ (.int .i64 y.x))=W6 at *;generalize wz.heap.size=eb at *;rename_i hHH;clear hHH
 all_goals
  have hys:y.slot=P.s.slot:=by rw[HY.out];rfl
  obtain⟨cl6,hB6⟩:=HX.out.1;have hbx:Blk W6 xb 72 [.int .u64 u,.int .u64 v,.int .i64 wt,.int .i64 t]:=HX.out.blk (z:=(xb,72,[.int .u64 u,.int .u64 v,.int .i64 wt,.int .i64 t])) (by simp);have hcx:∀w', Fr [] W6 w' -> w'.cell? ⟨pw,5,none⟩=some (fF ps)/\w'.cell? ⟨xb,0,none⟩=some (.int .u64 u)/\w'.cell? ⟨xb,1,none⟩=some (.int .u64 v):=fun w' hf=>⟨(hf.blk hB6.hd (by simp)).cell 5,(hf.blk hbx (by simp)).cell 0,(hf.blk hbx (by simp)).cell 1⟩;have HU:=qA (fun(w' :World) (hf:Fr [] W6 w')=>oW (hB6.st.fr0 hf) u hu);have HW:=qA (fun(w' :World) (hf:Fr [] W6 w')=>oW (hB6.st.fr0 hf) v hv);simp only[HP.out.2.2.2.2.2.1,HP.out.2.2.2.2.2.2.1,Option.getD_some,Option.isSome_some]at HU HW;have HCX:=qA hcx;obtain⟨c5,r0,r1⟩:=hcx W6 (Fr.refl _ _);clear hB6 hbx hcx;have HYS:=qA hys;clear hys;go_wp2_with fail
  refine bF 6 (fun w' =>Fr [] W6 w') (by kernel_rfl) (by kernel_rfl) (by kernel_rfl) ?_;iterate 6 (refine bM (by decide) (fun K hK=>?_);go_simp;refine hK _ ?_;clear hK K)
  refine aU rfl (.tuple #[.int .i64 a,.bool true]) (fun w' hw' =>?_) ?_
  {
  obtain⟨nq,rfl⟩:=hw';go_simp;refine(HU.out _ ((Fr.refl [] W6).drewN nq)).mono ?_;rintro _ w1 ⟨rfl,hf⟩;exact⟨rfl,((Fr.refl [] W6).drewN nq).trans' hf⟩};iterate 5 (refine eF (by decide) (fun K hK=>?_);go_simp;refine hK _ ?_;clear hK K)
  refine bN ?_;rintro W7 hF7;clear c5 r0 r1;obtain⟨c5,r0,r1⟩:=HCX.out W7 hF7;have HW7:=qA (fun(nq:Nat)=>HW.out _ (hF7.trans' ((Fr.refl [] W7).drewN nq)));have HX7:=qA (HX.out.fr0 hF7);clear HX HU HW HCX hF7 r0;go_wp2_with fail
  refine bF 6 (fun w' =>Fr [] W7 w') (by kernel_rfl) (by kernel_rfl) (by kernel_rfl) ?_;iterate 6 (refine bM (by decide) (fun K hK=>?_);go_simp;refine hK _ ?_;clear hK K)
  refine aU rfl (.tuple #[.int .i64 b,.bool true]) (fun w' hw' =>?_) ?_
  {
  obtain⟨nq,rfl⟩:=hw';go_simp;refine(HW7.out nq).mono ?_;rintro _ w1 ⟨rfl,hf⟩;exact⟨rfl,((Fr.refl [] W7).drewN nq).trans' hf⟩};iterate 5 (refine eF (by decide) (fun K hK=>?_);go_simp;refine hK _ ?_;clear hK K)
  refine bN ?_;rintro W8 hF8;have hX8:=HX7.out.fr0 hF8;obtain⟨cl8,hB8⟩:=hX8.1;have hbe:Blk W8 eb 74 [.int .i64 y.slot,.int .u64 y.seq,.int .u64 y.u,.int .u64 y.v,.int .i64 y.wt,.int .i64 y.t,.int .i64 y.x]:=hX8.blk (z:=(eb,74,[.int .i64 y.slot,.int .u64 y.seq,.int .u64 y.u,.int .u64 y.v,.int .i64 y.wt,.int .i64 y.t,.int .i64 y.x])) (by simp);have c6:=hB8.hd.cell 6;have e0:=hbe.cell 0;simp only[zJ,zK]at c6 e0;rw[HYS.out]at e0;have HS:=qA (fun(nq:Nat)=>aVG (hB8.sch.fr0 ((Fr.refl [] W8).drewN nq)) (i:=P.s.slot) HP.out.2.2.2.1 HP.out.2.2.2.2.1 x);have HX8:=qA hX8;clear HX7 HW7 hF8 c5 r1 hX8 hB8 hbe;go_wp2_with fail
  refine bF 7 (fun w' =>∃l', cQ w' px P.E (nK P.Q P.s.slot (some x)) (P.nq+1) l' /\ Fr lx W8 w' /\ ∀b∈l', b∈lx∨W8.heap.size<=b) (by kernel_rfl) (by kernel_rfl) (by kernel_rfl) ?_;iterate 7 (refine bM (by decide) (fun K hK=>?_);go_simp;refine hK _ ?_;clear hK K)
  refine aU rfl (.int .i64 0) (fun w' hw' =>?_) ?_
  {
  obtain⟨nq,rfl⟩:=hw';go_simp;refine(HS.out nq).mono ?_;rintro _ w1 ⟨rfl,l', k1,k2,k3⟩;exact⟨rfl,l', k1,((Fr.refl lx W8).drewN nq).trans' k2,k3⟩};refine bN ?_;rintro W9 ⟨lx9,k1,k2,k3⟩;have hX9:=HX8.out.sch k1 k2 k3;obtain⟨cl9,hB9⟩:=hX9.1;have hbe:Blk W9 eb 74 [.int .i64 y.slot,.int .u64 y.seq,.int .u64 y.u,.int .u64 y.v,.int .i64 y.wt,.int .i64 y.t,.int .i64 y.x]:=hX9.blk (z:=(eb,74,[.int .i64 y.slot,.int .u64 y.seq,.int .u64 y.u,.int .u64 y.v,.int .i64 y.wt,.int .i64 y.t,.int .i64 y.x])) (by simp);clear c6 e0;have c7:=hB9.hd.cell 7;have e0:=hbe.cell 0;simp only[zJ,zK]at c7 e0;rw[HYS.out]at e0;have hxr:-9223372036854775808<=x/\x<=9223372036854775807:=HXR.out;have hA:=fun(nq:Nat)=>aVE (hB9.fo.fr ((Fr.refl [] W9).drewN nq) (by simp)) P.s.slot a b x hxr;simp only[HP.out.2.2.2.2.2.2.2.1,HP.out.2.2.2.2.2.2.2.2.1]at hA;have HA:=qA hA;have HX9:=qA hX9;clear HX8 HS k1 k2 k3 hX9 hB9 hbe hA hxr;go_wp2_with fail
  refine bF 9 (fun w' =>FMv W9 w' pf P.E P.V (fun j=>if j=P.s.slot then some (a,b,x) else P.G j) Lf) (by kernel_rfl) (by kernel_rfl) (by kernel_rfl) ?_;iterate 9 (refine bM (by decide) (fun K hK=>?_);go_simp;refine hK _ ?_;clear hK K)
  refine aU rfl (.int .i64 0) (fun w' hw' =>?_) ?_
  {
  obtain⟨nq,rfl⟩:=hw';go_simp;refine(HA.out nq).mono ?_;rintro _ w1 ⟨rfl,L', k1,k2,k3⟩;exact⟨rfl,L', k1,((Fr.refl Lf W9).drewN nq).trans' k2,k3⟩};refine bN ?_;rintro W10 k1;obtain⟨Lf10,hX10⟩:=HX9.out.fo k1;obtain⟨cl10,hB10⟩:=hX10.1;clear c7 e0;have c8:=hB10.hd.cell 8;have z8:=hB10.hd.frozen 8;simp only[zJ,zK]at c8;have hb11:=hB10.hd.set 8 (.int .u64 ((P.added:Int)+1));simp only[qY,qU]at hb11;have hadd:=HP.out.2.2.2.2.2.2.2.2.2;have hw1:IntKind.u64.wrap ((P.added:Int)+1)=(P.added:Int)+1:=by simp[IntKind.wrap,IntKind.bits,IntKind.signed];omega
  have HX10:=qA (zI hX10 hb11);clear HX9 HA k1 hX10 hB10 hb11;go_wp2_with fail
  go_end0
  have hF:Fr [pw] W10 (W10.setCell ⟨pw,8,none⟩ (.int .u64 ((P.added:Int)+1))):=(Fr.refl _ _).setCell _ _ (.inl (by simp));exact⟨rfl,a,HP.out.2.2.2.2.2.1,b,HP.out.2.2.2.2.2.2.1,Ks5,lx9,Lf10,(HX10.out.1.n hF (a:=P.added+1) (g:=P.gone) (by rw[Int.natCast_add];exact HX10.out.2)).sub (by simp)⟩
end
theorem Fr.putObj{S:List Nat}{w w' :World}(h:Fr S w w')(l:Nat)(o:Obj)(hl:l∈S∨w.heap.size<=l):Fr S w (w'.putObj l o):=
  h.grown (grownBy_putObj' w' l o) (fun k e=>by cases e;exact hl)
structure aCV {α:Type} (base:Nat) (I:List α->List Nat->World->Prop):Prop where
  fr:∀{pre:List α} {K S:List Nat} {A B:World},I pre K A->Fr S A B->(∀b∈K,b∉S)->I pre K B
  lt:∀{pre:List α} {K:List Nat} {A:World},I pre K A->∀b∈K,base<=b/\b<A.heap.size
def aAJ{α:Type}(I:List α->List Nat->World->Prop)(xs:List α)(K:List Nat)(W W' :World):Prop:=∃K', I xs K' W' /\ Fr K W W' /\ ∀b∈K', b∈K∨W.heap.size<=b
section
variable {F:Fence} {n:Nat} {P:Program}
theorem aJX{α:Type}{g:Operand}{ps:Array Tmp}{assign body:Code}{Q:Exit->Act->World->Prop}{a:Act}{w:World}(hro:F.round=none)(h1:1<=n){gf:Nat}{lb:Array Value}
    (hg:a.eval g=.func (.func gf) #[] lb) (hFg:F.fn gf) (eg:∀args w,(callFunc gf args).run P w=.ok (.enter gf args) w) {encs:α->Array Value} (hps:∀x,(encs x).size=ps.size) {base N:Nat} (hb:base<=w.heap.size)
    {T:List α->List Nat->World->Prop} (hT:∀{xs K A B},T xs K A->Fr K A B->T xs K B) (I:List α->List Nat->World->Prop) (hI:aCV base I) (K0:List Nat) (h0:I [] K0 w)
    (hseq:∀(l:Nat) (J:List α->List Nat->World->Prop) (K:List Nat) (W:World),aCV base J->Fr [] w W->J [] K W->(∀b∈K,b∈K0∨w.heap.size<=b) ->
      (∀pre K x W1,J pre K W1->pre.length<N->YieldAt F (n-1-1) P l (encs x) W1 fun e W' =>e=.returned (.bool true)/\aAJ J (pre++[x]) K W1 W') ->
      CallsIn F (n-1) P gf (#[.func (.yield l) #[] #[]]++lb) W fun e W' =>(∃v,e=.returned v)/\∃xs K', J xs K' W' /\ T xs K' W')
    (a₁:α->Act)
    (hassign:∀(l:Nat) (x:α) (W:World) (K:Act->World->Prop),K (a₁ x) W ->
      assign.wpIn (F.inRound l) (n-1-1) P (Exit.then K (fun _ _ _=>False)) { tmps:=(ps.zip (encs x)).foldl (fun t (p,v)=>t.setIfInBounds p v) a.tmps,defers:=[] } W)
    (hbody:∀(l:Nat) (pre:List α) (K:List Nat) (x:α) (W:World),I pre K W->pre.length<N->body.wpIn (F.inRound l) (n-1-1) P (fun e _ W' =>e=.normal/\aAJ I (pre++[x]) K W W') (a₁ x) W)
    (hdone:∀(D:Nat) (xs:List α) (K K' :List Nat) (W:World),w.heap.size<=D->I xs K W->T xs K' W->D∈K' -> D∉K->(∀b∈K,b∈K')->W.heap[D]? =some (.deferred (some []))->Q .normal { a with defers:={ target:=.collected D,args:=#[] }::a.defers } W):
    (Code.rangeFunc g ps assign body).wpIn F n P Q a w:=by
 refine wpIn_rangeFunc ?_;intro fn hfn;rw[hro];obtain⟨D,hD⟩:∃D,D=w.heap.size:=⟨_,rfl⟩;obtain⟨L,hL⟩:∃L,L=D+1:=⟨_,rfl⟩;obtain⟨rc,hrc⟩:∃rc:LoopState->Option Code->Loop,rc=fun st pe=>{ state:=st,pending:=pe,fn,tmps:=a.tmps,params:=ps,assign,body,defers:=w.heap.size }:=⟨_,rfl⟩;obtain⟨W1,hW1⟩:∃W1,W1=(w.alloc (.deferred (some []))).alloc (.loop (rc .ready none)):=⟨_,rfl⟩;have hF1:Fr [] w W1:=by rw[hW1];exact((Fr.refl _ _).alloc _).alloc _
 have hD1:W1.heap[D]? =some (.deferred (some [])):=by rw[hW1,hD];exact(Below.heap_alloc _ _ _ (by simp)).trans (World.alloc_heap_new w _)
 have hL1:W1.heap[L]? =some (.loop (rc .ready none)):=by rw[hW1,hL,hD];have:=World.alloc_heap_new (w.alloc (.deferred (some []))) (.loop (rc .ready none));rwa[World.size_alloc]at this
 let J:List α->List Nat->World->Prop:=fun pre K W=>∃K1,K=L::D::K1/\I pre K1 W/\L∉K1/\D∉K1/\W.heap[L]? =some (.loop (rc .ready none))/\W.heap[D]? =some (.deferred (some []))
 have hJ:aCV base J:=by {
 constructor
 {
 rintro pre K S A B ⟨K1,rfl,h1,h2,h3,h4,h5⟩ hF hS;have l1:=(qM.1 h4).1;have l2:=(qM.1 h5).1;exact⟨K1,rfl,hI.fr h1 hF (fun b hb=>hS b (by simp[hb])),h2,h3,(hF.keep _ l1 (hS _ (by simp))).trans h4,(hF.keep _ l2 (hS _ (by simp))).trans h5⟩}
 {
 rintro pre K A ⟨K1,rfl,h1,h2,h3,h4,h5⟩ b hb';have l1:=(qM.1 h4).1;have l2:=(qM.1 h5).1;simp only[qB]at hb';rcases hb' with rfl|rfl|hb'
 · omega
 · omega
 · exact hI.lt h1 b hb'}};refine⟨L,[{ target:=.collected D,args:=#[] }],W1,{ target:=.fn (.func gf) lb,args:=#[.func (.yield L) #[] #[]] },W1,gf,#[.func (.yield L) #[] #[]]++lb,W1,?_,?_,?_,?_,fun _=>h1,?_⟩
 · rw[hW1,hrc,hL,hD];exact run_enterLoop_outer _ _ _ _ _
 {
 simp only[resolve,hg];simp[go_sem]}
 · intro f' hf'; simp[Target.leads]at hf'; subst hf'; exact hFg
 · simp[invoke,go_sem,eg]
 {
 have h0' :∀b∈K0,b<D:=fun b hb=>by rw[hD];exact(hI.lt h0 b hb).2
 refine(hseq L J (L::D::K0) W1 hJ hF1 ⟨K0,rfl,hI.fr h0 hF1 (by simp),fun hm=>by have:=h0' _ hm;omega,fun hm=>by have:=h0' _ hm;omega,hL1,hD1⟩ (fun b hb' =>by
   simp only[qB]at hb';rcases hb' with rfl|rfl|hb'
   · exact .inr (by omega)
   · exact .inr (by omega)
   · exact .inl hb') ?_).mono ?_
 {
 rintro pre K x W ⟨K1,rfl,hi,n1,n2,hl,hd⟩ hN;have l1:=(qM.1 hl).1;have l2:=(qM.1 hd).1;have hy:=run_yield (P:=P) (args:=encs x) hl (by rw[hrc];exact hps x);rw[hrc]at hy;refine⟨fn,_,assign,body,hy,roundIn_of_wpIn hfn (hassign _ x W _ ⟨_,run_beginRound hl (by rw[hrc]),?_⟩)⟩;have hF2:Fr [L] W (W.putObj L (.loop { rc .ready none with state:=.busy })):=(Fr.refl _ _).putObj _ _ (.inl (by simp));have hl2:(W.putObj L (.loop { rc .ready none with state:=.busy })).heap[L]? =some (.loop { rc .ready none with state:=.busy }):=World.putObj_heap_same l1;have hd2:(W.putObj L (.loop { rc .ready none with state:=.busy })).heap[D]? =some (.deferred (some [])):=(World.putObj_heap_other (by omega)).trans hd;refine wpIn_mono (hbody _ pre K1 x _ (hI.fr hi hF2 (fun b hb hm=>by simp at hm;subst hm;exact n1 hb)) hN) ?_;rintro e a3 W3 ⟨rfl,K3,hi3,hF3,hk3⟩;have s2:=hF2.size;have l2a:=(qM.1 hl2).1;have l2b:=(qM.1 hd2).1;have n1' :L∉K3:=fun hm=>(hk3 _ hm).elim n1 (fun h=>Nat.lt_irrefl _ (Nat.lt_of_lt_of_le l2a h));have n2' :D∉K3:=fun hm=>(hk3 _ hm).elim n2 (fun h=>Nat.lt_irrefl _ (Nat.lt_of_lt_of_le l2b h));have hl3:W3.heap[L]? =some (.loop { rc .ready none with state:=.busy }):=(hF3.keep _ l2a n1).trans hl2;have hd3:W3.heap[D]? =some (.deferred (some [])):=(hF3.keep _ l2b n2).trans hd2;have l3:=(qM.1 hl3).1;have hr:=run_endRound (P:=P) none hl3;have hF4:Fr [L] W3 (W3.putObj L (.loop { { rc .ready none with state:=.busy } with state:=if (none:Option Code).isNone then .ready else .done,pending:=none })):=(Fr.refl _ _).putObj _ _ (.inl (by simp));refine⟨_,_,hr,rfl,L::D::K3,⟨K3,rfl,hI.fr hi3 hF4 (fun b hb hm=>by simp at hm;subst hm;exact n1' hb),n1', n2', ?_,(World.putObj_heap_other (by omega)).trans hd3⟩,?_,fun b hb' =>?_⟩
 · rw[World.putObj_heap_same l3,hrc];rfl
 · refine((hF2.mono (S' :=L::D::K1) (by simp)).trans (hF3.mono (S' :=L::D::K1) (by simp +contextual)) (fun b hb=>.inl hb)).trans' (hF4.mono (by simp))
 {
 simp only[qB]at hb' ⊢;rcases hb' with rfl|rfl|hb'
 · exact .inl (.inl rfl)
 · exact .inl (.inr (.inl rfl))
 {
 rcases hk3 b hb' with h|h
 · exact .inl (.inr (.inr h))
 · exact .inr (zH s2 h)}}}
 {
 rintro e W2 ⟨⟨v,rfl⟩,xs,K,⟨K1,rfl,hi,n1,n2,hl,hd⟩,ht⟩;have l1:=(qM.1 hl).1;have hF2:Fr [L] W2 (W2.putObj L (.loop { rc .ready none with state:=.exhausted })):=(Fr.refl _ _).putObj _ _ (.inl (by simp));have hr:=run_endLoop (P:=P) hl (by rw[hrc];simp);refine⟨none,_,by rw[hrc]at hr ⊢;exact hr,hdone D xs K1 (L::D::K1) _ (by omega) (hI.fr hi hF2 (fun b hb hm=>by simp at hm;subst hm;exact n1 hb)) (hT ht (hF2.mono (by simp))) (by simp) n2 (by simp +contextual) ((World.putObj_heap_other (by omega)).trans hd)⟩}}
end
end Go.Proofs.YtjdgpcjbgjnahaaGreatDoor
namespace Go.Proofs.YtjdgpcjbgjnahaaGreatDoor
open Go.RowKit Go.Shelf
attribute [local go_sem] Oper.semAt_some
theorem fT.snoc{to:Int}{Q0 Q:Nat->Option Int}{pre:List Nat}(h:∀{ds Q'},fT to Q ds Q' -> fT to Q0 (pre++ds) Q'){i:Nat}{x:Int}(hq:Q i=some x)(hx:x<=to)(hm:∀j y,Q j=some y->¬(y<x∨(y=x/\j<i))):
    ∀{ds Q'},fT to (nK Q i none) ds Q' -> fT to Q0 (pre++[i]++ds) Q' :=by
 intro ds Q' hd;rw[List.append_assoc];exact h (.more Q i x ds Q' hq hx hm hd)
theorem aVH(px:Nat)(now:Int)(w:World):
    CallsIn Fence.wide 9 Tryz.prog 149 #[aP px,.int .i64 now] w fun e w' =>e=.returned (.func (.func 195) #[] #[.pointer (some ⟨w.heap.size,0,none⟩),.pointer (some ⟨w.heap.size+1,0,none⟩)])/\w' =(w.alloc (.cells #[aP px] 34)).alloc (.cells #[.int .i64 now] 2):=by
 refine callsIn_of_wp Tryz.func149 rfl trivial ?_ rfl;simp only[Tryz.ntmps149,List.size_toArray,qZ,List.length_nil,Nat.reduceAdd,Nat.reduceSub,Array.replicate_succ,Array.replicate_zero,List.push_toArray,List.append_toArray,List.nil_append,zC];gi_wp2
 go_ret;exact⟨rfl,rfl⟩
theorem cQ.one{w:World}{px slots n n' :Nat}{Q Q' :Nat->Option Int}{l l' :List Nat}(h:cQ w px slots Q n l)(h' :cQ w px slots Q' n' l'):n=n' :=by
 obtain⟨ph,lh,h1,⟨e,pl,v,gp,cp,bs,hm,_⟩,_,_⟩:=h;obtain⟨ph', lh', h1', ⟨e', pl', v', gp', cp', bs', hm', _⟩,_,_⟩:=h';have e1:=h1.eq h1';simp only[List.cons.injEq,aP,Value.pointer.injEq,qI,Addr.mk.injEq,and_true,true_and]at e1;subst e1;have e2:=hm.hd.eq hm'.hd;obtain⟨a,c,rfl⟩:=aO hm.items;obtain⟨a', c', rfl⟩:=aO hm'.items;simp only[List.cons.injEq,qP,true_and]at e2;exact e2.1.2.1
open Classical in
noncomputable def aAK(px slots:Nat)(W:World):Nat:=if h:∃n,∃Q l,cQ W px slots Q n l then Classical.choose h else 0
theorem vK{W:World}{px slots n:Nat}{Q:Nat->Option Int}{l:List Nat}(h:cQ W px slots Q n l):aAK px slots W=n:=by
 have hex:∃n,∃Q l,cQ W px slots Q n l:=⟨n,Q,l,h⟩;unfold aAK;rw[dif_pos hex];obtain⟨Q', l', h'⟩:=Classical.choose_spec hex;exact h'.one h
def aVI(px slots:Nat)(now:Int)(w0:World)(Q:Nat->Option Int)(lx:List Nat)(ds K:List Nat)(W:World):Prop:=
  ∃Q' n' lx', fT now Q ds Q' /\ cQ W px slots Q' n' lx' /\ (∀b∈lx', b∉K)/\(∀b∈lx', b∈lx∨w0.heap.size<=b)/\Fr lx w0 W/\∀b∈K,w0.heap.size<=b
theorem aRZ(nf l Bs Bn px slots n:Nat)(now:Int)(Q:Nat->Option Int)(lx:List Nat)(w0:World)(hnf:2<=nf)(J:List Nat->List Nat->World->Prop)(K:List Nat)(W:World)(hJ:aCV w0.heap.size J)(hF:Fr [] w0 W)(h0:J [] K W)
    (hS:cQ w0 px slots Q n lx) (hcs:W.cell? ⟨Bs,0,none⟩=some (aP px)) (hcn:W.cell? ⟨Bn,0,none⟩=some (.int .i64 now)) (hBs:w0.heap.size<=Bs) (hBn:w0.heap.size<=Bn) (hKs:Bs∉K) (hKn:Bn∉K)
    (hY:∀pre K x W1,J pre K W1->pre.length<n->YieldAt Fence.wide (nf-1) Tryz.prog l #[.int .i64 (x:Nat)] W1 fun e W' =>e=.returned (.bool true)/\aAJ J (pre++[x]) K W1 W'):
    CallsIn Fence.wide nf Tryz.prog 195 #[.func (.yield l) #[] #[],.pointer (some ⟨Bs,0,none⟩),.pointer (some ⟨Bn,0,none⟩)] W fun e W' =>(∃v,e=.returned v)/\∃xs K', J xs K' W' /\ aVI px slots now w0 Q lx xs K' W' :=by
  have HJ:=qA hJ;have hS1:=hS.fr0 hF;have hlx:=hS.lt;have hbs:=iT hcs;have hbn:=iT hcn;simp only at hbs hbn;refine callsIn_of_wp Tryz.func195 rfl trivial ?_ rfl;simp only[Tryz.ntmps195,List.size_toArray,qZ,List.length_nil,Nat.reduceAdd,Nat.reduceSub,Array.replicate_succ,Array.replicate_zero,List.push_toArray,List.append_toArray,List.nil_append,zC];gi_wp2
  gi_loopw [] (fun wr=>∃pre K1 Q1 n1 lx1,J pre K1 wr/\pre.length+n1=n/\Hid (∀{ds Q'},fT now Q1 ds Q' -> fT now Q (pre++ds) Q')/\cQ wr px slots Q1 n1 lx1/\(∀b∈lx1,b∉K1)/\(∀b∈lx1,b∈lx∨w0.heap.size<=b)/\Fr lx w0 wr/\wr.cell? ⟨Bs,0,none⟩=some (aP px)/\wr.cell? ⟨Bn,0,none⟩=some (.int .i64 now)/\Bs∉K1/\Bn∉K1/\Bs∉lx1/\Bn∉lx1) (fun wr=>aAK px slots wr)
  case atStart=>
    exact⟨[],K,Q,n,lx,h0,by simp,qA (fun h=>h),hS1,fun b hb hm=>by have:=hlx b hb;have:=(hJ.lt h0 b hm).1;omega,fun b hb=>.inl hb,hF.mono (by simp),hcs,hcn,hKs,hKn,fun hm=>by have:=hlx _ hm;omega,fun hm=>by have:=hlx _ hm;omega⟩
  case round=>
    clear hcs hcn hKs hKn hS1 h0 hF hbs hbn;obtain⟨pre,K1,Q1,n1,lx1,hJ1,hlen,HMi,hS1,hk1,hl1,hF1,hcs,hcn,hbk1,hbk2,hbx1,hbx2⟩:=hrel;have hbs:=iT hcs;have hbn:=iT hcn;simp only at hbs hbn;have HS1:=qA hS1;obtain⟨ph,lh,hx1,hh1,hx2,rfl⟩:=hS1;have c1:=hx1.cell 1;simp only[zJ,zK]at c1;have HMn:=qA (aCI hh1);have HH:=qA (zI hx1 (zI hh1 hx2));have HB:=qA (zI hJ1 (zI hk1 (zI hl1 (zI hF1 (zI hbk1 (zI hbk2 (zI hbx1 hbx2)))))));clear hJ1 hk1 hl1 hF1 hbk1 hbk2 hbx1 hbx2 hx1 hh1 hx2;gi_wp2_with fail
    refine⟨trivial,fun _=>by omega,?_⟩;gi_at_call 196
    refine(callsIn_wide.2 HMn.out).mono ?_;rintro r w1 ⟨f1,hr⟩;have c1:=f1.cell c1 (by simp);have hcs:=f1.cell hcs (by simp);have hcn:=f1.cell hcn (by simp);have hs1:=f1.size;have hbs1:Bs<w1.heap.size:=by omega
    have hbn1:Bn<w1.heap.size:=by omega
    have hpx1:=iT c1;simp only at hpx1;have hFa:∀v:Value,∀u:Value,Fr [] wr (w1.alloc (.cells #[v,u] 223)):=fun v u=>f1.alloc _;have HFa:=qA hFa;clear hFa;have hfin:∀(v u:Value),fT now Q1 [] Q1->(∃v,Ending.returned (Value.tuple #[])=Ending.returned v)/\∃xs K', J xs K' (w1.alloc (.cells #[v,u] 223))/\aVI px slots now w0 Q lx xs K' (w1.alloc (.cells #[v,u] 223)):=fun v u hd=>by
      refine⟨⟨_,rfl⟩,pre,K1,HJ.out.fr HB.out.1 (HFa.out v u) (by simp),Q1,n1,px::lh,?_,HS1.out.fr0 (HFa.out v u),HB.out.2.1,HB.out.2.2.1,HB.out.2.2.2.1.trans' ((HFa.out v u).mono (by simp)),fun b hb=>(HJ.out.lt HB.out.1 b hb).1⟩;have:=HMi.out hd;rwa[List.append_nil]at this
    have HFin:=qA hfin;clear hfin;rcases hr with⟨hn,rfl⟩|⟨hn,i,k,hq,hm,rfl⟩
    · gi_wp2
      refine bodyPost_ret (results_none rfl _ _ _) rfl ?_;refine HFin.out _ _ (.done _ fun j x hx=>?_);obtain⟨ph', lh', _,⟨e,pl,v,gp,cp,bs,_,_,_,hQ,_⟩,_,_⟩:=HS1.out;obtain⟨p,hp,_⟩:=(hQ j x).1 hx;omega
    · have Hq := qA (zI hn (zI hq hm)); clear hn hq hm
      by_cases hk:now<k
      · have d1 : decide (k > now) = true := qG hk
        gi_wp2
        refine bodyPost_ret (results_none rfl _ _ _) rfl ?_;refine HFin.out _ _ (.done _ fun j x hx=>?_);have:=Hq.out.2.2 j x hx;unfold elt at this;simp only at this;omega
      · have d1 : decide (k > now) = false := qF hk
        have Hk:=qA hk;clear hk;gi_wp2_with fail
        refine⟨trivial,fun _=>by omega,?_⟩;gi_at_call 150
        have hFw:=HFa.out (.int .i64 (i:Nat)) (.int .i64 k);have b2:=Blk.new w1 [.int .i64 (i:Nat),.int .i64 k] 223;have hlh:=HH.out.2.1.lt;have HB2:=qA (zI hFw (zI b2 hlh));clear hFw b2 hlh;refine(callsIn_wide.2 (aTF (HH.out.2.1.fr HB2.out.1 (by simp)))).mono ?_;rintro r W3 (⟨hn0,_,_⟩|⟨_,i', k', hq', hm', rfl,l', h3,f3,k3⟩)
        · exact absurd Hq.out.1 (by omega)
        · have hik:i' =i/\k' =k:=by
            have e1:=Hq.out.2.2 i' k' hq';have e2:=hm' i k Hq.out.2.1;unfold elt at e1 e2;simp only at e1 e2;omega
          obtain⟨rfl,rfl⟩:=hik;have hbx:=f3.blk HB2.out.2.1 (fun hm=>by have:=HB2.out.2.2 _ hm;omega);have hc0:=hbx.cell 0;simp only[zJ]at hc0;have hfw:Fr lh wr W3:=(HB2.out.1.mono (by simp)).trans' f3;have hnx:∀b∈K1,b∉lh:=fun b hb hm=>HB.out.2.1 b (by simp[hm]) hb;have hJ3:=HJ.out.fr HB.out.1 hfw hnx;have hs3:=hfw.size;have hlt3:=HJ.out.lt HB.out.1;have hcs3:W3.cell? ⟨Bs,0,none⟩=some (aP px):=f3.cell ((((Fr.refl [] w1).alloc _).cell hcs (by simp))) (fun hm=>HB.out.2.2.2.2.2.2.1 (by simp[hm]));have hcn3:W3.cell? ⟨Bn,0,none⟩=some (.int .i64 now):=f3.cell ((((Fr.refl [] w1).alloc _).cell hcn (by simp))) (fun hm=>HB.out.2.2.2.2.2.2.2 (by simp[hm]));have hsch:cQ W3 px slots (nK Q1 i' none) (n1-1) (px::l'):=⟨ph,l', hfw.blk HH.out.1 HH.out.2.2,h3,fun hm=>by
            rcases k3 _ hm with h|h
            · exact HH.out.2.2 h
            · have:=(HB2.out.1.blk HH.out.1 (by simp)).lt;omega,rfl⟩
          have HR:=qA (zI hsch (zI hfw (zI k3 (zI hcs3 hcn3))));obtain⟨fn,tmps,assign,body,hy,hRd⟩:=hY pre K1 i' W3 hJ3 (by have:=Hq.out.1;omega);have HRd:=qA hRd;clear hsch hfw k3 hcs3 hcn3 f3 h3 hq' hm' hbx hJ3 hRd hnx hcs hcn c1 hY hlt3;gi_wp2
          refine⟨fun _=>by omega,?_⟩;refine HRd.out.mono ?_;rintro e W4 ⟨rfl,K4,hJ4,hF4,hk4⟩;have HJ4:=qA (zI hJ4 (zI hF4 hk4));clear hJ4 hF4 hk4;gi_wp2
          go_roundw
          case rel=>
            have hK1:=HJ.out.lt HB.out.1;have hs0:=HB.out.2.2.2.1.size;have hl3:=HR.out.1.lt;have hnk:∀b∈px::l', b∉K1:=fun b hb hm=>by
              rcases qB.1 hb with rfl|hb'
              · exact HB.out.2.1 _ (by simp) hm
              · rcases HR.out.2.2.1 b hb' with h | h
                · exact HB.out.2.1 b (by simp[h]) hm
                · have:=(hK1 b hm).2;have:=HB2.out.1.size;omega
            have hsub:∀b∈px::l', b∈lx∨w0.heap.size<=b:=fun b hb=>by
              rcases qB.1 hb with rfl|hb'
              · exact HB.out.2.2.1 _ (by simp)
              · rcases HR.out.2.2.1 b hb' with h | h
                · exact HB.out.2.2.1 b (by simp[h])
                · have:=HB2.out.1.size;exact .inr (by omega)
            have hnk4:∀b∈px::l', b∉K4:=fun b hb hm=>by
              rcases HJ4.out.2.2 b hm with h|h
              · exact hnk b hb h
              · have:=hl3 b hb;omega
            have hnm:∀x,x<wr.heap.size->x∉K1->x∉K4:=fun x hx hn hm=>by
              rcases HJ4.out.2.2 x hm with h|h
              · exact hn h
              · omega
            have hnl:∀x,x<wr.heap.size->x∉px::lh->x∉px::l' :=fun x hx hn hm=>by
              rcases qB.1 hm with rfl|hb'
              · exact hn (by simp)
              · rcases HR.out.2.2.1 x hb' with h | h
                · exact hn (by simp[h])
                · have:=HB2.out.1.size;omega
            exact⟨pre++[i'],K4,nK Q1 i' none,n1-1,px::l', HJ4.out.1,by have:=Hq.out.1;simp;omega,qA (fT.snoc HMi.out Hq.out.2.1 (by have:=Hk.out;omega) (fun j y hy=>by
                have:=Hq.out.2.2 j y hy;unfold elt at this;simpa using this)),HR.out.1.fr HJ4.out.2.1 hnk,hnk4,hsub,
              (HB.out.2.2.2.1.trans (HR.out.2.1) (fun b hb=>HB.out.2.2.1 b (by simp[hb]))).trans HJ4.out.2.1 (fun b hb=>.inr (hK1 b hb).1),
              HJ4.out.2.1.cell HR.out.2.2.2.1 HB.out.2.2.2.2.1,HJ4.out.2.1.cell HR.out.2.2.2.2 HB.out.2.2.2.2.2.1,hnm Bs hbs HB.out.2.2.2.2.1,hnm Bn hbn HB.out.2.2.2.2.2.1,hnl Bs hbs HB.out.2.2.2.2.2.2.1,hnl Bn hbn HB.out.2.2.2.2.2.2.2⟩
          case measure=>
            have hK1:=HJ.out.lt HB.out.1;have hnk:∀b∈px::l', b∉K1:=fun b hb hm=>by
              rcases qB.1 hb with rfl|hb'
              · exact HB.out.2.1 _ (by simp) hm
              · rcases HR.out.2.2.1 b hb' with h | h
                · exact HB.out.2.1 b (by simp[h]) hm
                · have:=(hK1 b hm).2;have:=HB2.out.1.size;omega
            rw[vK (HR.out.1.fr HJ4.out.2.1 hnk),vK HS1.out];have:=Hq.out.1;omega
theorem wP{F:Fence}{nf:Nat}{P:Program}{w:World}{ops:Array Oper}{rest:List Oper}{o:Oper}{a:Act}{Q:Exit->Act->World->Prop}(hgd:o.guard=none)(s x:Operand)(t:TypeId)
    (ho:o.op=.call { callee:=.builtin .append,args:=#[s,x],argTypes:=#[t,t] })
    (e:TypeId) (z:Value) (bytes:Nat) (ht:P.underlying t=some (.slice e)) (hinfo:(P.info? e).map (fun i=>(i.zero,i.size,i.bytes))=some (some z,1,bytes)) (hzs:z.cells.size=1)
    (v:Value) (n:Nat) (xs:List Value) (hs:a.eval s=v) (hown:w.ownsRow 0 e 1 v n xs)
    (b:Nat) (u:Value) (hx:a.eval x=.slice (some ⟨b,0,none⟩) 1 1) (hu:w.cell? ⟨b,0,none⟩=some u) (hu1:u.oneCell' =true)
    (hn:n+1<=4294967296) (hby:bytes<=1024)
    (h:∀g cap w', w'.ownsRow 0 e 1 (.slice (some ⟨g,0,none⟩) (n+1) cap) (n+1) (xs++[u])->w.grownBy w' v.ownBlock->(v.ownBlock=some g∨w.heap.size<=g) ->
      wpListIn F nf P ops Q rest (a.put o.dst (.slice (some ⟨g,0,none⟩) (n+1) cap)) w'):wpListIn F nf P ops Q (o::rest) a w:=by
 obtain⟨i0,hi,hz0,hz1,hz2⟩:=info_parts hinfo;have hb2:(n+1)*bytes<=140737488355328:=by {
 have:(n+1)*bytes<=4294967296*1024:=Nat.mul_le_mul hn hby;omega};have hne:∀j y,[u][j]? =some y->w.cell? ((⟨b,0,none⟩:Addr).add j)=some y:=by {
 intro j y hj;cases j with
 | zero=>simp at hj;subst hj;exact hu
 | succ j=>simp at hj};obtain⟨g,cap,w', hr,h2,h3,h4⟩:=yJ (P:=P) w t o.type e i0 z 1 bytes ht hi hz0 hz1 hz2 hzs (by decide) v n xs hown ⟨b,0,none⟩ 1 1 [u] rfl hne (by simp[hu1]) (by decide) (by unfold maxLen;omega) hb2;refine wpListIn_plain hgd fun K hK' =>?_;unfold Oper.wpIn;refine⟨?_,?_⟩
 · simp[Oper.about,ho,resolve,Target.leads,Sem.run_pure]
 {
 rw[Oper.semAt_plain F _ _ (by rw[ho];intro c hc'; cases hc')];simp[execOp,ho,resolve,invoke,builtin,hs,hx,hr,Result.andThen];exact hK' _ _ (h g cap w' h2 h3 h4)}
def aVJ(B:Nat)(pre K:List Nat)(W:World):Prop:=∃v,K=B::v.ownBlock.toList/\Blk W B 158 [v]/\dO W v pre/\∀q,v.ownBlock=some q->B<q
theorem aFH(B:Nat):aCV B (aVJ B):=by
 constructor
 {
 rintro pre K S A C ⟨v,rfl,h1,h2,h3⟩ hF hS;exact⟨v,rfl,hF.blk h1 (hS _ (by simp)),h2.fr hF (fun q hq=>hS _ (by simp[hq])),h3⟩}
 {
 rintro pre K A ⟨v,rfl,h1,h2,h3⟩ b hb;simp only[qB,Option.mem_toList]at hb;rcases hb with rfl|hb
 · exact⟨qK _,h1.lt⟩
 · exact⟨Nat.le_of_lt (h3 b hb),h2.lt hb⟩}
theorem aJY{B:Nat}{pre K:List Nat}{W w1:World}{x g cap:Nat}{v:Value}(hK:K=B::v.ownBlock.toList)(h1:Blk W B 158 [v])(_h2:dO W v pre)(h3:∀q,v.ownBlock=some q->B<q)
    (hown:w1.ownsRow 0 3 1 (.slice (some ⟨g,0,none⟩) (pre.length+1) cap) (pre.length+1) (fO pre++[.int .i64 x])) (hgrow:(W.alloc (.cells #[.int .i64 x] 3)).grownBy w1 v.ownBlock) (hg:v.ownBlock=some g∨(W.alloc (.cells #[.int .i64 x] 3)).heap.size<=g):
    Blk w1 B 158 [v]/\aAJ (aVJ B) (pre++[x]) K W (w1.setCell ⟨B,0,none⟩ (.slice (some ⟨g,0,none⟩) (pre.length+1) cap)):=by
 have hlt:=h1.lt;simp only[World.size_alloc]at hg;have hF:Fr v.ownBlock.toList W w1:=((Fr.refl _ _).alloc _).grown hgrow (fun q e=>.inl (by simp[e]));have hb1:Blk w1 B 158 [v]:=hF.blk h1 (fun hm=>by have:=h3 B (by simpa using hm);omega);have hgB:B<g:=by {
 rcases hg with e|e
 · exact h3 g e
 · omega};have e1:(Value.slice (some ⟨g,0,none⟩) (pre.length+1) cap).ownBlock=some g:=rfl;subst hK;refine⟨hb1,B::[g],⟨_,by rw[e1];rfl,hb1.set 0 _,?_,fun q hq=>by rw[e1]at hq;cases hq;exact hgB⟩,(hF.mono (by simp +contextual)).setCell _ _ (.inl (by simp)),fun b hb=>?_⟩
 {
 have:dO w1 (.slice (some ⟨g,0,none⟩) (pre.length+1) cap) (pre++[x]):=by {
 unfold dO fO;unfold fO at hown;simpa using hown};exact bL this _ _ (by rw[e1];simp;omega)}
 {
 simp only[qB,List.not_mem_nil,or_false]at hb;rcases hb with rfl|rfl
 · exact .inl (by simp)
 {
 rcases hg with e|e
 · exact .inl (by simp[e])
 · exact .inr (by omega)}}
theorem aTI{w:World}{px slots n:Nat}{Q:Nat->Option Int}{lx:List Nat}(h:cQ w px slots Q n lx)(now:Int):
    Calls Tryz.prog 107 #[aP px,.int .i64 now] w fun e w' =>∃v ds Q' n' lx', e=.returned v/\fT now Q ds Q' /\ cQ w' px slots Q' n' lx' /\ dO w' v ds/\Fr lx w w' /\ (∀b∈lx', b∈lx∨w.heap.size<=b)/\(∀q,v.ownBlock=some q->w.heap.size<=q/\q∉lx'):=by
 refine(callsIn_wide (n:=9)).1 ?_;refine callsIn_of_wp_marks Tryz.func107 rfl trivial ?_ rfl;simp only[Tryz.ntmps107,List.size_toArray,qZ,List.length_nil,Nat.reduceAdd,Nat.reduceSub,Array.replicate_succ,Array.replicate_zero,List.push_toArray,List.append_toArray,List.nil_append,zC];have HS:=qA h;clear h;gi_wp2_with fail
 refine⟨trivial,?_⟩;gi_at_call 120
 refine(callsIn_wide.2 (pQ HS.out)).mono ?_;rintro _ w ⟨rfl,rfl⟩;gi_wp2_with fail
 refine⟨trivial,?_⟩;gi_at_call 149
 refine(callsIn_wide.2 (callsIn_wide.1 (aVH px now _))).mono ?_;rintro _ _ ⟨rfl,rfl⟩;have hs1:(w.alloc (Obj.cells #[Value.slice none 0 0] 158)).heap.size=w.heap.size+1:=by simp
 gi_wp2_with fail
 have b0:=Blk.new w [.slice none 0 0] 158;have b1:=Blk.new (w.alloc (.cells #[.slice none 0 0] 158)) [aP px] 34;have b2:=Blk.new ((w.alloc (.cells #[.slice none 0 0] 158)).alloc (.cells #[aP px] 34)) [.int .i64 now] 2;simp only[World.size_alloc]at b1 b2;have hF0:Fr [] w (((w.alloc (.cells #[.slice none 0 0] 158)).alloc (.cells #[aP px] 34)).alloc (.cells #[.int .i64 now] 2)):=(((Fr.refl _ _).alloc _).alloc _).alloc _;have hb0:=(b0.alloc (.cells #[aP px] 34)).alloc (.cells #[.int .i64 now] 2);have hb1:=b1.alloc (.cells #[.int .i64 now] 2);have hsz:(((w.alloc (.cells #[.slice none 0 0] 158)).alloc (.cells #[aP px] 34)).alloc (.cells #[.int .i64 now] 2)).heap.size=w.heap.size+3:=by simp
 clear b0 b1;generalize (((w.alloc (.cells #[.slice none 0 0] 158)).alloc (.cells #[aP px] 34)).alloc (.cells #[.int .i64 now] 2))=W0 at *;have hle:n<=65536:=by {
 obtain⟨ph,lh,_,hh,_,_⟩:=HS.out;have:=hh.le;omega}
 refine aJX (α := Nat) rfl (by decide) (gf := 195) (lb := #[.pointer (some ⟨w.heap.size + 1, 0, none⟩), .pointer (some ⟨w.heap.size + 1 + 1, 0, none⟩)]) rfl trivial (enters_of Tryz.func195 (by kernel_rfl) rfl)
   (encs:=fun x=>#[.int .i64 (x:Nat)]) (fun _=>rfl) (base:=w.heap.size) (N:=n) (by omega) (T:=aVI px slots now w Q lx) ?hT (aVJ w.heap.size) (aFH w.heap.size) [w.heap.size] ⟨_,rfl,hb0,dO.nil _,fun q hq=>by cases hq⟩
   (fun l J K W hJ hF h0 hK hY => aRZ 8 l (w.heap.size + 1) (w.heap.size + 1 + 1) px slots n now Q lx w (by decide) J K W hJ (hF0.trans' hF) h0 HS.out (hF.cell (hb1.cell 0) (by simp)) (hF.cell (b2.cell 0) (by simp)) (by omega) (by omega)
     (fun hm=>by have:=hK _ hm;simp at this;omega) (fun hm=>by have:=hK _ hm;simp at this;omega) hY)
   (fun x=>{ tmps:=#[aP px,.int .i64 now,undef,undef,.slice none 0 0,.pointer (some ⟨w.heap.size,0,none⟩),.int .i64 (x:Nat),aP px,.bool true,.bool false,aP px,.int .i64 now,.func (.func 195) #[] #[.pointer (some ⟨w.heap.size+1,0,none⟩),.pointer (some ⟨w.heap.size+1+1,0,none⟩)],.int .i64 (x:Nat),undef,undef,undef,undef,undef],defers:=[] }) ?assign ?body ?done
 case hT=>
  rintro xs K A B ⟨Q', n', lx', h1,h2,h3,h4,h5,h6⟩ hF;exact⟨Q', n', lx', h1,h2.fr hF h3,h3,h4,h5.trans hF (fun b hb=>.inr (h6 b hb)),h6⟩
 case assign=>
  intro l x W K hK;gi_wp2
  exact hK
 case body=>
  rintro l pre K x W ⟨v,rfl,hv,hrow,hq⟩ hlt;have hc:=hv.cell 0;simp only[zJ]at hc;obtain⟨a0,c0,rfl⟩:=aO hrow;gi_wp2_with (gi_at_builtin;go_loud (refine wP rfl _ _ _ rfl 3 (.int .i64 0) 8 Tryz.underlying158 Tryz.info3 rfl (.slice a0 pre.length c0) pre.length (fO pre) rfl (hrow.alloc _) W.heap.size (.int .i64 x) rfl (aC _ _ _ _ rfl) rfl (by omega) (by decide) ?_;intro g cap w1 hown hgrow hg;obtain⟨hb1,hgo⟩:=aJY rfl hv hrow hq hown hgrow hg;have hc1:=hb1.cell 0;have hf1:=hb1.frozen 0;simp only[zJ]at hc1))
 case done=>
  rintro D xs K K' W hD ⟨v,rfl,hv,hrow,hq⟩ ⟨Q', n', lx', h1,h2,h3,h4,h5,h6⟩ hDK hDK' hKK hd;have hc:=hv.cell 0;simp only[zJ]at hc;obtain⟨a0,c0,rfl⟩:=aO hrow;gi_wp2
  refine⟨by simp,.inl ⟨_,_,rfl,run_takeDeferred hd,?_⟩⟩;have hF:Fr [D] W (W.putObj D (.deferred none)):=(Fr.refl _ _).putObj _ _ (.inl (by simp));refine⟨.slice a0 xs.length c0,?_,.slice a0 xs.length c0,xs,Q', n', lx', rfl,h1,h2.fr hF (fun b hb hm=>h3 b hb (by rw[show b=D by simpa using hm];exact hDK)),hrow.fr hF (fun q hq hm=>hDK' (by rw[<-show q=D by simpa using hm];simp[hq])),h5.trans hF (fun b hb=>.inr (by rw[show b=D by simpa using hb];omega)),h4,fun q e=>⟨Nat.le_of_lt (hq q e),fun hm=>h3 q hm (hKK q (by simp[e]))⟩⟩;simp[results,Tryz.results107,go_sem]
end Go.Proofs.YtjdgpcjbgjnahaaGreatDoor
namespace Go.Proofs.YtjdgpcjbgjnahaaGreatDoor
open Go.RowKit
section
variable {w w' :World} {pw pc ps px pf:Nat} {P:Wp} {Ks lx Lf K:List Nat} {cl:Nat->Nat}
theorem aOE(h:cU w pw pc ps px pf P Ks lx Lf cl)(to:Int)(h1:-9223372036854775808<=to)(h2:to<=9223372036854775807)(hc:dL P.m P.now to≠0):
    Calls Tryz.prog 67 #[cJ pw,.int .i64 to] w fun e w' =>e=.returned (.int .i64 (dL P.m P.now to))/\w' =w:=by
 have HV:=qA (dC h);have HA:=qA (aHM h.clk to h1 h2 hc);have c4:=h.hd.cell 4;simp only[zJ,zK]at c4;clear h;generalize dL P.m P.now to=cc at *;have d1:(cc != 0)=true:=by simp[hc]
 clear hc;go_enter Tryz.func67,Tryz.ntmps67
 go_wp2_with fail
 refine HV.out.mono ?_;rintro _ w ⟨rfl,rfl⟩;go_wp2_with fail
 refine HA.out.mono ?_;rintro _ w ⟨rfl,rfl⟩;go_wp2
 go_ret;exact⟨rfl,rfl⟩
def TI(w:World)(K:List Nat)(pw pc ps px pf:Nat)(P:Wp)(lx' :List Nat)(v:Value)(ds:List Nat)(to:Int)(SE:Sm)(GE:Nat->Option (Nat×Nat×Int))(gE:Nat)(k:Nat)(wr:World):Prop:=
  ∃s1 Q1 Q' G1 g1 Ks1 Lf1 cl1,cU wr pw pc ps px pf { P with s:=s1,G:=G1,gone:=g1 } Ks1 lx' Lf1 cl1/\dO wr v ds/\(∀q,v.ownBlock=some q->q∉bZ pw pc Ks1 lx' Lf1)/\Fr K w wr/\(∀q∈bZ pw pc Ks1 lx' Lf1,q∈K∨w.heap.size<=q) /\
    Lk s1 Q1 G1/\s1.Ok/\fT to Q1 (ds.drop k) Q' /\ s1.rems (ds.drop k)=SE/\(fun j=>if j∈ds.drop k then none else G1 j)=GE/\g1+(ds.drop k).length=gE
theorem aHQ{α:Type}{l:List α}{k:Nat}(h:k<l.length):l.drop k=l[k]::l.drop (k+1):=List.drop_eq_getElem_cons h
theorem xV(h:cU w pw pc ps px pf P Ks lx Lf cl)(hl:Lk P.s P.Q P.G)(hok:P.s.Ok)(to:Int)(h1:-9223372036854775808<=to)(h2:to<=9223372036854775807)(hc:dL P.m P.now to=0)(hg:P.gone+P.s.L.length<=9223372036854775807):
    Calls Tryz.prog 67 #[cJ pw,.int .i64 to] w fun e w' =>e=.returned (.int .i64 0)/\∃ds Q' n' Ks' lx' Lf' cl', fT to P.Q ds Q' /\
      cU w' pw pc ps px pf { P with now:=to,s:=P.s.rems ds,Q:=Q', nq:=n', G:=fun j=>if j∈ds then none else P.G j,gone:=P.gone+ds.length } Ks' lx' Lf' cl' /\ Fr (bZ pw pc Ks lx Lf) w w' /\ ∀q∈bZ pw pc Ks' lx' Lf', q∈bZ pw pc Ks lx Lf∨w.heap.size<=q:=by
 have HV:=qA (dC h);have HA:=qA (aCS h.clk to h1 h2 hc);have HB:=qA h;have c4:=h.hd.cell 4;simp only[zJ,zK]at c4;have HL:=qA (zI hl (zI hok hg));clear h hc hl hok hg h1 h2;go_enter Tryz.func67,Tryz.ntmps67
 go_wp2_with fail
 refine HV.out.mono ?_;rintro _ w ⟨rfl,rfl⟩;go_wp2_with fail
 refine HA.out.mono ?_;rintro _ w1 ⟨rfl,k1,k2⟩;have hB1:=HB.out.setClk k1 k2;have HD:=qA (aTI hB1.sch to);have c6:=hB1.hd.cell 6;simp only[zJ,zK]at c6;have H1:=qA (zI hB1 k2);clear k1 k2 hB1 HV HA c4;go_wp2_with fail
 refine HD.out.mono ?_;rintro _ w2 ⟨v,ds,Q', n', lx', rfl,hm,hs2,hr2,hF2,hn2,hv2⟩;obtain⟨cl2,hB2⟩:=H1.out.1.setSch hs2 hF2 hn2;obtain⟨av,cv,rfl⟩:=hr2.slice;have hsz:=H1.out.2.size;obtain⟨k1,k2,k3,k4⟩:=hm.law HL.out.1 HL.out.2.1;have hT:TI w (bZ pw pc Ks lx Lf) pw pc ps px pf { P with now:=to,Q:=Q', nq:=n' } lx' (.slice av ds.length cv) ds to (P.s.rems ds) (fun j=>if j∈ds then none else P.G j) (P.gone+ds.length) 0 w2:=by {
 refine⟨P.s,P.Q,Q', P.G,P.gone,Ks,Lf,cl2,hB2,hr2,fun q hq=>?_,(H1.out.2.mono (by simp[bZ])).trans hF2 (fun b hb=>.inl (by simp[bZ,hb])),fun q hq=>?_,HL.out.1,HL.out.2.1,by simpa using hm,by simp,by simp,by simp⟩
 {
 obtain⟨e1,e2⟩:=hv2 q hq;intro hmem;simp only[bZ,qB,qE]at hmem;have hlt:=H1.out.1.lt;rcases hmem with hmem|hmem|hmem|hmem|hmem
 · have:=hlt q (by simp[bZ,hmem]);omega
 · have:=hlt q (by simp[bZ,hmem]);omega
 · have:=hlt q (by simp[bZ,hmem]);omega
 · exact e2 hmem
 · have:=hlt q (by simp[bZ,hmem]);omega}
 {
 simp only[bZ,qB,qE]at hq ⊢;rcases hq with e|e|e|e|e
 · simp[e]
 · simp[e]
 · simp[e]
 {
 rcases hn2 q e with e|e
 · simp[e]
 · exact .inr (by omega)}
 · simp[e]}};have HT:=qA hT;have hdl:P.gone+ds.length<=9223372036854775807:=by have:=HL.out.2.2;omega
 have hdn:(ds.length:Int)<=9223372036854775807:=by omega
 have Hm:=qA hm;have HN:=qA (show n' =n' from rfl);clear hT hm hs2 hr2 hF2 hn2 hv2 hB2 k1 k2 k3 k4 hsz HD c6 H1 HL;generalize hSE:P.s.rems ds=SE at *;generalize hGE:(fun j=>if j∈ds then none else P.G j)=GE at *;generalize hgE:P.gone+ds.length=gE at *;have HEQ:=qA (zI hSE (zI hGE hgE));clear hSE hGE hgE;go_wp2_with fail
 go_loopw [27] (fun x wr=>∃k:Nat,k<=ds.length/\x=.int .i64 k/\Hid (TI w (bZ pw pc Ks lx Lf) pw pc ps px pf { P with now:=to,Q:=Q', nq:=n' } lx' (.slice av ds.length cv) ds to SE GE gE k wr)) (fun x _=>ds.length-(intOf x).toNat)
 case atStart=>exact⟨0,qS _,rfl,HT⟩
 case round=>
  obtain⟨k,hk,rfl,HI⟩:=hrel;clear HT;by_cases hkl:k<ds.length
  {
  have hki:(k:Int)<ds.length:=by omega
  obtain⟨s1,Q1,Q2,G1,g1,Ks1,Lf1,cl1,hB,hrow,hvq,hF,hnw,hlk,hsok,hmin,hSE,hGE,hgE⟩:=HI.out;obtain⟨i,hi⟩:∃i,i=ds[k]:=⟨_,rfl⟩;rw[aHQ hkl,<-hi]at hmin hSE hGE hgE;obtain⟨bv,cv', ev,_,hat⟩:=hrow.at hkl;rw[<-hi]at hat;simp only[qP,true_and]at ev;obtain⟨rfl,rfl⟩:=ev;have c7:=hB.hd.cell 7;simp only[zJ,zK]at c7;cases hmin with
  | more _ _ x _ _ hq hx hmn hrest=>
  obtain⟨e1,e2⟩:=aQX hlk hsok hq hmn;have hE:=aVF hB.fo;simp only at hE;have HX:=qA (zI hB (zI hrow (zI hvq (zI hF (zI hnw (zI hlk (zI hsok (zI hrest (zI hSE (zI hGE (zI hgE (zI e2 hq))))))))))));have HE:=qA hE;clear hB hrow hvq hF hnw hlk hsok hrest hSE hGE hgE e2 hq hE hmn e1 hi;generalize (pM G1).getD 0=i0 at *;generalize (pM G1).isSome=b0 at *;go_wp2_with fail
  refine HE.out.mono ?_;rintro _ w3 ⟨rfl,Lf2,hf3,hF3,hn3⟩;obtain⟨cl3,hB3⟩:=HX.out.1.setFo hf3 hF3 hn3;have HR:=qA (vI hB3.st i (pA HX.out.2.2.2.2.2.1 HX.out.2.2.2.2.2.2.1 HX.out.2.2.2.2.2.2.2.2.2.2.2.2));have c5:=hB3.hd.cell 5;simp only[zJ,zK]at c5;have H3:=qA (zI hB3 (zI hF3 hn3));clear hB3 hF3 hn3 hf3 HE c7;go_wp2_with fail
  refine HR.out.mono ?_;rintro _ w4 ⟨rfl,Ks2,hs4,hF4,hn4⟩;obtain⟨cl4,hB4⟩:=H3.out.1.setSt hs4 hF4 hn4;have c9:=hB4.hd.cell 9;have z9:=hB4.hd.frozen 9;simp only[zJ,zK]at c9;have H4:=qA (zI hB4 (zI hF4 hn4));have hg1:g1+1<=9223372036854775807:=by have:=HX.out.2.2.2.2.2.2.2.2.2.2.1;simp at this;omega
  have hw1:IntKind.u64.wrap ((g1:Int)+1)=(g1:Int)+1:=by simp[IntKind.wrap,IntKind.bits,IntKind.signed];omega
  clear hB4 hF4 hn4 hs4 HR c5;go_wp2_with fail
  go_roundw
  case rel=>
   refine⟨k+1,by omega,by go_num,qA ?_⟩;have hb5:=H4.out.1.hd.set 9 (.int .u64 ((g1:Int)+1));simp only[qY,qU]at hb5;have hF5:Fr [pw] w4 (w4.setCell ⟨pw,9,none⟩ (.int .u64 ((g1:Int)+1))):=(Fr.refl _ _).setCell _ _ (.inl (by simp));have hB5:=H4.out.1.setN hF5 (a:=P.added) (g:=g1+1) (by rw[Int.natCast_add];exact hb5);obtain⟨hB,hrow,hvq,hF,hnw,hlk,hsok,hrest,hSE,hGE,hgE,e2,hq⟩:=HX.out;obtain⟨hB3,hF3,hn3⟩:=H3.out;obtain⟨hB4,hF4,hn4⟩:=H4.out;have hs3:=hF3.size;have hs4:=hF4.size;have hsw:=hF.size;have hsub:∀q∈bZ pw pc Ks2 lx' Lf2,q∈bZ pw pc Ks1 lx' Lf1∨q∉bZ pw pc Ks1 lx' Lf1/\w.heap.size<=q/\∀u,(Value.slice (some ⟨bv,0,none⟩) ds.length cv).ownBlock=some u->u<q:=by {
   intro q hq;by_cases hin:q∈bZ pw pc Ks1 lx' Lf1
   · exact .inl hin
   {
   refine .inr ⟨hin,?_⟩;simp only[bZ,qB,qE]at hq hin;rcases hq with e|e|e|e|e
   · exact absurd (.inl e) hin
   · exact absurd (.inr (.inl e)) hin
   {
   rcases hn4 q e with e|e
   · exact absurd (.inr (.inr (.inl e))) hin
   · exact⟨by omega,fun u hu=>by have:=hrow.lt hu;omega⟩}
   · exact absurd (.inr (.inr (.inr (.inl e)))) hin
   {
   rcases hn3 q e with e|e
   · exact absurd (.inr (.inr (.inr (.inr e)))) hin
   · exact⟨by omega,fun u hu=>by have:=hrow.lt hu;omega⟩}}};have hin:∀q,q∈Ks1∨q∈Lf1∨q=pw->q∈bZ pw pc Ks1 lx' Lf1:=fun q hq=>by
     simp only[bZ,qB,qE];rcases hq with h|h|h<;>simp[h]
   have hFall:Fr (bZ pw pc Ks lx Lf) w (w4.setCell ⟨pw,9,none⟩ (.int .u64 ((g1:Int)+1))):=
     ((hF.trans hF3 (fun b hb=>hnw b (hin b (.inr (.inl hb))))).trans hF4 (fun b hb=>hnw b (hin b (.inl hb)))).trans hF5 (fun b hb=>by
       have e:b=pw:=by simpa using hb
       exact hnw b (hin b (.inr (.inr e))))
   rw[e2]at hB5;refine⟨s1.rem i,_,Q2,_,g1+1,Ks2,Lf2,cl4,hB5,((hrow.fr hF3 (fun q hq hm=>hvq q hq (hin q (.inr (.inl hm))))).fr hF4 (fun q hq hm=>hvq q hq (hin q (.inl hm)))).fr hF5 (fun q hq hm=>hvq q hq (hin q (.inr (.inr (by simpa using hm))))),fun q hq hm=>?_,hFall,fun q hq=>?_,hlk.drop hsok i,Sm.ok_rem hsok (pA hlk hsok ‹_›),hrest,hSE,?_,?_⟩
   {
   rcases hsub q hm with h|⟨_,_,h⟩
   · exact hvq q hq h
   · have:=h q hq;omega}
   {
   rcases hsub q hq with h|⟨_,h,_⟩
   · exact hnw q h
   · exact .inr h}
   {
   rw[<-hGE];funext j
   by_cases e:j=i
   · subst e;simp
   · by_cases e2:j∈ds.drop (k+1)<;>simp[e,e2]}
   · simp only[qZ]at hgE;omega
  case measure=>simp[intOf];omega}
  {
  obtain rfl:k=ds.length:=by omega
  go_wp2_with fail
  go_ret;obtain⟨s1,Q1,Q2,G1,g1,Ks1,Lf1,cl1,hB,hrow,hvq,hF,hnw,hlk,hsok,hmin,hSE,hGE,hgE⟩:=HI.out;rw[List.drop_eq_nil_of_le (qK _)]at hSE hGE hgE;have e1:s1=SE:=hSE;have e2:G1=GE:=by rw[<-hGE];funext j;simp
  have e3:g1=gE:=by simpa using hgE
  refine⟨rfl,ds,Q', n', Ks1,lx', Lf1,cl1,Hm.out,?_,hF,hnw⟩;rw[HEQ.out.1,HEQ.out.2.1,HEQ.out.2.2,<-e1,<-e2,<-e3];exact hB}
end
end Go.Proofs.YtjdgpcjbgjnahaaGreatDoor
