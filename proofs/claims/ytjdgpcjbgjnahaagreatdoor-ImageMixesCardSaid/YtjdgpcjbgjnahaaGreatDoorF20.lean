/- The root of the common texts of four laws. -/
import Derived.Test.YtjdgpcjbgjnahaaGreatDoorF19
import Derived.Test.YtjdgpcjbgjnahaaGreatDoorF1
import Derived.Test.YtjdgpcjbgjnahaaGreatDoorF18
set_option maxRecDepth 10000
set_option maxHeartbeats 4000000
set_option linter.unusedSimpArgs false
set_option linter.unusedVariables false
/- ImageSaves, ImageEquals: the walks. -/
namespace Go.Proofs.YtjdgpcjbgjnahaaGreatDoor
open Go.RowKit
theorem walk_imageSaves(W:World)(zc:Int×Int×Int×Int)(hzc:-9223372036854775808<=zc.1/\zc.1<=9223372036854775807)(a:Option Addr)(len cap:Nat)(z:Nat->aHI)(hz:jV W a len z)(hL:dV W):
    Calls Tryz.prog 7 #[.agg #[.int .i64 zc.1,.int .i64 zc.2.1,.int .i64 zc.2.2.1,.int .i64 zc.2.2.2],.slice a len cap] W fun e W' =>e=.returned (.bool true)/\Below W.heap.size W W' :=by
 obtain⟨m,E,V,D⟩:=zc;have hb:=Blk.new W [.int .i64 m,.int .i64 E,.int .i64 V,.int .i64 D] 31;have hFA:Fr [] W (W.alloc (.cells #[.int .i64 m,.int .i64 E,.int .i64 V,.int .i64 D] 31)):=(Fr.refl [] W).alloc _;have HL:=qA hL;by_cases hl:60<len
 {
 have d0:(60:Int)<len:=by omega
 have HWk:=qA (iB (Wd.base hFA) hL);clear hb hz hl hzc hFA hL;go_enter Tryz.func7,Tryz.ntmps7
 go_wp2_with fail
 refine HWk.out.mono ?_;rintro _ w2 ⟨rfl,hW⟩;have hB:=hW.below;clear hW HWk;go_wp2_with fail
 go_ret;exact⟨rfl,hB⟩}
 {
 have d0:¬60<len:=hl;have d1:decide ((len:Int)>60)=false:=qF (by omega);have r0:=hb.cell 0;have r1:=hb.cell 1;have r2:=hb.cell 2;have r3:=hb.cell 3;simp only[zK,zL]at r0 r1 r2 r3;have HB:=qA (wX (cap:=cap) (Wd.base hFA) m E V D hzc.2 hz (by omega));clear hb hz hzc hFA hl hL;go_enter Tryz.func7,Tryz.ntmps7
 go_wp2_with fail
 refine HB.out.mono ?_;rintro _ w1 ⟨pv,pd,so,rfl,_,hok,hpc,hW⟩;have HO:=qA (zJ hok hpc);have HS:=qA (aVE hW HL.out hpc);clear HB hok hpc hW r0 r1 r2 r3 d0 d1;go_wp2_with fail
 refine HS.out.mono ?_;rintro _ w2 ⟨a1,n1,c1,rfl,hn1,hc1,_,hW⟩;have HN1:=qA (zJ hn1 hc1);have HT:=qA (aBV hW.third HO.out.1 HO.out.2);clear HS hW hn1 hc1;go_wp2_with fail
 refine HT.out.mono ?_;rintro _ w3 ⟨a2,n2,c2,rfl,hn2,hc2,hr2,hW⟩;have hr1:=hW.third.rowB.rd2;have hnb:n1<=1073741824:=by {
 rw[<-HN1.out.1];cases so with
 | none=>exact qT _
 | some o=>{
 show o.img.length<=_
 have h1:=(HO.out.1 o rfl).leE;have h2:=(HO.out.1 o rfl).mE;rw[o.img_len];omega}};have hsm:=aPW (c1:=c1) (c2:=c2) hr1 hr2 HN1.out.1 hn2 hnb HN1.out.2 hc2;rw[qG (rfl:qI so=qI so)]at hsm;have HSm:=qA hsm;have HW:=qA hW.third;have HNb:=qA hnb;clear hsm hr1 hr2 hW HT hn2 hc2 hnb;cases so with
 | none=>{
 have e1:qS none=1:=rfl;rw[e1];clear e1;go_wp2_with fail
 refine HSm.out.mono ?_;rintro _ w4 ⟨rfl,hF⟩;have HWk:=qA (iB (HW.out.fr0 hF) HL.out);clear HSm hF;go_wp2_with fail
 refine HWk.out.mono ?_;rintro _ w5 ⟨rfl,hW⟩;have hB:=hW.below;clear hW HWk;go_wp2_with fail
 go_ret;exact⟨rfl,hB⟩}
 | some o=>{
 have e1:qS (some o)=0:=rfl;rw[e1];clear e1;go_wp2_with fail
 refine HSm.out.mono ?_;rintro _ w4 ⟨rfl,hF⟩;have hW4:=HW.out.fr0 hF;have hck:=wK (cap:=c1) hW4 HL.out hW4.rowB.rd2 o.img_byt HN1.out.1 HNb.out HN1.out.2;rw[show fY (qI (some o))=(0,some o) from(HO.out.2 o rfl).load (HO.out.1 o rfl)]at hck;have HCk:=qA hck;clear HSm hF hW4 hck;go_wp2_with fail
 refine HCk.out.mono ?_;rintro _ w5 ⟨rfl,hW⟩;have HWk:=qA (iB hW HL.out);clear HCk hW;go_wp2_with fail
 refine HWk.out.mono ?_;rintro _ w6 ⟨rfl,hW⟩;have hB:=hW.below;clear hW HWk;go_wp2_with fail
 go_ret;exact⟨rfl,hB⟩}}
theorem walk_imageEquals(W:World)(zc:Int×Int×Int×Int)(hzc:-9223372036854775808<=zc.1/\zc.1<=9223372036854775807)(zd:Int×Int×Int×Int)(hzd:-9223372036854775808<=zd.1/\zd.1<=9223372036854775807)
    (a:Option Addr) (len cap:Nat) (z:Nat->aHI) (hz:jV W a len z) (a2:Option Addr) (len2 cap2:Nat) (z2:Nat->aHI) (hz2:jV W a2 len2 z2) (hL:dV W):
    Calls Tryz.prog 12 #[.agg #[.int .i64 zc.1,.int .i64 zc.2.1,.int .i64 zc.2.2.1,.int .i64 zc.2.2.2],.agg #[.int .i64 zd.1,.int .i64 zd.2.1,.int .i64 zd.2.2.1,.int .i64 zd.2.2.2],.slice a len cap,.slice a2 len2 cap2] W fun e W' =>e=.returned (.bool true)/\Below W.heap.size W W' :=by
 obtain⟨m,E,V,D⟩:=zc;obtain⟨m', E', V', D'⟩:=zd;have hb:=Blk.new W [.int .i64 m,.int .i64 E,.int .i64 V,.int .i64 D] 31;have hF1:Fr [] W (W.alloc (.cells #[.int .i64 m,.int .i64 E,.int .i64 V,.int .i64 D] 31)):=(Fr.refl [] W).alloc _;have hb2:=Blk.new (W.alloc (.cells #[.int .i64 m,.int .i64 E,.int .i64 V,.int .i64 D] 31)) [.int .i64 m', .int .i64 E', .int .i64 V', .int .i64 D'] 31;rw[World.size_alloc]at hb2;have hF2:Fr [] (W.alloc (.cells #[.int .i64 m,.int .i64 E,.int .i64 V,.int .i64 D] 31)) ((W.alloc (.cells #[.int .i64 m,.int .i64 E,.int .i64 V,.int .i64 D] 31)).alloc (.cells #[.int .i64 m', .int .i64 E', .int .i64 V', .int .i64 D'] 31)):=(Fr.refl [] _).alloc _;have hW2:Wd W ((W.alloc (.cells #[.int .i64 m,.int .i64 E,.int .i64 V,.int .i64 D] 31)).alloc (.cells #[.int .i64 m', .int .i64 E', .int .i64 V', .int .i64 D'] 31)) [thB (W.heap.size+1) 31 [.int .i64 m', .int .i64 E', .int .i64 V', .int .i64 D']]:=
   (Wd.base hF1).new (K:=[W.heap.size+1]) hF2 ⟨hb2,rfl⟩ (by simp)
 have HL:=qA hL;by_cases hbig:40<len∨40<len2
 {
 have HWk:=qA (iB hW2 hL);clear hb hb2 hF1 hF2 hW2 hz hz2 hzc hzd hL;rcases(show 40<len∨len<=40/\40<len2 by omega) with h1|⟨h1,h2⟩
 case' inl=>have d0:(40:Int)<len:=by omega
 case' inr=>
  have d0:decide ((len:Int)>40)=false:=qF (by omega);have d1:¬40<len:=by omega
  have d2:(40:Int)<len2:=by omega
 all_goals
  clear hbig;go_enter Tryz.func12,Tryz.ntmps12
  go_wp2_with fail
  refine HWk.out.mono ?_;rintro _ w2 ⟨rfl,hW⟩;have hB:=hW.below;clear hW HWk;go_wp2_with fail
  go_ret;exact⟨rfl,hB⟩};have d0:decide ((len:Int)>40)=false:=qF (by omega);have d1:¬40<len:=by omega
 have d2:decide ((len2:Int)>40)=false:=qF (by omega);have d3:¬40<len2:=by omega
 have hbx:=hF2.blk hb (by simp);have r0:=hbx.cell 0;have r1:=hbx.cell 1;have r2:=hbx.cell 2;have r3:=hbx.cell 3;simp only[zK,zL]at r0 r1 r2 r3;have HB:=qA (wX (cap:=cap) hW2 m E V D hzc.2 hz (by omega));have HB2:=qA (fun(w' :World) (ts:List Th) (h:Wd W w' ts)=>wX (cap:=cap2) h m' E' V' D' hzd.2 hz2 (by omega));clear hb hb2 hF1 hF2 hW2 hbx hz hz2 hzc hzd hL hbig;go_enter Tryz.func12,Tryz.ntmps12
 go_wp2_with fail
 refine HB.out.mono ?_;rintro _ w1 ⟨pv,pd,so,rfl,hpn,hok,hpc,hW⟩;obtain⟨r0,r1,r2,r3⟩:=hW.drop.drop.cfg43;have HC:=qA (HB2.out _ _ hW);have HO:=qA (zJ hok (zJ hpc hpn));clear HB HB2 hok hpc hW hpn d0 d1 d2 d3;go_wp2_with fail
 refine HC.out.mono ?_;rintro _ w2 ⟨px,pe,sp,rfl,_,hok,hpc,hW⟩;have HP:=qA (zJ hok hpc);have HA:=qA (xA hW.third HL.out HO.out.2.1 hpc);clear HC hok hpc hW r0 r1 r2 r3;go_wp2_with fail
 refine HA.out.mono ?_;rintro _ w3 ⟨x1,rfl,hx1,hW⟩;have HE:=qA (aRF hW.back3.swap.fourth43 HO.out.1 HP.out.1 HO.out.2.1 HP.out.2);have HX1:=qA hx1;clear HA hW hx1;go_wp2_with fail
 refine HE.out.mono ?_;rintro _ w4 ⟨x2,rfl,hx2,hW⟩;have h12:x1=x2:=by rw[Bool.eq_iff_iff];exact HX1.out.trans hx2.symm
 subst h12;have HA:=qA (xA hW.third.fourth43.swap HL.out HP.out.2 HO.out.2.1);clear HE hW hx2;go_wp2_with fail
 refine HA.out.mono ?_;rintro _ w5 ⟨x3,rfl,hx3,hW⟩;have h13:x3=x1:=by {
 rw[Bool.eq_iff_iff];refine hx3.trans (Iff.trans ?_ HX1.out.symm);exact⟨fun⟨o,h1,h2⟩=>⟨o,h2,h1⟩,fun⟨o,h1,h2⟩=>⟨o,h2,h1⟩⟩};have HX3:=qA h13;have HA2:=qA (xA hW.swap HL.out HO.out.2.1 HP.out.2);clear HA hW hx3 h13;go_wp2_with fail
 refine HA2.out.mono ?_;rintro _ w6 ⟨x4,rfl,hx4,hW⟩;have h14:x4=x1:=by rw[Bool.eq_iff_iff];exact hx4.trans HX1.out.symm
 have h3:=HX3.out;subst h14;subst h3;have HA:=qA (xW hW HL.out HO.out.2.1);have hnn:(!so.isNone)=(!pv.isNone):=by rw[HO.out.2.2]
 rw[hnn]at HA;clear HA2 hW hx4 hnn HX3 HX1;go_wp2_with fail
 refine HA.out.mono ?_;rintro _ w7 ⟨rfl,hW⟩;have HWk:=qA (iB hW HL.out);clear HA hW;go_wp2_with fail
 refine HWk.out.mono ?_;rintro _ w8 ⟨rfl,hW⟩;have hB:=hW.below;clear hW HWk;go_wp2_with fail
 go_ret;exact⟨rfl,hB⟩
end Go.Proofs.YtjdgpcjbgjnahaaGreatDoor
namespace Go.Proofs.YtjdgpcjbgjnahaaGreatDoor
end Go.Proofs.YtjdgpcjbgjnahaaGreatDoor
