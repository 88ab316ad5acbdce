/- The root of the common texts of four laws. -/
import Derived.Test.YtjdgpcjbgjnahaaGreatDoorG16
import Derived.Laws.CopyRow
import Derived.Test.YtjdgpcjbgjnahaaGreatDoorG11
import Derived.Test.YtjdgpcjbgjnahaaGreatDoorG14
import Derived.Deep.CutBlock
import Derived.Test.YtjdgpcjbgjnahaaGreatDoorG15
import Derived.Test.YtjdgpcjbgjnahaaGreatDoorG13
import Derived.Test.YtjdgpcjbgjnahaaGreatDoorG1
import Derived.Test.YtjdgpcjbgjnahaaGreatDoorG4
import Derived.Lib.SmallJoins
set_option maxRecDepth 10000
set_option maxHeartbeats 4000000
set_option linter.unusedSimpArgs false
set_option linter.unusedVariables false
/- The twelve faults of an image; the plain law. -/
namespace Go.Proofs.YtjdgpcjbgjnahaaGreatDoor
open Go.RowKit
def Ob.bod(o:Ob):List Nat:=aO o.m o.E o.V o.D o.now o.last o.gone (o.L.map lvR)
theorem Ob.img_bod(o:Ob):o.img=o.bod++beN 4 (crc o.bod):=rfl
theorem Ob.bod_len(o:Ob):o.bod.length=61+32*o.L.length:=by unfold Ob.bod;rw[dW,List.length_map]
theorem Ob.bod_byt(o:Ob):Byt o.bod:=gT _ _ _ _ _ _ _ _
def WrB(o:Ob)(F:List Nat)(c:Int):Prop:=F.length=o.img.length/\Byt F/\∃r,cX (jJ (F.take (o.img.length-4)))=(c,r)/\(r=none↔¬c=0)
theorem uC{l:List Nat}(h:Byt l)(i x:Nat):Byt (dD l i x):=(h.take i).app ((cP _ _).app (h.drop _))
theorem uD{l m:List Nat}{i x:Nat}(h:i+8<=l.length):dD (l++m) i x=dD l i x++m:=by
 unfold dD;rw[List.take_append_of_le_length (by omega),List.drop_append_of_le_length h];simp only[List.append_assoc]
theorem aDL{o:Ob}{B T:List Nat}{c:Int}{r:Option Ob}(hl:B.length=o.bod.length)(hT:T.length=4)(hB:Byt B)(hT2:Byt T)(h:cX (jJ B)=(c,r))(hr:r=none↔¬c=0):WrB o (B++T) c:=by
 have e:(B++T).length=o.img.length:=by rw[o.img_bod,zE,zE,hl,hT,aH]
 refine⟨e,hB.app hT2,r,?_,hr⟩;rw[<-e,zE,hT,Nat.add_sub_cancel,List.take_left];exact h
section
variable {o:Ob} {s:Nat}
theorem kJ{i x:Nat}{c:Int}{r:Option Ob}(hi:i+8<=o.bod.length)(h:cX (jJ (dD o.bod i x))=(c,r))(hr:r=none↔¬c=0):WrB o (dD o.img i x) c:=by
 rw[o.img_bod,uD hi];exact aDL (jO x hi) (aH 4 _) (uC o.bod_byt _ _) (cP _ _) h hr
theorem aBL{i x j y:Nat}{c:Int}{r:Option Ob}(hi:i+8<=o.bod.length)(hj:j+8<=o.bod.length)(h:cX (jJ (dD (dD o.bod i x) j y))=(c,r))(hr:r=none↔¬c=0):WrB o (dD (dD o.img i x) j y) c:=by
 have hl:=jO x hi;rw[o.img_bod,uD hi,uD (by rw[hl];exact hj)];exact aDL ((jO y (by rw[hl];exact hj)).trans hl) (aH 4 _) (uC (uC o.bod_byt _ _) _ _) (cP _ _) h hr
theorem aOU{k:Nat}(hk:k<5):∃x,o.img[k]? =some x/\WrB o (o.img.set k (x ^^^ 1)) 15:=by
 obtain⟨R,hR⟩:∃R,o.bod=83::69::69::80::1::R:=⟨_,rfl⟩;have hb:Byt (83::69::69::80::1::R):=by rw[<-hR];exact o.bod_byt
 have hI:o.img=(83::69::69::80::1::R)++beN 4 (crc o.bod):=by rw[<-hR];rfl
 have hl:(83::69::69::80::1::R).length=o.bod.length:=by rw[hR]
 have key:∀(B:List Nat) (b:Nat),(B++R).length=o.bod.length->Byt B->B.length=5->B≠fC->WrB o (B++R++beN 4 (crc o.bod)) 15:=fun B b h1 h2 h3 h4=>
   aDL h1 (aH 4 _) (h2.app fun b hb' =>hb b (by simp[hb'])) (cP _ _) (aHC (by
     unfold jJ;rw[List.append_assoc,List.take_left' h3];exact h4)) (by simp)
 rw[hI];have:k=0∨k=1∨k=2∨k=3∨k=4:=by omega
 rcases this with rfl|rfl|rfl|rfl|rfl
 · exact⟨83,rfl,key [82,69,69,80,1] 0 hl (by unfold Byt;decide) rfl (by decide)⟩
 · exact⟨69,rfl,key [83,68,69,80,1] 0 hl (by unfold Byt;decide) rfl (by decide)⟩
 · exact⟨69,rfl,key [83,69,68,80,1] 0 hl (by unfold Byt;decide) rfl (by decide)⟩
 · exact⟨80,rfl,key [83,69,69,81,1] 0 hl (by unfold Byt;decide) rfl (by decide)⟩
 · exact⟨1,rfl,key [83,69,69,80,0] 0 hl (by unfold Byt;decide) rfl (by decide)⟩
variable (hB:Bp s 80 o) (hok:o.Ok)
include hB hok
theorem Bp.nums:o.last=o.gone+o.L.length/\o.L.length<=12/\o.m=1+s/\s<256/\0<=o.now/\o.now<=560/\o.last<=80/\o.E=12/\o.V=9/\o.D=5:=by
 have h1:=hok.last;have h2:=hok.leE;have h3:=hB.E;have h4:=hB.now;exact⟨h1,by omega,hB.m,hB.s256,hB.now0,by omega,hB.last,hB.E,hB.V,hB.D⟩
theorem aLL:WrB o (dD o.img 45 (o.last+1)) 15:=by
 have hn:=hB.nums hok;refine kJ (r:=none) (by rw[o.bod_len];omega) ?_ (by simp);unfold Ob.bod;rw[aDJ];exact aBG (by omega) (by omega) (by rw[List.length_map];omega)
theorem aOV:WrB o (dD o.img 53 (o.last+1)) 15:=by
 have hn:=hB.nums hok;refine kJ (r:=none) (by rw[o.bod_len];omega) ?_ (by simp);unfold Ob.bod;rw[aDK];exact aBG (by omega) (by omega) (by rw[List.length_map];omega)
omit hB hok in
theorem wI{m E V D now:Int}{a g:Nat}{l:List R4}(hm:inI m)(hE:inI E)(hV:inI V)(hD:inI D)(hn:inI now)(ha:a<18446744073709551616)(hg:g<18446744073709551616)(hl:∀x∈l,R4.fit x)(hag:a=g+l.length)
    (h:iD m E V D now g l=none):cX (jJ (aO m E V D now a g l))=(2,none):=by
 rw[tZ hm hE hV hD hn ha hg hl hag,h]
theorem wr_m:WrB o (dD o.img 5 0) 2:=by
 have hn:=hB.nums hok;obtain⟨h1,h2,h3,h4,h5,h6,h7⟩:=hB.pc.ins hok;refine kJ (r:=none) (by rw[o.bod_len];omega) ?_ (by simp);unfold Ob.bod;rw[show(0:Nat)=aD 0 by decide,aRZ];refine wI (by unfold inI;omega) h2 h3 h4 h5 h6 h7 (hB.pc.fit4 hok) (by rw[List.length_map];omega) (kI (.inr (.inl ?_)));exact Bool.eq_false_iff.2 fun h=>by have:=fJ.1 h;omega
theorem wr_D:WrB o (dD o.img 29 32768) 2:=by
 have hn:=hB.nums hok;obtain⟨h1,h2,h3,h4,h5,h6,h7⟩:=hB.pc.ins hok;refine kJ (r:=none) (by rw[o.bod_len];omega) ?_ (by simp);unfold Ob.bod;rw[show(32768:Nat)=aD 32768 by decide,aSB];refine wI h1 h2 h3 (by unfold inI;omega) h5 h6 h7 (hB.pc.fit4 hok) (by rw[List.length_map];omega) (kI (.inr (.inl ?_)));exact Bool.eq_false_iff.2 fun h=>by have:=fJ.1 h;omega
theorem aSE:WrB o (dD o.img 37 9223372036854775808) 2:=by
 have hn:=hB.nums hok;obtain⟨h1,h2,h3,h4,h5,h6,h7⟩:=hB.pc.ins hok;refine kJ (r:=none) (by rw[o.bod_len];omega) ?_ (by simp);unfold Ob.bod;rw[show(9223372036854775808:Nat)=aD (-9223372036854775808) by decide,aLJ];exact wI h1 h2 h3 h4 (by unfold inI;omega) h6 h7 (hB.pc.fit4 hok) (by rw[List.length_map];omega) (kI (.inr (.inr (.inr (by omega)))))
theorem aSF:WrB o (dD (dD o.img 45 9223372036854775808) 53 (9223372036854775808-o.L.length)) 2:=by
 have hn:=hB.nums hok;obtain⟨h1,h2,h3,h4,h5,h6,h7⟩:=hB.pc.ins hok;refine aBL (r:=none) (by rw[o.bod_len];omega) (by rw[o.bod_len];omega) ?_ (by simp);unfold Ob.bod;rw[aDJ,aDK];exact wI h1 h2 h3 h4 h5 (by omega) (by omega) (hB.pc.fit4 hok) (by rw[List.length_map];omega) (kI (.inl (by rw[List.length_map];omega)))
theorem aLM:WrB o (dD (dD o.img 45 (o.last+1099511627776)) 53 (o.gone+1099511627776)) 0:=by
 have hn:=hB.nums hok;obtain⟨h1,h2,h3,h4,h5,h6,h7⟩:=hB.pc.ins hok;refine aBL (r:=some (o.later 1099511627776)) (by rw[o.bod_len];omega) (by rw[o.bod_len];omega) ?_ (by simp);unfold Ob.bod;rw[aDJ,aDK,tZ h1 h2 h3 h4 h5 (by omega) (by omega) (hB.pc.fit4 hok) (by rw[List.length_map];omega),aDF hok hB.pc.cf (by omega)]
theorem wr_E(h0:0<o.L.length):WrB o (dD o.img 13 (o.L.length-1)) 2:=by
 have hn:=hB.nums hok;obtain⟨h1,h2,h3,h4,h5,h6,h7⟩:=hB.pc.ins hok;refine kJ (r:=none) (by rw[o.bod_len];omega) ?_ (by simp);unfold Ob.bod;rw[show o.L.length-1=aD ((o.L.length-1:Nat):Int) by rw[aKO (by omega)],aSA];exact wI h1 (by unfold inI;omega) h3 h4 h5 h6 h7 (hB.pc.fit4 hok) (by rw[List.length_map];omega) (kI (.inr (.inr (.inl (by rw[List.length_map];omega)))))
theorem aLN{k:Nat}(hk:k<o.L.length){i x:Nat}{r:R4}(hi:i+8<=o.bod.length)(hr:R4.fit r)(hput:dD o.bod i x=aO o.m o.E o.V o.D o.now o.last o.gone ((o.L.map lvR).take k++r::(o.L.map lvR).drop (k+1)))(h:r.1=r.2.1∨iK o.m o.now r.2.2.2=false):WrB o (dD o.img i x) 2:=by
 have hn:=hB.nums hok;obtain⟨h1,h2,h3,h4,h5,h6,h7⟩:=hB.pc.ins hok;refine kJ (r:=none) hi ?_ (by simp);rw[hput];refine wI h1 h2 h3 h4 h5 h6 h7 (fun y hy=>?_) (by simp only[zE,List.length_take,qY,List.length_drop,List.length_map];omega) (aKZ (r:=r) (by simp) h);rcases qE.1 hy with hy|hy
 · exact hB.pc.fit4 hok y (List.mem_of_mem_take hy)
 {
 rcases qB.1 hy with rfl|hy
 · exact hr
 · exact hB.pc.fit4 hok y (List.mem_of_mem_drop hy)}
omit hB hok in
theorem aFA{k:Nat}(hk:k<o.L.length):o.L.map lvR=(o.L.map lvR).take k++lvR o.L[k]::(o.L.map lvR).drop (k+1):=by
 have h:k<(o.L.map lvR).length:=by rw[List.length_map];exact hk
 have e:=(List.take_append_drop k (o.L.map lvR)).symm;rw[List.drop_eq_getElem_cons h,List.getElem_map]at e;exact e
omit hB hok in
theorem rI{k:Nat}(hk:k<o.L.length):((o.L.map lvR).take k).length=k:=by rw[List.length_take,List.length_map];omega
theorem wr_u{k:Nat}(hk:k<o.L.length):WrB o (dD o.img (61+32*k) o.L[k].v) 2:=by
 have hf:=hB.pc.fit4 hok (lvR o.L[k]) (List.mem_map_of_mem (List.getElem_mem hk));refine aLN hB hok hk (r:=(o.L[k].v,o.L[k].v,o.L[k].wt,o.L[k].t)) (by rw[o.bod_len];omega) ⟨hf.2.1,hf.2.1,hf.2.2⟩ ?_ (.inl rfl);have e:=aSD (m:=o.m) (E:=o.E) (V:=o.V) (D:=o.D) (now:=o.now) (a:=o.last) (g:=o.gone) (k:=(o.L.map lvR).take k) (r:=(o.L.map lvR).drop (k+1)) (u:=o.L[k].u) (v:=o.L[k].v) (wt:=o.L[k].wt) (t:=o.L[k].t) o.L[k].v;rw[rI hk]at e;rw[<-e,show((o.L[k].u,o.L[k].v,o.L[k].wt,o.L[k].t):R4)=lvR o.L[k] from rfl,<-aFA hk];rfl
theorem wr_t{k:Nat}(hk:k<o.L.length){x:Int}(hx:inI x)(h:iK o.m o.now x=false):WrB o (dD o.img (61+32*k+24) (aD x)) 2:=by
 have hf:=hB.pc.fit4 hok (lvR o.L[k]) (List.mem_map_of_mem (List.getElem_mem hk));refine aLN hB hok hk (r:=(o.L[k].u,o.L[k].v,o.L[k].wt,x)) (by rw[o.bod_len];omega) ⟨hf.1,hf.2.1,hf.2.2.1,hx⟩ ?_ (.inr h);have e:=aSC (m:=o.m) (E:=o.E) (V:=o.V) (D:=o.D) (now:=o.now) (a:=o.last) (g:=o.gone) (k:=(o.L.map lvR).take k) (r:=(o.L.map lvR).drop (k+1)) (u:=o.L[k].u) (v:=o.L[k].v) (wt:=o.L[k].wt) (t:=o.L[k].t) x;rw[rI hk]at e;rw[<-e,show((o.L[k].u,o.L[k].v,o.L[k].wt,o.L[k].t):R4)=lvR o.L[k] from rfl,<-aFA hk];rfl
theorem aOW{k:Nat}(hk:k<o.L.length):WrB o (dD o.img (61+32*k+24) (aD (o.now+1))) 2:=by
 have hn:=hB.nums hok;exact wr_t hB hok hk (by unfold inI;omega) (qF (by omega))
theorem aLO(h0:0<o.L.length):WrB o (dD o.img 85 (aD (o.now-1-s))) 2:=by
 have hn:=hB.nums hok;exact wr_t hB hok h0 (by unfold inI;omega) (qF (by omega))
end
def oX(l:List Nat)(k x i:Nat):List Nat:=l.take k++((beN 8 x).take i++l.drop (k+i))
theorem aHH(l:List Nat)(k x:Nat):oX l k x 0=l:=by unfold oX;simp
theorem aLP(l:List Nat)(k x:Nat):oX l k x 8=dD l k x:=by unfold oX dD;rw[List.take_of_length_le (l:=beN 8 x) (by rw[aH];exact qJ _)]
theorem aLQ{l:List Nat}{k i:Nat}(x:Nat)(hi:i<=8)(h:k+i<=l.length):(oX l k x i).length=l.length:=by
 unfold oX;rw[zE,zE,List.length_take,List.length_take,List.length_drop,aH];omega
theorem aLR{l:List Nat}{k i:Nat}(x:Nat)(hi:i<8)(h:k+i<l.length):(oX l k x i).set (k+i) (x/256 ^ (7-i)%256)=oX l k x (i+1):=by
 have h1:(l.take k).length=k:=by rw[List.length_take];omega
 have h2:((beN 8 x).take i).length=i:=by rw[List.length_take,aH];omega
 have h3:i<(beN 8 x).length:=by rw[aH];exact hi
 unfold oX;rw[List.set_append_right _ _ (by omega),h1,List.set_append_right _ _ (by omega),h2,show k+i-k-i=0 by omega,List.drop_eq_getElem_cons h,qX,List.take_add_one,qK h3,iM 8 x h3,show 8-1-i=7-i by omega];simp only[List.append_assoc,Option.toList_some,List.singleton_append,Nat.add_assoc]
theorem aHI{W w:World}{ts:List Th}{b cb n i j:Nat}{l:List Nat}(h:Wd W w (thY (.slice (some ⟨b,0,none⟩) n cb) l::ts))(hn:l.length=n)(hb:Byt l)(hi:i+8<=n)(hj:j+8<=n)(c1 c2:Nat):
    ∃w', (∀ty,(Builtin.copy_ #[22,22] ty #[.slice (some ⟨b,i,none⟩) 8 c1,.slice (some ⟨b,j,none⟩) 8 c2]).run Tryz.prog w=.ok (goInt 8) w')/\Wd W w' (thY (.slice (some ⟨b,0,none⟩) n cb) (dD l i (aI (sub l j 8)))::ts):=by
 have hsl:(sub l j 8).length=8:=mI (by omega);have hbe:beN 8 (aI (sub l j 8))=sub l j 8:=by have:=aHN (mJ hb j 8);rw[hsl]at this;exact this
 have hrd:=h.rowB.rd2.sub j 8;obtain⟨K,⟨hv,rfl⟩,hs⟩:=h.open;obtain⟨h1,h2⟩:=hv;rcases h2 with⟨e,_⟩|⟨g', cap', cur,e,_,hh,hnc,hm,hsz,hxs⟩
 · cases e
 {
 simp only[qO,qI,Addr.mk.injEq,and_true]at e;obtain⟨rfl,_,rfl⟩:=e;have hc8:(bG (sub l j 8)).length=8:=by rw[iS,hsl]
 have hcur:n<=cur.toList.length:=by rw[Array.length_toList];omega
 rw[hn,Nat.mul_one]at hxs;have hr:=fun ty=>run_copy_row (P:=Tryz.prog) w 22 22 ty 5 b i 8 c1 ⟨b,0+j,none⟩ 8 c2 cur 5 (bG (sub l j 8)) Tryz.underlying22 (by kernel_rfl) hh (by rw[hc8];rfl) hrd.cells (by rw[hc8];rw[Array.length_toList]at hcur;omega) (yJ _);rw[hc8,Nat.zero_add]at hr;refine⟨_,hr,hs ⟨_,⟨?_,rfl⟩,⟨rfl,rfl,rfl,by simp[World.setRow],fun k hk hne=>setRow_other w b k _ (by simpa[Value.ownBlock] using hne)⟩,fun q hq=>.inl hq⟩⟩;have hpl:=jO (aI (sub l j 8)) (show i+8<=l.length by omega);unfold dS;rw[hpl];refine⟨by rw[iS,hpl],.inr ⟨b,cb,_,by rw[hn],qR _,setRow_heap w b cur _ 5 (0,0) hh,by omega,?_,?_,?_⟩⟩
 · exact hm
 · rw[List.size_toArray,zE,zE,List.length_take,List.length_drop,hc8,<-hsz,<-Array.length_toList];omega
 {
 have e1:bG (l.take i)=cur.toList.take i:=by rw[show bG (l.take i)=(bG l).take i by unfold bG;rw[List.map_take],<-hxs,List.take_take,Nat.min_eq_left (by omega)]
 have e2:bG (l.drop (i+8))=(cur.toList.drop (i+8)).take (n-(i+8)):=by rw[show bG (l.drop (i+8))=(bG l).drop (i+8) by unfold bG;rw[List.map_drop],<-hxs,List.drop_take]
 have hl:(cur.toList.take i++bG (sub l j 8)).length=i+8:=by rw[zE,List.length_take,hc8];omega
 unfold dD;rw[hbe,iT,iT,e1,e2,<-List.append_assoc,hn,Nat.mul_one,List.take_append,hl,List.take_of_length_le (by rw[hl];omega)]}}
theorem gH{W w:World}{ts:List Th}{rb b cb n at_ x:Nat}{l:List Nat}(h:Wd W w (thB rb 22 [.slice (some ⟨b,0,none⟩) n cb]::thY (.slice (some ⟨b,0,none⟩) n cb) l::ts))(hn:l.length=n)(ha:at_+8<=n)(hl:n<=1073741824)(hx:x<18446744073709551616):
    Calls Tryz.prog 41 #[.int .i64 at_,.int .u64 x,.pointer (some ⟨rb,0,none⟩)] w fun e w' =>e=.returned (.tuple #[])/\Wd W w' (thB rb 22 [.slice (some ⟨b,0,none⟩) n cb]::thY (.slice (some ⟨b,0,none⟩) n cb) (dD l at_ x)::ts):=by
 have HW:=qA (show Wd W w (thB rb 22 [.slice (some ⟨b,0,none⟩) n cb]::thY (.slice (some ⟨b,0,none⟩) n cb) (oX l at_ x 0)::ts) by rw[aHH];exact h);have HN:=qA (zH hn ha);clear h hn;go_enter Tryz.func41,Tryz.ntmps41
 go_wp2_with fail
 go_loopw [5,6] (fun _ c wr=>∃i:Nat,i<=8/\c=.int .i64 i/\Hid (Wd W wr (thB rb 22 [.slice (some ⟨b,0,none⟩) n cb]::thY (.slice (some ⟨b,0,none⟩) n cb) (oX l at_ x i)::ts))) (fun _ c _=>8-(intOf c).toNat)
 case atStart=>exact⟨0,by omega,rfl,HW⟩
 case round=>
  clear HW;obtain⟨i,hi,rfl,HP⟩:=hrel;rename World=>wr
  by_cases hi8:i<8
  {
  have hki:at_+i<l.length:=by rw[HN.out.1];have:=HN.out.2;omega
  have hpl:=aLQ (l:=l) (k:=at_) (i:=i) x hi (by omega);have hps:=aLR (l:=l) (k:=at_) (i:=i) x hi8 hki;have c0:=HP.out.blk.cell 0;simp only[zI]at c0;obtain⟨b', cap', ev,_,_,hz,hcell⟩:=HP.out.swap.rowB.at (i:=at_+i) (by rw[hpl];exact hki);rw[hpl,HN.out.1]at ev;simp only[qO,qI,Addr.mk.injEq,and_true]at ev;obtain⟨rfl,_,rfl⟩:=ev;have hzk:=hz (at_+i);generalize (oX l at_ x i)[at_+i]'_=old at *;have HNx:Hid (∀z:Int,z=((x/256 ^ (7-i)%256:Nat):Int)->Wd W (wr.drew.setCell ⟨b,at_+i,none⟩ (.int .u8 z)) (thB rb 22 [.slice (some ⟨b,0,none⟩) n cb]::thY (.slice (some ⟨b,0,none⟩) n cb) (oX l at_ x (i+1))::ts)):=qA (by
    rintro z rfl;have h1:=HP.out.swap.fr0 (Fr.refl [] wr).drew;have h2:=Wd.setB (w:=wr.drew) (cap:=cb) (l:=oX l at_ x i) (by rw[hpl,HN.out.1];exact h1) (i:=at_+i) (by rw[hpl];exact hki) (x/256 ^ (7-i)%256);rw[hpl,HN.out.1,hps]at h2;exact h2.swap)
  obtain⟨k,hk⟩:∃k,k=at_+i:=⟨_,rfl⟩;have gk:IntKind.i64.wrap ((at_:Int)+i)=(k:Int):=by rw[show(at_:Int)+i=(k:Int) by omega];exact zF _ (by omega)
  have u2:(k:Int)<n:=by have:=HN.out;omega
  have u3:(0:Int)<=k:=by omega
  rw[<-hk]at hzk hcell HNx;have HK:=qA hk;clear hpl hps hki hz hk ha HP;have hcs:i=0∨i=1∨i=2∨i=3∨i=4∨i=5∨i=6∨i=7:=by omega
  rcases hcs with rfl|rfl|rfl|rfl|rfl|rfl|rfl|rfl
  {
  have g1:wrap64 ((at_:Int))=(k:Int):=by rw[show(at_:Int)=(k:Int) by have:=HK.out;omega];exact IntWalk.wrap64_in _ ⟨by omega,by omega⟩
  go_wp2_with fail
  go_region
  go_wp2_with fail
  go_roundw
  case rel=>exact⟨1,by omega,by go_num,qA (HNx.out _ (by omega))⟩
  case measure=>simp[intOf]}
  {
  have g1:wrap64 ((at_:Int)+1)=(k:Int):=by rw[show(at_:Int)+1=(k:Int) by have:=HK.out;omega];exact IntWalk.wrap64_in _ ⟨by omega,by omega⟩
  go_wp2_with fail
  go_region
  go_wp2_with fail
  go_roundw
  case rel=>exact⟨2,by omega,by go_num,qA (HNx.out _ (by omega))⟩
  case measure=>simp[intOf]}
  {
  have g1:wrap64 ((at_:Int)+2)=(k:Int):=by rw[show(at_:Int)+2=(k:Int) by have:=HK.out;omega];exact IntWalk.wrap64_in _ ⟨by omega,by omega⟩
  go_wp2_with fail
  go_region
  go_wp2_with fail
  go_roundw
  case rel=>exact⟨3,by omega,by go_num,qA (HNx.out _ (by omega))⟩
  case measure=>simp[intOf]}
  {
  have g1:wrap64 ((at_:Int)+3)=(k:Int):=by rw[show(at_:Int)+3=(k:Int) by have:=HK.out;omega];exact IntWalk.wrap64_in _ ⟨by omega,by omega⟩
  go_wp2_with fail
  go_region
  go_wp2_with fail
  go_roundw
  case rel=>exact⟨4,by omega,by go_num,qA (HNx.out _ (by omega))⟩
  case measure=>simp[intOf]}
  {
  have g1:wrap64 ((at_:Int)+4)=(k:Int):=by rw[show(at_:Int)+4=(k:Int) by have:=HK.out;omega];exact IntWalk.wrap64_in _ ⟨by omega,by omega⟩
  go_wp2_with fail
  go_region
  go_wp2_with fail
  go_roundw
  case rel=>exact⟨5,by omega,by go_num,qA (HNx.out _ (by omega))⟩
  case measure=>simp[intOf]}
  {
  have g1:wrap64 ((at_:Int)+5)=(k:Int):=by rw[show(at_:Int)+5=(k:Int) by have:=HK.out;omega];exact IntWalk.wrap64_in _ ⟨by omega,by omega⟩
  go_wp2_with fail
  go_region
  go_wp2_with fail
  go_roundw
  case rel=>exact⟨6,by omega,by go_num,qA (HNx.out _ (by omega))⟩
  case measure=>simp[intOf]}
  {
  have g1:wrap64 ((at_:Int)+6)=(k:Int):=by rw[show(at_:Int)+6=(k:Int) by have:=HK.out;omega];exact IntWalk.wrap64_in _ ⟨by omega,by omega⟩
  go_wp2_with fail
  go_region
  go_wp2_with fail
  go_roundw
  case rel=>exact⟨7,by omega,by go_num,qA (HNx.out _ (by omega))⟩
  case measure=>simp[intOf]}
  {
  have g1:wrap64 ((at_:Int)+7)=(k:Int):=by rw[show(at_:Int)+7=(k:Int) by have:=HK.out;omega];exact IntWalk.wrap64_in _ ⟨by omega,by omega⟩
  go_wp2_with fail
  go_region
  go_wp2_with fail
  go_roundw
  case rel=>exact⟨8,by omega,by go_num,qA (HNx.out _ (by omega))⟩
  case measure=>simp[intOf]}}
  {
  obtain rfl:i=8:=by omega
  have HR:=qA (show Wd W wr (thB rb 22 [.slice (some ⟨b,0,none⟩) n cb]::thY (.slice (some ⟨b,0,none⟩) n cb) (dD l at_ x)::ts) by rw[<-aLP];exact HP.out);clear HP;go_wp2
  refine bodyPost_end (v:=.tuple #[]) (results_none rfl _ _ _) rfl ?_;exact⟨rfl,HR.out⟩}
section
variable {w:World} {v:Value}
end
section
variable {W w:World} {ts:List Th} {p:Nat} {o:Ob} {v:Value}
end
section
variable {W w:World} {ts:List Th} {p q:Nat} {o r:Ob}
end
theorem be4(x:Nat):beN 4 x=[x/16777216%256,x/65536%256,x/256%256,x%256]:=by
 show [x/256 ^ 3%256,x/256 ^ 2%256,x/256 ^ 1%256,x/256 ^ 0%256]=_
 simp
theorem aBM(w:World)(a b c d:Nat){u1 u2 u3 u4:Int}(h1:u1=a)(h2:u2=b)(h3:u3=c)(h4:u4=d):RdB (w.alloc (.cells #[.int .u8 u1,.int .u8 u2,.int .u8 u3,.int .u8 u4] 5)) (some ⟨w.heap.size,0,none⟩) [a,b,c,d]:=fun i hi=>by
 subst h1 h2 h3 h4;refine⟨w.heap.size,0,rfl,by simp,?_⟩;have hb:=Blk.new w [.int .u8 (a:Int),.int .u8 (b:Int),.int .u8 (c:Int),.int .u8 (d:Int)] 5;have h0:=hb.cell 0;have h1:=hb.cell 1;have h2:=hb.cell 2;have h3:=hb.cell 3;simp only[zI,zJ]at h0 h1 h2 h3;rw[Nat.zero_add];have:i=0∨i=1∨i=2∨i=3:=by simp at hi;omega
 rcases this with rfl|rfl|rfl|rfl<;>assumption
theorem Wd.setBox{W w:World}{ts:List Th}{q:Nat}{ty:TypeId}{u:Value}(h:Wd W w (thB q ty [u]::ts))(v:Value):Wd W (w.setCell ⟨q,0,none⟩ v) (thB q ty [v]::ts):=by
 obtain⟨K,⟨hv,rfl⟩,hs⟩:=h.open;exact hs ⟨_,⟨hv.set 0 v,rfl⟩,(Fr.refl _ _).setCell _ _ (.inl (by simp)),fun q hq=>.inl hq⟩
theorem walk_wrA(W:World)(s:Nat)(hs:s<256)(am:Option Addr)(lm cm:Nat)(z:Nat->Mv)(hz:lU W am lm z)(fa:Nat)(hfa:fa<256)(wh:Nat)(hwh:wh<65536)(hL:fD W)(hlo:fa%12<8):
    Calls Tryz.prog 11 #[.int .u8 (s:Nat),.slice am lm cm,.int .u8 (fa:Nat),.int .u16 (wh:Nat)] W fun e W' =>e=.returned (.bool true)/\Below W.heap.size W W' :=by
 have HL:=qA hL;have HP:=qA (aBK (cap:=cm) (Wd.begin W) hs hz);clear hL hz;go_enter Tryz.func11,Tryz.ntmps11
 go_wp2_with fail
 refine HP.out.mono ?_;rintro _ w1 ⟨p,o,rfl,hW,hB⟩;have hok:=hW.ob;have HS:=qA (yG hW HL.out hB.pc);have HB:=qA (zH hB hok);have hnm:=hB.nums hok;obtain⟨n,hn⟩:∃n,n=o.img.length:=⟨_,rfl⟩;have HN:=qA hn;have hlen:=o.img_len;rw[<-hn]at hlen;have hn65:65<=n:=by omega
 have hnb:n<=600:=by omega
 have HNm:=qA (zH hlen hnm);clear HP hW hB hok hn hlen hnm hs;go_wp2_with fail
 refine HS.out.mono ?_;rintro _ w2 ⟨v,rfl,hW⟩;clear HS;obtain⟨b,cb,rfl,hcb,_⟩:=hW.formB (by rw[<-HN.out];omega);rw[<-HN.out]at hcb hW ⊢;have hW2:=(hW.new (t:=thB w2.heap.size 22 [.slice (some ⟨b,0,none⟩) n cb]) (K:=[w2.heap.size]) ((Fr.refl [] w2).alloc (.cells #[.slice (some ⟨b,0,none⟩) n cb] 22)) ⟨Blk.new w2 _ _,rfl⟩ (by simp)).third;have HW2:=qA hW2;clear hW hW2;have HA:=qA (yC HW2.out);go_wp2_with fail
 refine HA.out.mono ?_;rintro _ w5 ⟨lv,L,rfl,hlv,hW⟩;obtain⟨la,lc,rfl⟩:=hW.rowV.slice;have hll:L.length=o.L.length:=by rw[<-hlv.1,List.length_map]
 rw[hll];clear HA HW2;generalize w2.heap.size=bb at *;obtain⟨nn,hnn⟩:∃nn,nn=o.L.length:=⟨_,rfl⟩;rw[<-hnn];have HNn:=qA hnn;have HW5:=qA (show Wd W w5 (thO p o::thB bb 22 [.slice (some ⟨b,0,none⟩) n cb]::[thY (.slice (some ⟨b,0,none⟩) n cb) o.img]) from hW.drop);have hbk:=HW5.out.swap.blk;have c0:=hbk.cell 0;simp only[zI]at c0;have hlen:=HNm.out.1;rw[<-hnn]at hlen;have Hzhw1:=qA (show IntKind.i64.wrap (32*(nn:Int))=((32*nn:Nat):Int) from by rw[show 32*(nn:Int)=((32*nn:Nat):Int) by omega];exact zF _ (by omega));have Hzhw2:=qA (show IntKind.i64.wrap (65+((32*nn:Nat):Int))=(n:Int) from by rw[show 65+((32*nn:Nat):Int)=(n:Int) by omega];exact zF _ (by omega));have Hzhw3:=qA (show wrap64 (65+32*(nn:Int))=(n:Int) from by rw[show 65+32*(nn:Int)=(n:Int) by omega];exact IntWalk.wrap64_in _ ⟨by omega,by omega⟩);have HLen:=qA hlen;have HCb:=qA hcb;clear hlv hll hnn hW hbk hlen hcb;have HA:=qA (tX HW5.out);obtain⟨ad,had⟩:∃ad,ad=o.last:=⟨_,rfl⟩;obtain⟨ge,hge⟩:∃ge,ge=o.gone:=⟨_,rfl⟩;rw[<-had,<-hge]at HA;have HAd:=qA (zH had hge);clear had hge;have hw1:=Hzhw1.out;have hw2:=Hzhw2.out;have hw3:=Hzhw3.out;go_wp2_with fail
 refine HA.out.mono ?_;rintro _ w7 ⟨rfl,hF⟩;have HW7:=qA (HW5.out.fr0 hF).back3;clear HA hF HW5 c0 hw1 hw2 hw3;have hadb:ad<=80:=by have:=HNm.out.2;have:=HAd.out;omega
 have hgeb:ge<=80:=by have:=HNm.out.2;have:=HAd.out;omega
 have hnnb:nn<=12:=by have:=HNm.out.2;have:=HNn.out;omega
 go_upto_if 51 with fail
 go_cut [16] from 50 (fun s16 wc=>∃ed:Nat,s16=.int .i64 ed/\(0<nn->ed=61+32*(wh%nn))/\wc=w7)
 case first=>
  by_cases h0:nn=0
  {
  have d1:¬(0:Int)<nn:=by omega
  have d2:decide ((0:Int)<nn)=false:=qF d1;have HED:=qA (show 0<nn->0=61+32*(wh%nn) from fun h=>absurd h (by omega));clear h0;go_wp2_with fail
  go_meet
  case rel=>exact⟨0,rfl,HED.out,rfl⟩}
  {
  have d1:(0:Int)<nn:=by omega
  have d2:decide ((0:Int)<nn)=true:=qG d1;have hk:=Nat.mod_lt wh (show 0<nn by omega);have Hzg0:=qA (show IntKind.i64.wrap (wh:Int)=wh from zF _ (by omega));have g2' :(wh:Int)%nn=((wh%nn:Nat):Int):=(Int.natCast_emod ..).symm;have g2:(wh:Int).tmod nn=((wh%nn:Nat):Int):=by rw[Int.tmod_eq_emod_of_nonneg (Int.natCast_nonneg _)];exact g2'
  have g5:¬nn=0:=h0;have g5' :¬(nn:Int)=0:=by omega
  obtain⟨k,hkk⟩:∃k,k=wh%nn:=⟨_,rfl⟩;rw[<-hkk]at g2 g2' hk;have Hzg6:=qA (show IntKind.i64.wrap (32*(k:Int))=((32*k:Nat):Int) from by rw[show 32*(k:Int)=((32*k:Nat):Int) by omega];exact zF _ (by omega));have Hzg7:=qA (show IntKind.i64.wrap (61+((32*k:Nat):Int))=((61+32*k:Nat):Int) from by rw[show 61+((32*k:Nat):Int)=((61+32*k:Nat):Int) by omega];exact zF _ (by omega));have Hzg8:=qA (show wrap64 (61+32*(k:Int))=((61+32*k:Nat):Int) from by rw[show 61+32*(k:Int)=((61+32*k:Nat):Int) by omega];exact IntWalk.wrap64_in _ ⟨by omega,by omega⟩);have HKk:=qA hkk;clear hkk;have g0:=Hzg0.out;have g6:=Hzg6.out;have g7:=Hzg7.out;have g8:=Hzg8.out;go_wp2_with fail
  go_meet
  case rel=>exact⟨61+32*k,rfl,fun _=>by rw[HKk.out],rfl⟩}
 case rest=>
  obtain⟨ed,rfl,hed,rfl⟩:=hcut;have HED:=qA hed;clear hed;have hf12:fa%12<12:=Nat.mod_lt _ (by decide);have t12:(fa:Int).tmod 12=((fa%12:Nat):Int):=by rw[Int.tmod_eq_emod_of_nonneg (by omega)];omega
  have t12' :(fa:Int)%12=((fa%12:Nat):Int):=by omega
  generalize fa%12=f at *;go_upto_block 0 with fail
  go_cut [17] from 50 (fun s17 wc=>∃(F:List Nat) (c:Int),s17=.int .i64 c/\Hid (Wd W wc (thB bb 22 [.slice (some ⟨b,0,none⟩) n cb]::thY (.slice (some ⟨b,0,none⟩) n cb) (F)::[thO p o])/\WrB o F c))
  case first=>
   have hcs:f=0∨f=1∨f=2∨f=3∨f=4∨f=5∨f=6∨f=7:=by omega
   rcases hcs with rfl|rfl|rfl|rfl|rfl|rfl|rfl|rfl
   {
   have hk5:wh%5<5:=Nat.mod_lt _ (by decide);have q2' :(wh:Int)%5=((wh%5:Nat):Int):=by omega
   have q2:(wh:Int).tmod 5=((wh%5:Nat):Int):=by rw[Int.tmod_eq_emod_of_nonneg (by omega)];exact q2'
   have Hzq0:=qA (show IntKind.i64.wrap (wh:Int)=wh from zF _ (by omega));obtain⟨x,hx,hw⟩:=aOU (o:=o) hk5;obtain⟨k,hkk⟩:∃k,k=wh%5:=⟨_,rfl⟩;rw[<-hkk]at q2 q2' hk5 hx hw;clear hkk;have hkl:k<o.img.length:=by rw[<-HN.out];omega
   have q3:(k:Int)<n:=by omega
   have q4:(0:Int)<=k:=by omega
   have hxe:=(qS.1 hx).2;have hx8:x<256:=by rw[<-hxe];exact o.img_byt _ (List.getElem_mem _)
   have hxor:Go.bits .xor .u8 (x:Int) 1=((x ^^^ 1:Nat):Int):=aLD hx8 (show 1<256 by decide);have c0:=HW7.out.blk.cell 0;simp only[zI]at c0;obtain⟨b', cap', ev,_,_,hz,hc⟩:=HW7.out.swap.rowB.at (i:=k) hkl;rw[<-HN.out]at ev;simp only[qO,qI,Addr.mk.injEq,and_true]at ev;obtain⟨rfl,_,rfl⟩:=ev;rw[hxe]at hc;have hzk:=hz k;have h2:=Wd.setB (cap:=cb) (l:=o.img) (by rw[<-HN.out];exact HW7.out.swap) (i:=k) hkl (x ^^^ 1);rw[<-HN.out]at h2;have HX:=qA (zH h2.swap hw);clear h2 hw hx hxe hx8 hz hkl hk5;generalize x ^^^ 1=y at *;have q0:=Hzq0.out;go_wp2_with fail
   go_meet
   case rel=>exact⟨_,15,rfl,qA ⟨HX.out.1,HX.out.2⟩⟩}
   {
   have HC:=qA (gH (at_:=45) (x:=ad+1) HW7.out HN.out.symm (by omega) (by omega) (by omega));have Hzq0:=qA (show IntKind.u64.wrap ((ad:Int)+1)=((ad+1:Nat):Int) from by rw[IntKind.wrap_u64];omega);have HWr:=qA (aLL HB.out.1 HB.out.2);rw[<-HAd.out.1]at HWr;have q0:=Hzq0.out;go_wp2_with fail
   refine HC.out.mono ?_;rintro _ w8 ⟨rfl,hW⟩;have HX:=qA (zH hW HWr.out);clear hW HC HWr;go_wp2_with fail
   go_meet
   case rel=>exact⟨_,15,rfl,qA ⟨HX.out.1,HX.out.2⟩⟩}
   {
   have HC:=qA (gH (at_:=53) (x:=ad+1) HW7.out HN.out.symm (by omega) (by omega) (by omega));have Hzq0:=qA (show IntKind.u64.wrap ((ad:Int)+1)=((ad+1:Nat):Int) from by rw[IntKind.wrap_u64];omega);have HWr:=qA (aOV HB.out.1 HB.out.2);rw[<-HAd.out.1]at HWr;have q0:=Hzq0.out;go_wp2_with fail
   refine HC.out.mono ?_;rintro _ w8 ⟨rfl,hW⟩;have HX:=qA (zH hW HWr.out);clear hW HC HWr;go_wp2_with fail
   go_meet
   case rel=>exact⟨_,15,rfl,qA ⟨HX.out.1,HX.out.2⟩⟩}
   {
   have HC:=qA (gH (at_:=5) (x:=0) HW7.out HN.out.symm (by omega) (by omega) (by omega));have HWr:=qA (wr_m HB.out.1 HB.out.2);go_wp2_with fail
   refine HC.out.mono ?_;rintro _ w8 ⟨rfl,hW⟩;have HX:=qA (zH hW HWr.out);clear hW HC HWr;go_wp2_with fail
   go_meet
   case rel=>exact⟨_,2,rfl,qA ⟨HX.out.1,HX.out.2⟩⟩}
   {
   have HC:=qA (gH (at_:=29) (x:=32768) HW7.out HN.out.symm (by omega) (by omega) (by omega));have HWr:=qA (wr_D HB.out.1 HB.out.2);go_wp2_with fail
   refine HC.out.mono ?_;rintro _ w8 ⟨rfl,hW⟩;have HX:=qA (zH hW HWr.out);clear hW HC HWr;go_wp2_with fail
   go_meet
   case rel=>exact⟨_,2,rfl,qA ⟨HX.out.1,HX.out.2⟩⟩}
   {
   have HC:=qA (gH (at_:=37) (x:=9223372036854775808) HW7.out HN.out.symm (by omega) (by omega) (by omega));have HWr:=qA (aSE HB.out.1 HB.out.2);go_wp2_with fail
   refine HC.out.mono ?_;rintro _ w8 ⟨rfl,hW⟩;have HX:=qA (zH hW HWr.out);clear hW HC HWr;go_wp2_with fail
   go_meet
   case rel=>exact⟨_,2,rfl,qA ⟨HX.out.1,HX.out.2⟩⟩}
   {
   have HC:=qA (gH (at_:=45) (x:=9223372036854775808) HW7.out HN.out.symm (by omega) (by omega) (by omega));have Hzq0:=qA (show IntKind.u64.wrap (nn:Int)=nn from by rw[IntKind.wrap_u64];omega);have Hzq1:=qA (show IntKind.u64.wrap (9223372036854775808-(nn:Int))=((9223372036854775808-nn:Nat):Int) from by rw[IntKind.wrap_u64];omega);have HWr:=qA (aSF HB.out.1 HB.out.2);rw[<-HNn.out]at HWr;have q0:=Hzq0.out;have q1:=Hzq1.out;go_wp2_with fail
   refine HC.out.mono ?_;rintro _ w8 ⟨rfl,hW⟩;have Hq1:=qA q1;clear q0 q1;have HC:=qA (gH (at_:=53) (x:=9223372036854775808-nn) hW (by rw[jO _ (by rw[<-HN.out];omega)];exact HN.out.symm) (by omega) (by omega) (by omega));clear hW;have q1:=Hq1.out;go_wp2_with fail
   refine HC.out.mono ?_;rintro _ w9 ⟨rfl,hW⟩;have HX:=qA (zH hW HWr.out);clear hW HC HWr;go_wp2_with fail
   go_meet
   case rel=>exact⟨_,2,rfl,qA ⟨HX.out.1,HX.out.2⟩⟩}
   {
   have HC:=qA (gH (at_:=45) (x:=ad+1099511627776) HW7.out HN.out.symm (by omega) (by omega) (by omega));have Hzq0:=qA (show IntKind.u64.wrap ((ad:Int)+1099511627776)=((ad+1099511627776:Nat):Int) from by rw[IntKind.wrap_u64];omega);have Hzq1:=qA (show IntKind.u64.wrap ((ge:Int)+1099511627776)=((ge+1099511627776:Nat):Int) from by rw[IntKind.wrap_u64];omega);have HWr:=qA (aLM HB.out.1 HB.out.2);rw[<-HAd.out.1,<-HAd.out.2]at HWr;have q0:=Hzq0.out;have q1:=Hzq1.out;go_wp2_with fail
   refine HC.out.mono ?_;rintro _ w8 ⟨rfl,hW⟩;have Hq1:=qA q1;clear q0 q1;have HC:=qA (gH (at_:=53) (x:=ge+1099511627776) hW (by rw[jO _ (by rw[<-HN.out];omega)];exact HN.out.symm) (by omega) (by omega) (by omega));clear hW;have q1:=Hq1.out;go_wp2_with fail
   refine HC.out.mono ?_;rintro _ w9 ⟨rfl,hW⟩;have HX:=qA (zH hW HWr.out);clear hW HC HWr;go_wp2_with fail
   go_meet
   case rel=>exact⟨_,0,rfl,qA ⟨HX.out.1,HX.out.2⟩⟩}
  case rest=>
   clear HW7;obtain⟨F,c,rfl,HF⟩:=hcut;go_upto_if 115 with fail
   go_cut [17] from 50 (fun s17 wc=>∃(F:List Nat) (c:Int),s17=.int .i64 c/\Hid (Wd W wc (thB bb 22 [.slice (some ⟨b,0,none⟩) n cb]::thY (.slice (some ⟨b,0,none⟩) n cb) (F)::[thO p o])/\WrB o F c))
   case first=>
    have HX:=qA HF.out;have d1:¬(7:Int)<f:=by omega
    have d2:decide ((7:Int)<f)=false:=qF d1;clear HF hlo hf12;go_wp2_with fail
    go_meet
    case rel=>exact⟨F,c,rfl,HX⟩
   case rest=>
    clear HF;obtain⟨F,c,rfl,HF⟩:=hcut;obtain⟨hFl,hFb,r,hLd,hr⟩:=HF.out.2;rw[<-HN.out]at hFl hLd;obtain⟨n4,hn4⟩:∃n4,n4=n-4:=⟨_,rfl⟩;rw[<-hn4]at hLd;obtain⟨T,hT⟩:∃T,T=F.take n4:=⟨_,rfl⟩;rw[<-hT]at hLd;have hTl:T.length=n4:=by rw[hT,List.length_take];omega
    have hTb:Byt T:=by rw[hT];exact hFb.take _
    have hcb:=HCb.out;have Hzk0:=qA (show IntKind.i64.wrap ((n:Int)-4)=(n4:Int) from by rw[show(n:Int)-4=(n4:Int) by omega];exact zF _ (by omega));have k1:(0:Int)<=n4:=by omega
    have k2:(n4:Int)<=cb:=by omega
    have k3:¬cb=0:=by omega
    have hWT:=(HF.out.1.swap.takeB n4 (by omega));rw[<-hT]at hWT;have HT:=qA hWT;have HRd:=qA (show RdB wc (some ⟨b,0,none⟩) T from by rw[hT];exact(HF.out.1.swap.rowB.rd2).take n4);have HSum:=qA (wC (cap:=cb) HRd.out hTb (by omega));have hx:=oY hTb;rw[hTl]at HSum;have c0:=HF.out.1.blk.cell 0;simp only[zI]at c0;have HLd:=qA (zH hLd hr);have HTl:=qA (zH hTl (zH hTb hn4));unfold jJ at HLd;obtain⟨x,hxx⟩:∃x,x=crc T:=⟨_,rfl⟩;rw[<-hxx]at hx HSum HLd;clear hLd hr hT hTl hTb hn4 hFl hFb hWT hxx HF hcb;have k0:=Hzk0.out;go_wp2_with fail
    refine HSum.out.mono ?_;rintro _ w8 ⟨rfl,rfl⟩;clear HSum;have hx0:=fun(u:Obj)=>HT.out.fr0 ((Fr.refl [] w8).alloc u);have HA:=qA hx0;have y1:(x:Int)/16777216%256=((x/16777216%256:Nat):Int):=by omega
    have y2:(x:Int)/65536%256=((x/65536%256:Nat):Int):=by omega
    have y3:(x:Int)/256%256=((x/256%256:Nat):Int):=by omega
    have y4:(x:Int)%256=((x%256:Nat):Int):=by omega
    have HY:=qA (zH y1 (zH y2 (zH y3 y4)));clear hx0 y1 y2 y3 y4 hx;go_wp2_with (first|(at_builtin;go_loud (refine rG (HA.out _) rfl (.tmp 173) (.tmp 185) 22 rfl (.int .u8 0) Tryz.underlying22 Tryz.info5 rfl (some ⟨w8.heap.size,0,none⟩) 4 4 rfl rfl (aBM w8 _ _ _ _ HY.out.1 HY.out.2.1 HY.out.2.2.1 HY.out.2.2.2) rfl (by simp) (by rw[HTl.out.1];have:=HTl.out.2.2;omega) ?_);intro v9 w9 hW9;rw[<-be4]at hW9;have hl9:(T++beN 4 x).length=n:=(by rw[zE,aH,HTl.out.1,HTl.out.2.2];omega);obtain⟨b9,c9,rfl,hc9,_⟩:=hW9.formB (by rw[hl9];omega);rw[hl9]at hc9 hW9 ⊢;have hbk:=hW9.swap.blk;have c9x:=hbk.cell 0;have z9:=hbk.frozen 0;simp only[zI]at c9x;have HW10:=qA (hW9.swap.setBox (.slice (some ⟨b9,0,none⟩) n c9));have c10:=HW10.out.blk.cell 0;simp only[zI]at c10;have HC9:=qA (zH hc9 hl9);clear hW9 hbk hl9 hc9)|fail)
    clear HA HY HRd HT k0 k1 k2 k3 c9x z9;generalize w9.setCell ⟨bb,0,none⟩ (.slice (some ⟨b9,0,none⟩) n c9)=w10 at *;have hb10:Byt (T++beN 4 x):=HTl.out.2.1.app (cP _ _);have hld:=HLd.out.1;have HCk:=qA (fun(w' :World) (ts:List Th) (h:Wd W w' ts) (hr:RdB w' (some ⟨b9,0,none⟩) (T++beN 4 x))=>oU (cap:=c9) h HL.out hr hb10 HC9.out.2 (by omega) HC9.out.1);rw[hld]at HCk;cases r with
    | none=>{
    have hcn:=HLd.out.2.1 rfl;have hc1:(c != 0)=true:=by simp[hcn]
    have HLo:=oV (cap:=c9) HW10.out HL.out HW10.out.swap.rowB.rd2 hb10 HC9.out.2 (by omega) HC9.out.1 (by rw[hld]);rw[hld]at HLo;have HLo:=qA HLo;clear hb10 hld;go_wp2_with fail
    refine HLo.out.mono ?_;rintro _ w11 ⟨rfl,hW⟩;have c0:=hW.blk.cell 0;simp only[zI]at c0;have HK:=qA (HCk.out _ _ hW hW.swap.rowB.rd2);clear HLo HW10 c10 hW;go_wp2_with fail
    refine HK.out.mono ?_;rintro _ w12 ⟨rfl,hW⟩;have HWk:=qA (jN hW HL.out);clear HK hW;go_wp2_with fail
    refine HWk.out.mono ?_;rintro _ w13 ⟨rfl,hW⟩;have hB:=hW.below;clear hW HWk;go_wp2_with fail
    go_ret;exact⟨rfl,hB⟩}
    | some o2=>{
    have hcn:c=0:=qP fun hn=>by have:=HLd.out.2.2 hn;cases this
    subst hcn;have HLo:=qA (oW (cap:=c9) HW10.out HL.out HW10.out.swap.rowB.rd2 hb10 HC9.out.2 (by omega) HC9.out.1 hld);clear hb10 hld;go_wp2_with fail
    refine HLo.out.mono ?_;rintro _ w11 ⟨p2,rfl,hW⟩;have hW:=hW.drop;have c0:=hW.blk.cell 0;simp only[zI]at c0;have HK:=qA (HCk.out _ _ hW hW.swap.rowB.rd2);clear HLo HW10 c10 hW;go_wp2_with fail
    refine HK.out.mono ?_;rintro _ w12 ⟨rfl,hW⟩;have HWk:=qA (jN hW HL.out);clear HK hW;go_wp2_with fail
    refine HWk.out.mono ?_;rintro _ w13 ⟨rfl,hW⟩;have hB:=hW.below;clear hW HWk;go_wp2_with fail
    go_ret;exact⟨rfl,hB⟩}
theorem walk_wrB(W:World)(s:Nat)(hs:s<256)(am:Option Addr)(lm cm:Nat)(z:Nat->Mv)(hz:lU W am lm z)(fa:Nat)(hfa:fa<256)(wh:Nat)(hwh:wh<65536)(hL:fD W)(hlo:7<fa%12):
    Calls Tryz.prog 11 #[.int .u8 (s:Nat),.slice am lm cm,.int .u8 (fa:Nat),.int .u16 (wh:Nat)] W fun e W' =>e=.returned (.bool true)/\Below W.heap.size W W' :=by
 have HL:=qA hL;have HP:=qA (aBK (cap:=cm) (Wd.begin W) hs hz);clear hL hz;go_enter Tryz.func11,Tryz.ntmps11
 go_wp2_with fail
 refine HP.out.mono ?_;rintro _ w1 ⟨p,o,rfl,hW,hB⟩;have hok:=hW.ob;have HS:=qA (yG hW HL.out hB.pc);have HB:=qA (zH hB hok);have hnm:=hB.nums hok;obtain⟨n,hn⟩:∃n,n=o.img.length:=⟨_,rfl⟩;have HN:=qA hn;have hlen:=o.img_len;rw[<-hn]at hlen;have hn65:65<=n:=by omega
 have hnb:n<=600:=by omega
 have HNm:=qA (zH hlen hnm);clear HP hW hB hok hn hlen hnm hs;go_wp2_with fail
 refine HS.out.mono ?_;rintro _ w2 ⟨v,rfl,hW⟩;clear HS;obtain⟨b,cb,rfl,hcb,_⟩:=hW.formB (by rw[<-HN.out];omega);rw[<-HN.out]at hcb hW ⊢;have hW2:=(hW.new (t:=thB w2.heap.size 22 [.slice (some ⟨b,0,none⟩) n cb]) (K:=[w2.heap.size]) ((Fr.refl [] w2).alloc (.cells #[.slice (some ⟨b,0,none⟩) n cb] 22)) ⟨Blk.new w2 _ _,rfl⟩ (by simp)).third;have HW2:=qA hW2;clear hW hW2;have HA:=qA (yC HW2.out);go_wp2_with fail
 refine HA.out.mono ?_;rintro _ w5 ⟨lv,L,rfl,hlv,hW⟩;obtain⟨la,lc,rfl⟩:=hW.rowV.slice;have hll:L.length=o.L.length:=by rw[<-hlv.1,List.length_map]
 rw[hll];clear HA HW2;generalize w2.heap.size=bb at *;obtain⟨nn,hnn⟩:∃nn,nn=o.L.length:=⟨_,rfl⟩;rw[<-hnn];have HNn:=qA hnn;have HW5:=qA (show Wd W w5 (thO p o::thB bb 22 [.slice (some ⟨b,0,none⟩) n cb]::[thY (.slice (some ⟨b,0,none⟩) n cb) o.img]) from hW.drop);have hbk:=HW5.out.swap.blk;have c0:=hbk.cell 0;simp only[zI]at c0;have hlen:=HNm.out.1;rw[<-hnn]at hlen;have Hzhw1:=qA (show IntKind.i64.wrap (32*(nn:Int))=((32*nn:Nat):Int) from by rw[show 32*(nn:Int)=((32*nn:Nat):Int) by omega];exact zF _ (by omega));have Hzhw2:=qA (show IntKind.i64.wrap (65+((32*nn:Nat):Int))=(n:Int) from by rw[show 65+((32*nn:Nat):Int)=(n:Int) by omega];exact zF _ (by omega));have Hzhw3:=qA (show wrap64 (65+32*(nn:Int))=(n:Int) from by rw[show 65+32*(nn:Int)=(n:Int) by omega];exact IntWalk.wrap64_in _ ⟨by omega,by omega⟩);have HLen:=qA hlen;have HCb:=qA hcb;clear hlv hll hnn hW hbk hlen hcb;have HA:=qA (tX HW5.out);obtain⟨ad,had⟩:∃ad,ad=o.last:=⟨_,rfl⟩;obtain⟨ge,hge⟩:∃ge,ge=o.gone:=⟨_,rfl⟩;rw[<-had,<-hge]at HA;have HAd:=qA (zH had hge);clear had hge;have hw1:=Hzhw1.out;have hw2:=Hzhw2.out;have hw3:=Hzhw3.out;go_wp2_with fail
 refine HA.out.mono ?_;rintro _ w7 ⟨rfl,hF⟩;have HW7:=qA (HW5.out.fr0 hF).back3;clear HA hF HW5 c0 hw1 hw2 hw3;have hadb:ad<=80:=by have:=HNm.out.2;have:=HAd.out;omega
 have hgeb:ge<=80:=by have:=HNm.out.2;have:=HAd.out;omega
 have hnnb:nn<=12:=by have:=HNm.out.2;have:=HNn.out;omega
 go_upto_if 51 with fail
 go_cut [16] from 50 (fun s16 wc=>∃ed:Nat,s16=.int .i64 ed/\(0<nn->ed=61+32*(wh%nn))/\wc=w7)
 case first=>
  by_cases h0:nn=0
  {
  have d1:¬(0:Int)<nn:=by omega
  have d2:decide ((0:Int)<nn)=false:=qF d1;have HED:=qA (show 0<nn->0=61+32*(wh%nn) from fun h=>absurd h (by omega));clear h0;go_wp2_with fail
  go_meet
  case rel=>exact⟨0,rfl,HED.out,rfl⟩}
  {
  have d1:(0:Int)<nn:=by omega
  have d2:decide ((0:Int)<nn)=true:=qG d1;have hk:=Nat.mod_lt wh (show 0<nn by omega);have Hzg0:=qA (show IntKind.i64.wrap (wh:Int)=wh from zF _ (by omega));have g2' :(wh:Int)%nn=((wh%nn:Nat):Int):=(Int.natCast_emod ..).symm;have g2:(wh:Int).tmod nn=((wh%nn:Nat):Int):=by rw[Int.tmod_eq_emod_of_nonneg (Int.natCast_nonneg _)];exact g2'
  have g5:¬nn=0:=h0;have g5' :¬(nn:Int)=0:=by omega
  obtain⟨k,hkk⟩:∃k,k=wh%nn:=⟨_,rfl⟩;rw[<-hkk]at g2 g2' hk;have Hzg6:=qA (show IntKind.i64.wrap (32*(k:Int))=((32*k:Nat):Int) from by rw[show 32*(k:Int)=((32*k:Nat):Int) by omega];exact zF _ (by omega));have Hzg7:=qA (show IntKind.i64.wrap (61+((32*k:Nat):Int))=((61+32*k:Nat):Int) from by rw[show 61+((32*k:Nat):Int)=((61+32*k:Nat):Int) by omega];exact zF _ (by omega));have Hzg8:=qA (show wrap64 (61+32*(k:Int))=((61+32*k:Nat):Int) from by rw[show 61+32*(k:Int)=((61+32*k:Nat):Int) by omega];exact IntWalk.wrap64_in _ ⟨by omega,by omega⟩);have HKk:=qA hkk;clear hkk;have g0:=Hzg0.out;have g6:=Hzg6.out;have g7:=Hzg7.out;have g8:=Hzg8.out;go_wp2_with fail
  go_meet
  case rel=>exact⟨61+32*k,rfl,fun _=>by rw[HKk.out],rfl⟩}
 case rest=>
  obtain⟨ed,rfl,hed,rfl⟩:=hcut;have HED:=qA hed;clear hed;have hf12:fa%12<12:=Nat.mod_lt _ (by decide);have t12:(fa:Int).tmod 12=((fa%12:Nat):Int):=by rw[Int.tmod_eq_emod_of_nonneg (by omega)];omega
  have t12' :(fa:Int)%12=((fa%12:Nat):Int):=by omega
  generalize fa%12=f at *;go_upto_block 0 with fail
  go_cut [17] from 50 (fun s17 wc=>∃(F:List Nat) (c:Int),s17=.int .i64 c/\Hid (Wd W wc (thB bb 22 [.slice (some ⟨b,0,none⟩) n cb]::thY (.slice (some ⟨b,0,none⟩) n cb) (F)::[thO p o])/\F=o.img/\c=2))
  case first=>
   have hcs:f=8∨f=9∨f=10∨f=11:=by omega
   rcases hcs with rfl|rfl|rfl|rfl
   {
   go_wp2_with fail
   go_meet
   case rel=>exact⟨_,2,rfl,qA ⟨HW7.out,rfl,rfl⟩⟩}
   {
   go_wp2_with fail
   go_meet
   case rel=>exact⟨_,2,rfl,qA ⟨HW7.out,rfl,rfl⟩⟩}
   {
   go_wp2_with fail
   go_meet
   case rel=>exact⟨_,2,rfl,qA ⟨HW7.out,rfl,rfl⟩⟩}
   {
   go_wp2_with fail
   go_meet
   case rel=>exact⟨_,2,rfl,qA ⟨HW7.out,rfl,rfl⟩⟩}
  case rest=>
   clear HW7;obtain⟨F,c,rfl,HF⟩:=hcut;go_upto_if 115 with fail
   go_cut [17] from 50 (fun s17 wc=>∃(F:List Nat) (c:Int),s17=.int .i64 c/\Hid (Wd W wc (thB bb 22 [.slice (some ⟨b,0,none⟩) n cb]::thY (.slice (some ⟨b,0,none⟩) n cb) (F)::[thO p o])/\WrB o F c))
   case first=>
    obtain⟨hFe,hce⟩:=HF.out.2;subst hce;have d1:(7:Int)<f:=by omega
    have d2:decide ((7:Int)<f)=true:=qG d1;have HW7:=qA HF.out.1;rw[hFe]at HW7;clear hFe HF;by_cases h0:nn=0
    {
    subst h0;have HWk:=qA (jN HW7.out HL.out);clear hf12 hlo;go_wp2_with fail
    refine HWk.out.mono ?_;rintro _ w8 ⟨rfl,hW⟩;have hB:=hW.below;clear hW HWk;go_wp2
    go_ret;exact⟨rfl,hB⟩}
    {
    have e0:((nn:Int) == 0)=false:=by simp;omega
    have e1:¬nn=0:=h0;have e2:(nn == 0)=false:=by simp;omega
    have hk:=Nat.mod_lt wh (show 0<nn by omega);have hed:=HED.out (by omega);obtain⟨k,hkk⟩:∃k,k=wh%nn:=⟨_,rfl⟩;rw[<-hkk]at hk hed;have hlen:=HLen.out;have hedn:ed+32+4<=n:=by omega
    have hko:k<o.L.length:=by rw[<-HNn.out];exact hk
    clear hkk;have HE:=qA hed;clear hed;have hcs:f=8∨f=9∨f=10∨f=11:=by omega
    rcases hcs with rfl|rfl|rfl|rfl
    {
    have hcb:=HCb.out;have Hzq0:=qA (show IntKind.i64.wrap ((ed:Int)+8)=((ed+8:Nat):Int) from by rw[show(ed:Int)+8=((ed+8:Nat):Int) by omega];exact zF _ (by omega));have Hzq1:=qA (show IntKind.i64.wrap ((ed:Int)+16)=((ed+16:Nat):Int) from by rw[show(ed:Int)+16=((ed+16:Nat):Int) by omega];exact zF _ (by omega));have p0:(0:Int)<=ed:=by omega
    have p1:(ed:Int)<=((ed+8:Nat):Int):=by omega
    have p2:((ed+8:Nat):Int)<=((ed+16:Nat):Int):=by omega
    have p3:((ed+8:Nat):Int)<=cb:=by omega
    have p4:((ed+16:Nat):Int)<=cb:=by omega
    have p5:¬cb=ed:=by omega
    have p6:¬cb=ed+8:=by omega
    have p7:(0:Int)<=((ed+8:Nat):Int):=by omega
    have t1:((ed+8:Nat):Int).toNat=ed+8:=zC _;have t2:((ed+16:Nat):Int).toNat=ed+16:=zC _;have t3:ed+8-ed=8:=by omega
    have t4:ed+16-(ed+8)=8:=by omega
    have c0:=HW7.out.blk.cell 0;simp only[zI]at c0;have hv:aI (sub o.img (ed+8) 8)=(o.L[k]'hko).v:=by rw[HE.out];exact(HB.out.1.pc.img_rec HB.out.2 hko).2.1
    have hw:=wr_u HB.out.1 HB.out.2 hko;rw[<-HE.out,<-hv]at hw;obtain⟨w9,hrun,hW⟩:=aHI (w:=wc.drew) (HW7.out.swap.fr0 (Fr.refl [] wc).drew) HN.out.symm o.img_byt (i:=ed) (j:=ed+8) (by omega) (by omega) (cb-ed) (cb-(ed+8));have HX:=qA (zH hW.swap hw);clear hW hw hv hlen hedn hko hk;generalize ed+8=ed8 at *;generalize ed+16=ed16 at *;have q0:=Hzq0.out;have q1:=Hzq1.out;go_wp2_with fail
    go_region
    go_wp2_with fail
    go_meet
    case rel=>exact⟨_,2,rfl,HX⟩}
    {
    have hnw:=HNm.out.2;have Hzq0:=qA (show IntKind.i64.wrap ((ed:Int)+24)=((ed+24:Nat):Int) from by rw[show(ed:Int)+24=((ed+24:Nat):Int) by omega];exact zF _ (by omega));have HT:=qA (yB HW7.out.third);have HWr:=qA (aOW HB.out.1 HB.out.2 hko);rw[<-HE.out]at HWr;have Hzq1:=qA (show IntKind.i64.wrap (o.now+1)=o.now+1 from zF _ (by omega));have Q2:=qA (jM (o.now+1));have hu:=dY (o.now+1);generalize o.now=nw at *;generalize aD (nw+1)=ux at *;have HC:=qA (gH (at_:=ed+24) (x:=ux) HW7.out HN.out.symm (by omega) (by omega) hu);clear hnw hlen hedn hko hk hu;have q2:=Q2.out;have q0:=Hzq0.out;have q1:=Hzq1.out;go_wp2_with fail
    refine HT.out.mono ?_;rintro _ w8 ⟨rfl,rfl⟩;clear HT;go_wp2_with fail
    refine HC.out.mono ?_;rintro _ w8 ⟨rfl,hW⟩;have HX:=qA (zH hW HWr.out);clear hW HC HWr;go_wp2_with fail
    go_meet
    case rel=>exact⟨_,2,rfl,HX⟩}
    {
    have hnw:=HNm.out.2;have HT:=qA (yB HW7.out.third);have HWr:=qA (aLO HB.out.1 HB.out.2 (Nat.lt_of_le_of_lt (qR k) hko));have Hzq1:=qA (show IntKind.i64.wrap (o.now-1)=o.now-1 from zF _ (by omega));have Hzq3:=qA (show IntKind.i64.wrap (s:Int)=s from zF _ (by omega));have Hzq4:=qA (show IntKind.i64.wrap (o.now-1-(s:Int))=o.now-1-(s:Int) from zF _ (by omega));have Hzq5:=qA (show wrap64 (o.now-1-(s:Int))=o.now-1-(s:Int) from IntWalk.wrap64_in _ ⟨by omega,by omega⟩);have Q2:=qA (jM (o.now-1-s));have hu:=dY (o.now-1-s);generalize o.now=nw at *;generalize aD (nw-1-s)=ux at *;have HC:=qA (gH (at_:=85) (x:=ux) HW7.out HN.out.symm (by omega) (by omega) hu);clear hnw hlen hedn hko hk hu;have q2:=Q2.out;have q1:=Hzq1.out;have q3:=Hzq3.out;have q4:=Hzq4.out;have q5:=Hzq5.out;go_wp2_with fail
    refine HT.out.mono ?_;rintro _ w8 ⟨rfl,rfl⟩;clear HT;go_wp2_with fail
    refine HC.out.mono ?_;rintro _ w8 ⟨rfl,hW⟩;have HX:=qA (zH hW HWr.out);clear hW HC HWr;go_wp2_with fail
    go_meet
    case rel=>exact⟨_,2,rfl,HX⟩}
    {
    have HC:=qA (gH (at_:=13) (x:=nn-1) HW7.out HN.out.symm (by omega) (by omega) (by omega));have HWr:=qA (wr_E HB.out.1 HB.out.2 (Nat.lt_of_le_of_lt (qR k) hko));rw[<-HNn.out]at HWr;have Hzq0:=qA (show IntKind.i64.wrap ((nn:Int)-1)=((nn-1:Nat):Int) from by rw[show(nn:Int)-1=((nn-1:Nat):Int) by omega];exact zF _ (by omega));have Hzq1:=qA (show IntKind.u64.wrap ((nn-1:Nat):Int)=((nn-1:Nat):Int) from by rw[IntKind.wrap_u64];omega);clear hlen hedn hko hk;have q0:=Hzq0.out;have q1:=Hzq1.out;go_wp2_with fail
    refine HC.out.mono ?_;rintro _ w8 ⟨rfl,hW⟩;have HX:=qA (zH hW HWr.out);clear hW HC HWr;go_wp2_with fail
    go_meet
    case rel=>exact⟨_,2,rfl,HX⟩}}
   case rest=>
    clear HF;obtain⟨F,c,rfl,HF⟩:=hcut;obtain⟨hFl,hFb,r,hLd,hr⟩:=HF.out.2;rw[<-HN.out]at hFl hLd;obtain⟨n4,hn4⟩:∃n4,n4=n-4:=⟨_,rfl⟩;rw[<-hn4]at hLd;obtain⟨T,hT⟩:∃T,T=F.take n4:=⟨_,rfl⟩;rw[<-hT]at hLd;have hTl:T.length=n4:=by rw[hT,List.length_take];omega
    have hTb:Byt T:=by rw[hT];exact hFb.take _
    have hcb:=HCb.out;have Hzk0:=qA (show IntKind.i64.wrap ((n:Int)-4)=(n4:Int) from by rw[show(n:Int)-4=(n4:Int) by omega];exact zF _ (by omega));have k1:(0:Int)<=n4:=by omega
    have k2:(n4:Int)<=cb:=by omega
    have k3:¬cb=0:=by omega
    have hWT:=(HF.out.1.swap.takeB n4 (by omega));rw[<-hT]at hWT;have HT:=qA hWT;have HRd:=qA (show RdB wc (some ⟨b,0,none⟩) T from by rw[hT];exact(HF.out.1.swap.rowB.rd2).take n4);have HSum:=qA (wC (cap:=cb) HRd.out hTb (by omega));have hx:=oY hTb;rw[hTl]at HSum;have c0:=HF.out.1.blk.cell 0;simp only[zI]at c0;have HLd:=qA (zH hLd hr);have HTl:=qA (zH hTl (zH hTb hn4));unfold jJ at HLd;obtain⟨x,hxx⟩:∃x,x=crc T:=⟨_,rfl⟩;rw[<-hxx]at hx HSum HLd;clear hLd hr hT hTl hTb hn4 hFl hFb hWT hxx HF hcb;have k0:=Hzk0.out;go_wp2_with fail
    refine HSum.out.mono ?_;rintro _ w8 ⟨rfl,rfl⟩;clear HSum;have hx0:=fun(u:Obj)=>HT.out.fr0 ((Fr.refl [] w8).alloc u);have HA:=qA hx0;have y1:(x:Int)/16777216%256=((x/16777216%256:Nat):Int):=by omega
    have y2:(x:Int)/65536%256=((x/65536%256:Nat):Int):=by omega
    have y3:(x:Int)/256%256=((x/256%256:Nat):Int):=by omega
    have y4:(x:Int)%256=((x%256:Nat):Int):=by omega
    have HY:=qA (zH y1 (zH y2 (zH y3 y4)));clear hx0 y1 y2 y3 y4 hx;go_wp2_with (first|(at_builtin;go_loud (refine rG (HA.out _) rfl (.tmp 173) (.tmp 185) 22 rfl (.int .u8 0) Tryz.underlying22 Tryz.info5 rfl (some ⟨w8.heap.size,0,none⟩) 4 4 rfl rfl (aBM w8 _ _ _ _ HY.out.1 HY.out.2.1 HY.out.2.2.1 HY.out.2.2.2) rfl (by simp) (by rw[HTl.out.1];have:=HTl.out.2.2;omega) ?_);intro v9 w9 hW9;rw[<-be4]at hW9;have hl9:(T++beN 4 x).length=n:=(by rw[zE,aH,HTl.out.1,HTl.out.2.2];omega);obtain⟨b9,c9,rfl,hc9,_⟩:=hW9.formB (by rw[hl9];omega);rw[hl9]at hc9 hW9 ⊢;have hbk:=hW9.swap.blk;have c9x:=hbk.cell 0;have z9:=hbk.frozen 0;simp only[zI]at c9x;have HW10:=qA (hW9.swap.setBox (.slice (some ⟨b9,0,none⟩) n c9));have c10:=HW10.out.blk.cell 0;simp only[zI]at c10;have HC9:=qA (zH hc9 hl9);clear hW9 hbk hl9 hc9)|fail)
    clear HA HY HRd HT k0 k1 k2 k3 c9x z9;generalize w9.setCell ⟨bb,0,none⟩ (.slice (some ⟨b9,0,none⟩) n c9)=w10 at *;have hb10:Byt (T++beN 4 x):=HTl.out.2.1.app (cP _ _);have hld:=HLd.out.1;have HCk:=qA (fun(w' :World) (ts:List Th) (h:Wd W w' ts) (hr:RdB w' (some ⟨b9,0,none⟩) (T++beN 4 x))=>oU (cap:=c9) h HL.out hr hb10 HC9.out.2 (by omega) HC9.out.1);rw[hld]at HCk;cases r with
    | none=>{
    have hcn:=HLd.out.2.1 rfl;have hc1:(c != 0)=true:=by simp[hcn]
    have HLo:=oV (cap:=c9) HW10.out HL.out HW10.out.swap.rowB.rd2 hb10 HC9.out.2 (by omega) HC9.out.1 (by rw[hld]);rw[hld]at HLo;have HLo:=qA HLo;clear hb10 hld;go_wp2_with fail
    refine HLo.out.mono ?_;rintro _ w11 ⟨rfl,hW⟩;have c0:=hW.blk.cell 0;simp only[zI]at c0;have HK:=qA (HCk.out _ _ hW hW.swap.rowB.rd2);clear HLo HW10 c10 hW;go_wp2_with fail
    refine HK.out.mono ?_;rintro _ w12 ⟨rfl,hW⟩;have HWk:=qA (jN hW HL.out);clear HK hW;go_wp2_with fail
    refine HWk.out.mono ?_;rintro _ w13 ⟨rfl,hW⟩;have hB:=hW.below;clear hW HWk;go_wp2_with fail
    go_ret;exact⟨rfl,hB⟩}
    | some o2=>{
    have hcn:c=0:=qP fun hn=>by have:=HLd.out.2.2 hn;cases this
    subst hcn;have HLo:=qA (oW (cap:=c9) HW10.out HL.out HW10.out.swap.rowB.rd2 hb10 HC9.out.2 (by omega) HC9.out.1 hld);clear hb10 hld;go_wp2_with fail
    refine HLo.out.mono ?_;rintro _ w11 ⟨p2,rfl,hW⟩;have hW:=hW.drop;have c0:=hW.blk.cell 0;simp only[zI]at c0;have HK:=qA (HCk.out _ _ hW hW.swap.rowB.rd2);clear HLo HW10 c10 hW;go_wp2_with fail
    refine HK.out.mono ?_;rintro _ w12 ⟨rfl,hW⟩;have HWk:=qA (jN hW HL.out);clear HK hW;go_wp2_with fail
    refine HWk.out.mono ?_;rintro _ w13 ⟨rfl,hW⟩;have hB:=hW.below;clear hW HWk;go_wp2_with fail
    go_ret;exact⟨rfl,hB⟩}
theorem walk_imageWrong(W:World)(s:Int)(ws:(Lit.int .u8 s).wf=true)(am:Option Addr)(lm cm:Nat)(z:Nat->Mv)(hz:lU W am lm z)(fa:Int)(wf:(Lit.int .u8 fa).wf=true)(wh:Int)(ww:(Lit.int .u16 wh).wf=true)(hL:fD W):
    Calls Tryz.prog 11 #[.int .u8 s,.slice am lm cm,.int .u8 fa,.int .u16 wh] W fun e W' =>e=.returned (.bool true)/\Below W.heap.size W W' :=by
 obtain⟨s,rfl,hs⟩:=aBJ ws;obtain⟨fa,rfl,hfa⟩:=aBJ wf;obtain⟨wh,rfl,hwh⟩:=aRX ww;by_cases h:fa%12<8
 · exact walk_wrA W s hs am lm cm z hz fa hfa wh hwh hL h
 · exact walk_wrB W s hs am lm cm z hz fa hfa wh hwh hL (by omega)
section
variable {W wr w w' :World} {p:Nat} {o:Ob} {ts:List Th} {a:Option Addr} {c n:Nat}
end
section
variable {W wr w w' :World} {p:Nat} {o:Ob} {ts:List Th} {a:Option Addr} {c n:Nat}
end
structure Prt (L:List Lv) (f:Int) (u:Nat) (l:List Nat):Prop where
  lt:l.Pairwise (· < ·)
  me:u∈l
  rl:∀x∈l,Rl L f u x
section
variable {L:List Lv} {f:Int} {u:Nat} {l:List Nat}
end
section
variable {w w' :World} {p:Nat} {o:Ob} {a:Option Addr} {c:Nat}
end
end Go.Proofs.YtjdgpcjbgjnahaaGreatDoor
namespace Go.Proofs.YtjdgpcjbgjnahaaGreatDoor
open Go.RowKit Classical
section
variable {w w' :World} {p:Nat} {o:Ob} {a:Option Addr} {c:Nat}
end
section
variable {W wr w w' :World} {p:Nat} {o:Ob} {ts:List Th}
end
section
variable {L:List Lv} {f:Int} {a b u v:Nat}
end
section
variable {W wr w w' :World} {p:Nat} {o:Ob} {ts:List Th}
end
section
variable {L:List Lv} {x:Nat}
end
section
variable {W wr w w' :World} {p:Nat} {o:Ob} {ts:List Th}
end
end Go.Proofs.YtjdgpcjbgjnahaaGreatDoor
namespace Go.Proofs.YtjdgpcjbgjnahaaGreatDoor
open Go.RowKit
section
variable {W wr w w' :World} {ts:List Th}
end
section
variable {w:World}
end
section
variable {W wr w w' :World} {f:Nat->Ob->Th} {v:Value} {so:Option Ob} {o:Ob} {ts:List Th} {p:Nat}
end
end Go.Proofs.YtjdgpcjbgjnahaaGreatDoor
namespace Go.Proofs.YtjdgpcjbgjnahaaGreatDoor
open Go.RowKit Classical
section
variable {W wr:World} {ts:List Th} {v:Value} {so:Option Ob}
end
end Go.Proofs.YtjdgpcjbgjnahaaGreatDoor
namespace Go.Proofs.YtjdgpcjbgjnahaaGreatDoor
open Go.RowKit
section
variable {w:World} {m E V D:Int}
end
section
variable {W w:World} {ts:List Th} {v u:Value} {so sp:Option Ob}
end
end Go.Proofs.YtjdgpcjbgjnahaaGreatDoor
namespace Go.Proofs.YtjdgpcjbgjnahaaGreatDoor
end Go.Proofs.YtjdgpcjbgjnahaaGreatDoor
