/- lct: rotation of a tree in its frames. -/
import Derived.Test.YtgmnemndjjmgkaaGreatB3
import Derived.Test.YtgmnemndjjmgkaaGreatB2
import Derived.Deep.RegionHeld3
import Derived.StillTailTactics
import Derived.Shelf.SlicesE.Index
import Derived.Shelf.SlicesG.Delete
import Derived.Sort.OwnSortedInts
import Derived.Deep.QuietTactic
import Derived.BigQuiet
set_option maxRecDepth 10000
set_option maxHeartbeats 1600000
set_option linter.unusedSimpArgs false
set_option linter.unusedVariables false
/- Sorted lists of numbers; List and Copy of a table over the plain model. -/
namespace Go.Proofs.YtgmnemndjjmgkaaGreat
open Go.RowKit
theorem jF(l:List Nat):(kE l).Perm l:=List.mergeSort_perm _ _
theorem uW(l:List Nat):(kE l).Pairwise (·<= ·):=by
 have:=List.pairwise_mergeSort (le:=fun x y:Nat=>decide (x<=y)) (fun a b c h1 h2=>by simp at *;omega) (fun a b=>by simp;omega) l;exact this.imp (fun h=>by simpa using h)
theorem aNP{l:List Nat}(h:l.Nodup):(kE l).Pairwise (· < ·):=by
 have h1:=uW l;have h2:(kE l).Nodup:=(jF l).nodup_iff.2 h;exact(h1.and h2).imp (fun h=>by omega)
theorem aKR{l:List Nat}{x:Nat}:x∈kE l↔x∈l:=(jF l).mem_iff
theorem aNQ{l l' :List Nat}(h:l.Perm l'):kE l=kE l' :=
  ((jF l).trans (h.trans (jF l').symm)).eq_of_pairwise (le:=fun x y=>decide (x<=y)) (fun a b _ _ h1 h2=>by simp at *;omega) ((uW l).imp (fun h=>by simpa using h)) ((uW l').imp (fun h=>by simpa using h))
theorem aNR{M:Md}{T:Tb}(_hA:T.A=M.ar)(hok:M.Ok)(hiff:∀id i,(id,i)∈M.L↔(T.used i/\T.ids i=id)):(M.L.map (·.1)).Perm ((fV T.A).map T.ids):=by
 have h1:M.L.Perm ((fV T.A).map fun i=>(T.ids i,i)):=by {
 rw[List.perm_ext_iff_of_nodup ((List.pairwise_map.1 hok.ids).imp (fun h e=>h (congrArg Prod.fst e))) (List.pairwise_map.2 ((mH T.A).imp (fun h e=>h (congrArg Prod.snd e))))];rintro⟨id,i⟩;rw[hiff,zF];constructor
 · rintro⟨hu,rfl⟩;exact⟨i,iY.2 hu,rfl⟩
 {
 rintro⟨k,hk,e⟩;simp only[zN]at e;obtain⟨rfl,rfl⟩:=e;exact⟨iY.1 hk,rfl⟩}};have:=h1.map (·.1);rw[List.map_map]at this;exact this
theorem aNS{w:World}{pt:Nat}{M:Md}{l:List Nat}(h:iI w pt M l):
    Calls Tryz.prog 115 #[ptr pt] w fun e w' =>∃v,e=.returned v/\w'.ownsRow 0 26 1 v M.L.length (eB (kE (M.L.map (·.1))))/\(∀q,v.ownBlock=some q->w.heap.size<=q)/\Fr [] w w' :=by
 obtain⟨T,hT,hA,hok,hiff⟩:=h;have hp:=aNR hA hok hiff;have hl:(fV T.A).length=M.L.length:=by simpa using hp.length_eq.symm
 refine(aGF hT).mono ?_;rintro e w' ⟨v,rfl,h1,h2,h3⟩;rw[hl,<-aNQ hp]at h1;exact⟨v,rfl,h1,h2,h3⟩
theorem aNT{w:World}{pt:Nat}{M:Md}{l:List Nat}(h:iI w pt M l):
    Calls Tryz.prog 102 #[ptr pt] w fun e w' =>∃pt', e=.returned (ptr pt')/\∃l', iI w' pt' M l' /\ Fr [] w w' /\ ∀b∈l', w.heap.size<=b:=by
 obtain⟨T,hT,r⟩:=h;refine(aGG hT).mono ?_;rintro e w' ⟨pt', rfl,l', h1,h2,h3⟩;exact⟨pt', rfl,l', ⟨T,h1,r⟩,h2,h3⟩
theorem Md.Ok.len{M:Md}(h:M.Ok):M.L.length<=65536:=by
 have h1:=h.cnt;have h2:=h.ar.hb;have h3:=h.ar.hs;simp only[Md.ar]at h2 h3;omega
@[go_sem] theorem bBT(w:World)(r:Option Nat):(binOp .neq 142 (.map r) (.map none)).run Tryz.prog w=.ok (.bool (!r.isNone)) w:=run_neq_map_nil w _ _ _ r Tryz.underlying142
abbrev fP(b:Nat):Value:=.pointer (some ⟨b,0,none⟩)
section
variable {w w' :World} {ps:Nat} {s:Sm} {K:List Nat}
theorem aZ.open(h:aZ w ps s K):∃pa pt mb n vl la lT lb c,StB w ps pa pt mb n vl s la lT lb c/\K=stK ps mb vl la lT lb /\
    w.cell? ⟨ps,0,none⟩=some (.int .i64 s.V)/\w.cell? ⟨ps,1,none⟩=some (.int .i64 s.E)/\w.cell? ⟨ps,2,none⟩=some (.int .u64 s.last)/\w.cell? ⟨ps,3,none⟩=some (ptr pa)/\w.cell? ⟨ps,4,none⟩=some (ptr pt)/\w.cell? ⟨ps,5,none⟩=some vl/\w.cell? ⟨ps,6,none⟩=some (.map (some mb)):=by
 obtain⟨pa,pt,mb,n,vl,la,lT,lb,c,h,rfl⟩:=h;exact⟨pa,pt,mb,n,vl,la,lT,lb,c,h,rfl,h.hd.cell 0,h.hd.cell 1,h.hd.cell 2,h.hd.cell 3,h.hd.cell 4,h.hd.cell 5,h.hd.cell 6⟩
theorem iE(h:aZ w ps s K):Calls Tryz.prog 90 #[fP ps] w fun e w' =>e=.returned (.bool true)/\w' =w:=by
 obtain⟨pa,pt,mb,n,vl,la,lT,lb,c,hB,rfl,c0,c1,c2,c3,c4,c5,c6⟩:=h.open;clear h hB;go_enter Tryz.func90,Tryz.ntmps90
 go_wp2
 go_ret;exact⟨rfl,rfl⟩
theorem aYN(h:aZ w ps s K):Calls Tryz.prog 48 #[fP ps] w fun e w' =>e=.returned (.int .i64 s.L.length)/\w' =w:=by
 have HV:=qB (iE h);obtain⟨pa,pt,mb,n,vl,la,lT,lb,c,hB,rfl,c0,c1,c2,c3,c4,c5,c6⟩:=h.open;have hl:=nK hB.ar;rw[Sm.len_used hB.ok]at hl;have HL:=qB hl;clear h hB hl;go_enter Tryz.func48,Tryz.ntmps48
 go_wp2_with fail
 refine HV.out.mono ?_;rintro _ w ⟨rfl,rfl⟩;go_wp2_with fail
 refine HL.out.mono ?_;rintro _ w1 ⟨rfl,rfl⟩;go_wp2
 go_ret;exact⟨rfl,rfl⟩
theorem aNU(h:aZ w ps s K):Calls Tryz.prog 47 #[fP ps] w fun e w' =>e=.returned (.int .i64 s.M.L.length)/\w' =w:=by
 have HV:=qB (iE h);obtain⟨pa,pt,mb,n,vl,la,lT,lb,c,hB,rfl,c0,c1,c2,c3,c4,c5,c6⟩:=h.open;have HL:=qB (aIE hB.tb);clear h hB;go_enter Tryz.func47,Tryz.ntmps47
 go_wp2_with fail
 refine HV.out.mono ?_;rintro _ w ⟨rfl,rfl⟩;go_wp2_with fail
 refine HL.out.mono ?_;rintro _ w1 ⟨rfl,rfl⟩;go_wp2
 go_ret;exact⟨rfl,rfl⟩
theorem pN(h:aZ w ps s K)(id:Nat)(hid:id<18446744073709551616):Calls Tryz.prog 80 #[fP ps,.int .u64 id] w fun e w' =>e=.returned (.tuple #[.int .i64 ((s.M.find id).getD 0),.bool (s.M.find id).isSome])/\Fr [] w w' :=by
 have HV:=qB (iE h);obtain⟨pa,pt,mb,n,vl,la,lT,lb,c,hB,rfl,c0,c1,c2,c3,c4,c5,c6⟩:=h.open;have HL:=qB (aID id hid hB.tb);clear h hB;generalize (s.M.find id).getD 0=i at *;generalize (s.M.find id).isSome=b at *;go_enter Tryz.func80,Tryz.ntmps80
 go_wp2_with fail
 refine HV.out.mono ?_;rintro _ w ⟨rfl,rfl⟩;go_wp2_with fail
 refine HL.out.mono ?_;rintro _ w1 ⟨rfl,_,hb⟩;have HB:=qB (Fr.of_below hb);clear hb;go_wp2
 go_ret2;exact⟨rfl,HB.out⟩
def Sm.ids(s:Sm):List Nat:=kE (s.M.L.map (·.1))
def cQ(w:World)(v:Value)(p:List Nat):Prop:=w.ownsRow 0 26 1 v p.length (eB p)
theorem cQ.fr{v:Value}{p:List Nat}{S:List Nat}(h:cQ w v p)(hf:Fr S w w')(hs:∀q,v.ownBlock=some q->q∉S):cQ w' v p:=
  aI h (fun q hq=>hf.keep q (dL h hq) (hs q hq))
theorem cQ.fr0{v:Value}{p:List Nat}(h:cQ w v p)(hf:Fr [] w w'):cQ w' v p:=h.fr hf (by simp)
theorem cQ.slice{v:Value}{p:List Nat}(h:cQ w v p):∃a cap,v=.slice a p.length cap:=aJ h
theorem cQ.lt{v:Value}{p:List Nat}(h:cQ w v p){q:Nat}(hq:v.ownBlock=some q):q<w.heap.size:=dL h hq
theorem cQ.at{v:Value}{p:List Nat}(h:cQ w v p){i:Nat}(hi:i<p.length):∃b cap,v=.slice (some ⟨b,0,none⟩) p.length cap/\b<w.heap.size/\w.cell? ⟨b,i,none⟩=some (.int .u64 (p[i]'hi)):=by
 obtain⟨b,cap,e,_,h2,h3,_⟩:=cD h hi;exact⟨b,cap,e,h2,h3.trans (by simp[eB,hi])⟩
theorem Sm.ids_len(s:Sm):s.ids.length=s.M.L.length:=by unfold Sm.ids;rw[aKP,List.length_map]
theorem aYO(h:aZ w ps s K):Calls Tryz.prog 58 #[fP ps] w fun e w' =>∃v,e=.returned v/\cQ w' v s.ids/\(∀q,v.ownBlock=some q->w.heap.size<=q)/\Fr [] w w' :=by
 have HV:=qB (iE h);obtain⟨pa,pt,mb,n,vl,la,lT,lb,c,hB,rfl,c0,c1,c2,c3,c4,c5,c6⟩:=h.open;have HL:=qB (aNS hB.tb);clear h hB;go_enter Tryz.func58,Tryz.ntmps58
 go_wp2_with fail
 refine HV.out.mono ?_;rintro _ w ⟨rfl,rfl⟩;go_wp2_with fail
 refine HL.out.mono ?_;rintro _ w1 ⟨v,rfl,h1,h2,h3⟩;have HB:=qB (zR h1 (zR h2 h3));clear h1 h2 h3;go_wp2
 go_ret;exact⟨v,rfl,by unfold cQ;rw[Sm.ids_len];exact HB.out.1,HB.out.2.1,HB.out.2.2⟩
end
abbrev iK(u v:Nat)(wt t:Int):Value:=.agg #[.int .u64 u,.int .u64 v,.int .i64 wt,.int .i64 t]
@[go_sem] theorem bBU(a b:Value)(w:World):(Instr.index 146 (.agg #[a,b]) (.int .i64 0)).run Tryz.prog w=.ok a w:=by kernel_rfl
@[go_sem] theorem bBV(a b:Value)(w:World):(Instr.index 146 (.agg #[a,b]) (.int .i64 1)).run Tryz.prog w=.ok b w:=by kernel_rfl
def nf(b:Bool):Nat:=if b=true then 0 else 1
def uX(a b:Bool)(k:Nat):Nat:=(if 0<k then nf a else 0)+if 1<k then nf b else 0
section
variable {w w' :World} {ps:Nat} {s:Sm} {K:List Nat}
theorem pO(h:aZ w ps s K)(u v:Nat)(hu:u<18446744073709551616)(hv:v<18446744073709551616)(wt t:Int):
    Calls Tryz.prog 70 #[fP ps,iK u v wt t] w fun e w' =>e=.returned (.int .i64 (s.chk u v))/\Fr [] w w' :=by
 have H:=qB h;have hok:=h.ok;have hE:=hok.leE;have hV4:=hok.leV;have hmn:=hok.md.cnt;have hmb:=hok.md.ar.hb;have hms:=hok.ms;simp only[Md.ar]at hmb;have hml:s.M.L.length<=4096:=by omega
 have hau:s.A.used<=16384:=by {
 have h1:=hok.ar.hb;have h2:=hok.sl;unfold Ar.used;omega};clear hmn hmb hms hok h;obtain⟨code,hcode⟩:∃code,code=s.chk u v:=⟨_,rfl⟩;rw[<-hcode];have HCD:=qB hcode;clear hcode;go_enter Tryz.func70,Tryz.ntmps70
 go_wp2_with fail
 have hf0:Fr [] w (w.alloc (.cells #[.int .u64 u,.int .u64 v,.int .i64 wt,.int .i64 t] 42)):=(Fr.refl [] w).alloc _;have hbx:Blk (w.alloc (.cells #[.int .u64 u,.int .u64 v,.int .i64 wt,.int .i64 t] 42)) w.heap.size 42 [.int .u64 u,.int .u64 v,.int .i64 wt,.int .i64 t]:=Blk.new w _ _;have hlt0:w.heap.size<(w.alloc (.cells #[.int .u64 u,.int .u64 v,.int .i64 wt,.int .i64 t] 42)).heap.size:=by simp
 generalize w.alloc (.cells #[.int .u64 u,.int .u64 v,.int .i64 wt,.int .i64 t] 42)=w1 at *;have r0:=hbx.cell 0;have r1:=hbx.cell 1;simp only[zS,zT]at r0 r1;obtain⟨pa,pt,mb,n,vl,la,lT,lb,c,hB,hK,c0,c1,c2,c3,c4,c5,c6⟩:=(H.out.fr0 hf0).open;have HV:=qB (iE (H.out.fr0 hf0));have HF0:=qB hf0;have HA:=qB (fun(w' :World) (hf:Fr [] w1 w')=>nK (hB.fr hf (by simp)).ar);have HT:=qB (fun(w' :World) (hf:Fr [] w1 w')=>aIE (hB.fr hf (by simp)).tb);have HG:=qB (fun(w' :World) (hf:Fr [] w1 w') (id:Nat) (hid:id<18446744073709551616)=>aID id hid (hB.fr hf (by simp)).tb);clear hf0 hbx hB hK c2 c5 c6 hlt0;refine HV.out.mono ?_;rintro _ w1 ⟨rfl,rfl⟩;clear HV;by_cases huv:u=v
 {
 subst huv;have HCD' :=qB (show code=9 by rw[HCD.out];unfold Sm.chk;rw[qI rfl]);go_wp2_with fail
 go_ret;exact⟨by rw[HCD'.out];rfl,HF0.out⟩}
 {
 have d1:((u:Int) == v)=false:=zA.2 (by omega);have HUV:=qB huv;clear huv;go_wp2_with fail
 obtain⟨au,hau2⟩:∃au,au=s.A.used:=⟨_,rfl⟩;rw[<-hau2]at HA hau;have HAU:=qB hau2;clear hau2;refine dJ (fun w' =>Fr [] w1 w') (by kernel_rfl) (by kernel_rfl) ((Fr.refl [] w1).drew) ?_;iterate 3 (refine aE (by kernel_rfl) (fun KK hK=>?_);go_simp;refine hK.out _ ?_;clear hK KK)
 refine aU (by kernel_rfl) (ptr pa) (fun w' hw' =>?_) ?_
 {
 have c3:=hw'.cell c3 (by simp);go_simp;first|exact hw' | exact⟨rfl,hw'⟩|skip};refine aU (by kernel_rfl) (.int .i64 au) (fun w' hw' =>?_) ?_
 {
 go_simp;refine(HA.out w' hw').mono ?_;rintro _ w6 ⟨rfl,rfl⟩;exact⟨rfl,hw'⟩};iterate 3 (refine aE (by kernel_rfl) (fun KK hK=>?_);go_simp;refine hK.out _ ?_;clear hK KK)
 refine aU (by kernel_rfl) (.int .i64 s.E) (fun w' hw' =>?_) ?_
 {
 have c1:=hw'.cell c1 (by simp);go_simp;first|exact hw' | exact⟨rfl,hw'⟩|skip};iterate 1 (refine aE (by kernel_rfl) (fun KK hK=>?_);go_simp;refine hK.out _ ?_;clear hK KK)
 refine iJ ?_;intro w2 hf2;have r0:=hf2.cell r0 (by simp);have r1:=hf2.cell r1 (by simp);have c0:=hf2.cell c0 (by simp);have c4:=hf2.cell c4 (by simp);have HT2:=qB (HT.out w2 hf2);have HF2:=qB hf2;clear hf2 HT HA c1 c3 d1;by_cases hfull:s.E<=au
 {
 have HCD' :=qB (show code=12 by rw[HCD.out];unfold Sm.chk;rw[qH HUV.out,<-HAU.out,qI hfull]);have d1:decide ((s.E:Int)<=au)=true:=qO (by omega);go_wp2_with fail
 go_ret;exact⟨by rw[HCD'.out];rfl,HF0.out.trans' HF2.out⟩}
 {
 have d1:decide ((s.E:Int)<=au)=false:=qK (by omega);have d2:decide (s.E<=au)=false:=qK (by omega);have HFU:=qB hfull;clear hfull;go_wp2_with fail
 refine HT2.out.mono ?_;rintro _ w2 ⟨rfl,rfl⟩;clear HT2 d1 d2;go_wp2_with fail
 have Hu:=qB hu;have Hv:=qB hv;clear r0 r1;go_loopw [5,38] (fun x y wr=>∃k m:Nat,k<=2/\y=.int .i64 k/\x=.int .i64 m/\m<=4096+k/\Hid (m=s.M.L.length+uX (s.M.find u).isSome (s.M.find v).isSome k)/\Hid (Fr [] w2 wr)) (fun _ y _=>2-(intOf y).toNat)
 case atStart=>exact⟨0,s.M.L.length,by omega,rfl,rfl,by omega,qB (by simp[uX]),qB (Fr.refl _ _)⟩
 case round=>
  obtain⟨k,m,hk,rfl,rfl,hm,HM,HF⟩:=hrel;by_cases hlt:k<2
  {
  have hk2:k=0∨k=1:=by omega
  clear hlt hk;rcases hk2 with rfl|rfl
  {
  have HGu:=qB (HG.out wr (HF2.out.trans' HF.out) u Hu.out);have c4:=HF.out.cell c4 (by simp);generalize hfu:(s.M.find u).isSome=fu at *;have HFU2:=qB hfu;clear hfu;generalize (s.M.find u).getD 0=iu at *;rename World=>wo
  go_wp2_with fail
  refine HGu.out.mono ?_;rintro _ w5 ⟨rfl,_,hb5⟩;have HF5:=qB (HF.out.trans' (Fr.of_below hb5));clear hb5 HGu c4;cases fu with
  | true=>{
  go_wp2_with fail
  go_roundw
  case rel=>exact⟨1,m,by omega,rfl,rfl,by omega,qB (by rw[HM.out];simp[uX,nf]),HF5⟩
  case measure=>simp[intOf]}
  | false=>{
  go_wp2_with fail
  go_roundw
  case rel=>exact⟨1,m+1,by omega,rfl,by go_num,by omega,qB (by rw[HM.out];simp[uX,nf];try omega),HF5⟩
  case measure=>simp[intOf]}}
  {
  have HGu:=qB (HG.out wr (HF2.out.trans' HF.out) v Hv.out);have c4:=HF.out.cell c4 (by simp);generalize hfu:(s.M.find v).isSome=fu at *;have HFU2:=qB hfu;clear hfu;generalize (s.M.find v).getD 0=iu at *;rename World=>wo
  go_wp2_with fail
  refine HGu.out.mono ?_;rintro _ w5 ⟨rfl,_,hb5⟩;have HF5:=qB (HF.out.trans' (Fr.of_below hb5));clear hb5 HGu c4;cases fu with
  | true=>{
  go_wp2_with fail
  go_roundw
  case rel=>exact⟨2,m,by omega,rfl,rfl,by omega,qB (by rw[HM.out];simp[uX,nf]),HF5⟩
  case measure=>simp[intOf]}
  | false=>{
  go_wp2_with fail
  go_roundw
  case rel=>exact⟨2,m+1,by omega,rfl,by go_num,by omega,qB (by rw[HM.out];simp[uX,nf];try omega),HF5⟩
  case measure=>simp[intOf]}}}
  {
  obtain rfl:k=2:=by omega
  have c0:=HF.out.cell c0 (by simp);have hmore:m=s.M.L.length+s.more u v:=by rw[HM.out];simp[uX,nf,Sm.more]
  by_cases hov:s.V<m
  {
  have HCD' :=qB (show code=11 by rw[HCD.out];unfold Sm.chk;rw[qH HUV.out,<-HAU.out,qH HFU.out,<-hmore,qI hov]);have d1:decide ((m:Int)>s.V)=true:=qO (by omega);clear hmore;go_wp2_with fail
  go_ret;exact⟨by rw[HCD'.out];rfl,(HF0.out.trans' HF2.out).trans' HF.out⟩}
  {
  have HCD' :=qB (show code=0 by rw[HCD.out];unfold Sm.chk;rw[qH HUV.out,<-HAU.out,qH HFU.out,<-hmore,qH hov]);have d1:decide ((m:Int)>s.V)=false:=qK (by omega);have d2:decide (s.V<m)=false:=qK (by omega);clear hmore;go_wp2_with fail
  go_ret;exact⟨by rw[HCD'.out];rfl,(HF0.out.trans' HF2.out).trans' HF.out⟩}}}}
end
def aBB(w:World)(ps:Nat):Nat:=match w.cell? ⟨ps,5,none⟩ with
  | some (.slice _ m _)=>m
  | _=>0
theorem uY{w:World}{ps m cap:Nat}{a:Option Addr}(h:w.cell? ⟨ps,5,none⟩=some (.slice a m cap)):aBB w ps=m:=by unfold aBB;rw[h]
theorem aKS{L:List Lv}{n n' :Nat}(hs:∀e∈L,e.slot<n)(hn:n<=n'):(List.range (n' + 1)).map (aD L)=(List.range n').map (aD L)++[Lv.z]:=by
 rw[List.range_succ,List.map_append,List.map_cons,List.map_nil,sW (fun e he=>by have:=hs e he;omega)]
theorem Blk.put7{w:World}{b:Nat}{t:TypeId}{v0 v1 v2 v3 v4 v5 v6:Value}(h:Blk w b t [v0,v1,v2,v3,v4,v5,v6])(e:Lv):Blk (put7 w b 0 e) b t (lvC e):=
  ((((((h.set 0 (.int .i64 e.slot)).set 1 (.int .u64 e.seq)).set 2 (.int .u64 e.u)).set 3 (.int .u64 e.v)).set 4 (.int .i64 e.wt)).set 5 (.int .i64 e.t)).set 6 (.int .i64 e.x)
theorem aKT(w:World):(zeroValue 94).run Tryz.prog w=.ok gU w:=by kernel_rfl
def nY(w7:World)(ps pt mb:Nat)(v7:Value)(la lT lb:List Nat)(M:Md)(f:Nat->List Nat)(n:Nat)(wr:World):Prop:=
  ∃lT' lb' c', Cls c' ps mb v7 la lT' lb' /\ iI wr pt M lT' /\ pM wr mb f n lb' /\ Fr (mb::(lT++lb)) w7 wr/\(∀q∈lT', q∈lT∨w7.heap.size<=q)/\∀q∈lb', q∈lb∨w7.heap.size<=q
section
variable {w7 wr:World} {ps pt mb n:Nat} {v7:Value} {la lT lb:List Nat} {M:Md} {f:Nat->List Nat}
theorem aIG(hps:ps<w7.heap.size)(hla:∀b∈la,b<w7.heap.size)(hv7:∀q,v7.ownBlock=some q->q<w7.heap.size)(h:nY w7 ps pt mb v7 la lT lb M f n wr){id:Nat}(hid:id<U64):
    Calls Tryz.prog 156 #[ptr pt,.int .u64 id] wr fun e w' =>∃r,e=.returned r/\nY w7 ps pt mb v7 la lT lb (M.put id).M f n w' /\ Fr (mb::(lT++lb)) w7 w' :=by
 obtain⟨lT', lb', c', hc,hT,hI,hF,h5,h6⟩:=h;refine(aTA id hid hT).mono ?_;rintro _ w' ⟨rfl,l', hT', hN1,hN2⟩;have hlt:=hT.lt;have hlb:=hI.ltb;have hml:=hI.ltm;have hsz:=hF.size;have e1:=hN1.size;have hF' :Fr (mb::(lT++lb)) w7 w' :=hF.trans hN1 (fun q hq=>(h5 q hq).imp (fun e=>by simp[e]) (fun e=>e));refine⟨_,rfl,⟨l', lb', fun x=>if x<wr.heap.size then c' x else 3,⟨?_,?_,?_,?_,?_,?_⟩,hT', ?_,hF', ?_,h6⟩,hF'⟩
 · rw[qI (by omega)];exact hc.p
 · rw[qI hml];exact hc.m
 · intro b hb;rw[qI (by have:=hla b hb;omega)];exact hc.a b hb
 {
 intro b hb;rcases hN2 b hb with e|e
 · rw[qI (hlt b e)];exact hc.t b e
 · rw[qH (by omega)]}
 · intro q hq;rw[qI (by have:=hv7 q hq;omega)];exact hc.l q hq
 · intro b hb;rw[qI (hlb b hb)];exact hc.b b hb
 {
 refine hI.fr hN1 (fun hm=>?_) (fun b hb hm=>?_)
 · have e1:=hc.t mb hm;have e2:=hc.m;omega
 · have e1:=hc.t b hm;have e2:=hc.b b hb;omega}
 {
 intro q hq;rcases hN2 q hq with e|e
 · exact h5 q e
 · exact .inr (by omega)}
theorem tR(hps:ps<w7.heap.size)(hla:∀b∈la,b<w7.heap.size)(hv7:∀q,v7.ownBlock=some q->q<w7.heap.size){lT' lb' :List Nat}{c' :Nat->Nat}{iv:Int->Option Value}(hc:Cls c' ps mb v7 la lT' lb')(hT:iI wr pt M lT')(hI:oT wr mb iv f n lb')(hF:Fr (mb::(lT++lb)) w7 wr)
    (h5:∀q∈lT', q∈lT∨w7.heap.size<=q) (h6:∀q∈lb', q∈lb∨w7.heap.size<=q) {id:Nat} (hid:id<U64) {w8 w9:World} {v1:Value} {l1:List Nat} {n2:Nat} (h1:dV w8 v1 l1) (hne:l1≠[])
    (hF1:Fr ((iv id).getD gU).ownBlock.toList wr w8) (hq:∀q,v1.ownBlock=some q->((iv id).getD gU).ownBlock=some q∨wr.heap.size<=q)
    (hM:dF Tryz.prog 26 .u64 okS w9 mb (lC iv id (some v1)) n2) (hF2:Fr [mb] w8 w9):nY w7 ps pt mb v7 la lT lb M (nX f id l1) n2 w9:=by
 have hI2:=hI.set hid h1 hne hF1 hq hM hF2;have hlt:=hT.lt;have hml:=hI.im.lt;have hsz:=hF.size;have hs8:=hF1.size;have hs9:=hF2.size;have hin:=(hI.row id hid).2.2;have hG:Fr (mb::((iv id).getD gU).ownBlock.toList) wr w9:=(hF1.mono (S' :=mb::((iv id).getD gU).ownBlock.toList) (fun b hb=>.inl (List.mem_cons_of_mem _ hb))).trans hF2 (fun b hb=>.inl (by simp at hb;simp[hb]));refine⟨lT', lb' ++ v1.ownBlock.toList,fun x=>if x<wr.heap.size then c' x else 5,⟨?_,?_,?_,?_,?_,?_⟩,hT.fr hG (fun b hb hm=>?_),⟨_,hI2⟩,hF.trans hG (fun b hb=>?_),h5,fun q hqq=>?_⟩
 · rw[qI (by omega)];exact hc.p
 · rw[qI hml];exact hc.m
 · intro b hb;rw[qI (by have:=hla b hb;omega)];exact hc.a b hb
 · intro b hb;rw[qI (hlt b hb)];exact hc.t b hb
 · intro q hqq;rw[qI (by have:=hv7 q hqq;omega)];exact hc.l q hqq
 {
 intro b hb;rcases qJ.1 hb with hb|hb
 · rw[qI (hI.lt b hb)];exact hc.b b hb
 {
 rcases hq b (by simpa using hb) with e|e
 {
 have:=hin b e;rw[qI (hI.lt b this)];exact hc.b b this}
 · rw[qH (by omega)]}}
 {
 have e0:=hc.t b hb;rcases qF.1 hm with e|e
 · have:=hc.m;rw[<-e]at this;omega
 · have:=hc.b b (hin b (by simpa using e));omega}
 {
 rcases qF.1 hb with rfl|e
 · exact .inl (by simp)
 {
 rcases h6 b (hin b (by simpa using e)) with e2|e2
 · exact .inl (by simp[e2])
 · exact .inr e2}}
 {
 rcases qJ.1 hqq with e|e
 · exact h6 q e
 {
 rcases hq q (by simpa using e) with e2|e2
 · exact h6 q (hin q e2)
 · exact .inr (by omega)}}
end
def xJ(M:Md)(u v:Nat):Nat->Md
  | 0=>M
  | 1=>(M.put u).M
  | _=>((M.put u).M.put v).M
def nZ(f:Nat->List Nat)(u v sl:Nat):Nat->Nat->List Nat
  | 0=>f
  | 1=>nX f u (f u++[sl])
  | _=>nX (nX f u (f u++[sl])) v (nX f u (f u++[sl]) v++[sl])
theorem aNV{L:List Lv}{e:Lv}(hne:e.u≠e.v):nZ (cB L) e.u e.v e.slot 2=cB (L++[e]):=by
 funext id
 rw[yG];show nX (nX (cB L) e.u (cB L e.u++[e.slot])) e.v (nX (cB L) e.u (cB L e.u++[e.slot]) e.v++[e.slot]) id=_
 unfold Lv.at;by_cases h1:id=e.v
 {
 subst h1;rw[kF,eW (fun h=>hne h.symm)];simp}
 {
 rw[eW h1];by_cases h2:id=e.u
 {
 subst h2;rw[kF];simp}
 {
 rw[eW h2];have b1:(e.u == id)=false:=by simp;omega
 have b2:(e.v == id)=false:=by simp;omega
 rw[b1,b2];simp}}
theorem nY.fr{w7 wr:World}{ps pt mb n:Nat}{v7:Value}{la lT lb:List Nat}{M:Md}{f:Nat->List Nat}(h:nY w7 ps pt mb v7 la lT lb M f n wr):Fr (mb::(lT++lb)) w7 wr:=by
 obtain⟨_,_,_,_,_,_,h,_⟩:=h;exact h
theorem nY.mok{w7 wr:World}{ps pt mb n:Nat}{v7:Value}{la lT lb:List Nat}{M:Md}{f:Nat->List Nat}(h:nY w7 ps pt mb v7 la lT lb M f n wr):M.Ok:=by
 obtain⟨_,_,_,_,h,_⟩:=h;exact h.ok
theorem sX{w w' :World}{mb n:Nat}{iv:Int->Option Value}{f:Nat->List Nat}{lb:List Nat}(h:oT w mb iv f n lb){id:Nat}(hid:id<U64){v:Value}(hv:(iv id).getD gU=v)(he:w'.heap[mb]? =w.heap[mb]?):
    (Instr.lookup 142 (.map (some mb)) (.int .u64 id) false).run Tryz.prog w' =.ok v w' :=by
 have:=(h.im.same he).run_get Tryz.underlying26 Tryz.underlying142 (aKT w') rfl (lE hid);rw[hv]at this;exact this
theorem aNW{L:List Lv}{e:Lv}{n:Nat}(hL:∀x∈L,x.slot≠e.slot)(hn:e.slot<n):((List.range n).map (aD L)).set e.slot e=(List.range n).map (aD (L++[e])):=by
 refine List.ext_getElem? fun i=>?_;rw[List.getElem?_set];by_cases hi:i<n
 {
 simp only[List.length_map,List.length_range,List.getElem?_map,List.getElem?_range hi,Option.map_some,aCZ hL];by_cases he:e.slot=i
 · rw[qI he,qI he.symm,qI hn]
 · rw[qH he,qH (fun h=>he h.symm)]}
 · rw[qH (by omega),zK (by simp;omega),zK (by simp;omega)]
section
variable {w w' :World} {ps:Nat} {s:Sm} {K:List Nat}
end
end Go.Proofs.YtgmnemndjjmgkaaGreat
namespace Go.Proofs.YtgmnemndjjmgkaaGreat
open Go.RowKit Go.Lib Go.Sort
def Tryz.laysIdxI_ren:Go.Shelf.Ren:=⟨fun|29=>92|n=>n,fun|22=>94|23=>3|3=>3|0=>0|4=>4|n=>n,fun|n=>n⟩
theorem Tryz.laysIdxI:Go.Proofs.SlLaysE.n29 Tryz.prog Tryz.laysIdxI_ren:={
  mixed:=by kernel_rfl
  f29:=⟨Tryz.f92.name,by decide,Tryz.func92.trans (congrArg some (by kernel_rfl))⟩
  t0:=Tryz.underlying0
  a0:=Tryz.isAgg0
  z0:=Tryz.sizeOf0
  v0:=Tryz.zeroValue0
  t3:=Tryz.underlying3
  a3:=Tryz.isAgg3
  z3:=Tryz.sizeOf3
  v3:=Tryz.zeroValue3
  t4:=Tryz.underlying4
  a4:=Tryz.isAgg4
  z4:=Tryz.sizeOf4
  v4:=Tryz.zeroValue4
  t22:=Tryz.underlying94
  a22:=Tryz.isAgg94
  z22:=Tryz.sizeOf94
  v22:=Tryz.zeroValue94
  a23:=Tryz.isAgg3
  z23:=Tryz.sizeOf3 }
def Tryz.laysDelI_ren:Go.Shelf.Ren:=⟨fun|45=>93|n=>n,fun|22=>94|23=>3|3=>3|4=>4|0=>0|n=>n,fun|n=>n⟩
theorem Tryz.laysDelI:Go.Proofs.SlLaysN.n45 Tryz.prog Tryz.laysDelI_ren:={
  mixed:=by kernel_rfl
  f45:=⟨Tryz.f93.name,by decide,Tryz.func93.trans (congrArg some (by kernel_rfl))⟩
  t0:=Tryz.underlying0
  a0:=Tryz.isAgg0
  z0:=Tryz.sizeOf0
  v0:=Tryz.zeroValue0
  t3:=Tryz.underlying3
  a3:=Tryz.isAgg3
  z3:=Tryz.sizeOf3
  v3:=Tryz.zeroValue3
  t4:=Tryz.underlying4
  a4:=Tryz.isAgg4
  z4:=Tryz.sizeOf4
  v4:=Tryz.zeroValue4
  t22:=Tryz.underlying94
  a22:=Tryz.isAgg94
  z22:=Tryz.sizeOf94
  v22:=Tryz.zeroValue94
  t23:=Tryz.underlying3
  a23:=Tryz.isAgg3
  z23:=Tryz.sizeOf3
  v23:=Tryz.zeroValue3
  i23:=by kernel_rfl }
section
variable {w:World} {v:Value} {p:List Nat}
theorem aTG{p:List Nat}{j:Nat}(hj:j<p.length):(gA p)[j]? =some (.int .i64 (p[j]'hj)):=by simp[gA,hj]
theorem aDC(h:dV w v p)(hp:p.length<=16384){i:Nat}(hi:i<p.length)(hn:p.Nodup):
    Calls Tryz.prog 92 #[v,.int .i64 (p[i]'hi)] w fun e w' =>e=.returned (.int .i64 i)/\w' =w:=by
 obtain⟨b,cap,rfl,_,_⟩:=h.at hi;refine(AnyE.slices_Index Tryz.laysIdxI (fun x:Nat=>Value.int .i64 x) (fun x y=>x == y) ?_ b 0 p.length cap p (p[i]'hi) w (qS _) (by omega) (fun j hj=>?_)).mono ?_
 · exact⟨fun x y w=>by refine((EqlAt.int Tryz.prog _ .i64).1 (x:Int) (y:Int) w).trans ?_;by_cases e:x=y;(· simp[e]);(· have e1:((x:Int) == (y:Int))=false:=beq_false_of_ne (by omega);have e2:(x == y)=false:=beq_false_of_ne e;simp only[e1,e2]),fun op a b x y w=>(GuardAt.int Tryz.prog _ .i64) op a b (x:Int) (y:Int) w⟩
 {
 obtain⟨b', cap', e,_,hc⟩:=h.at hj;simp only[qY,qQ,Addr.mk.injEq,true_and]at e;obtain⟨⟨rfl,_⟩,_⟩:=e;rw[Nat.zero_add,hc,getElem!_pos p j hj]}
 {
 rintro _ w' ⟨rfl,rfl⟩;refine⟨?_,rfl⟩;rw[Lib.idxBy_hit (fun x y=>x == y) p p.length i (p[i]'hi) hi (qS _) (by rw[getElem!_pos p i hi];simp) (fun j hj=>?_)];rw[getElem!_pos p j (by omega)];simp only[zA];intro e;have:=(List.getElem_inj hn).1 e;omega}
theorem aDD(h:dV w v p)(hp:p.length<=16384){i:Nat}(hi:i<p.length):
    Calls Tryz.prog 93 #[v,.int .i64 i,.int .i64 (i+1)] w fun e w' =>∃v', e=.returned v' /\ dV w' v' (p.eraseIdx i)/\v'.ownBlock=v.ownBlock/\Fr v.ownBlock.toList w w' :=by
 rcases h.2 with⟨rfl,h0⟩|⟨g,cap,cur,e,hg,hcur,hnc,hcm,hcs,htk⟩
 · omega
 subst e;obtain⟨zs,hzs⟩:∃zs:List Int,zs=p.map fun(x:Nat)=>(x:Int):=⟨_,rfl⟩;have hl:zs.length=p.length:=by rw[hzs];simp
 have hz:zs.map (Value.int .i64)=gA p:=by rw[hzs];simp[gA]
 have hH:Holds (Value.int .i64) w g 0 zs.toArray:=holds_of_blockI hcur (by rw[hl,hz];simpa using htk);have hD:=AnyG.slices_Delete_int Tryz.laysDelI g 0 cap i (i+1) zs w hH (by omega) (by unfold maxLen at hcm;omega) (by omega) (by omega);rw[hl]at hD;refine hD.mono ?_;rintro _ w' ⟨rfl,q,rfl⟩;have hlen:(zs.take i++zs.drop (i+1)++List.replicate (i+1-i) 0).length=p.length:=by simp;omega
 have hd:p.length-(i+1-i)=(p.eraseIdx i).length:=by rw[List.length_eraseIdx_of_lt hi];omega
 have hb:(putRow (Value.int .i64) (Sort.ahead w q) g 0 (zs.take i++zs.drop (i+1)++List.replicate (i+1-i) 0).toArray).heap[g]? =some (.cells (putCells (Value.int .i64) 0 (zs.take i++zs.drop (i+1)++List.replicate (i+1-i) 0).toArray cur) 3 (0,0)):=by simp[putRow,mapBlock,Sort.ahead,Array.getElem?_modify,hcur,onCells]
 refine⟨_,rfl,⟨by simp[gA],.inr ⟨g,cap,_,by rw[hd],zB _,hb,by rw[<-hd];omega,hcm,by simp[putCells,hcs],?_⟩⟩,rfl,?_⟩
 {
 have h1:=take_putCellsI cur (zs.take i++zs.drop (i+1)++List.replicate (i+1-i) 0) (by rw[hlen];omega);rw[hlen]at h1;have h2:=congrArg (List.take (p.eraseIdx i).length) h1;rw[List.take_take,Nat.min_eq_left (by rw[<-hd];omega)]at h2;rw[Nat.mul_one,h2,<-List.map_take,List.take_left' (by rw[<-hd];simp;omega),hzs];unfold gA;rw[List.eraseIdx_eq_take_drop_succ];simp;rfl}
 {
 refine(Fr.refl _ _).grown ⟨rfl,rfl,rfl,by simp[Sort.ahead],fun k hk hne=>?_⟩ (fun k (e:some g=some k)=>.inl (by simp[Value.ownBlock,Option.some.inj e]));have:g≠k:=fun e=>hne (by rw[e]);simp[putRow,mapBlock,Sort.ahead,Array.getElem?_modify,this]}
theorem aGJ(h:dV w v p)(hp:p.length<=16384):
    Calls Tryz.prog 105 #[v] w fun e w' =>∃v', e=.returned v' /\ dV w' v' p/\(∀q,v'.ownBlock=some q->w.heap.size<=q)/\Fr [] w w' :=by
 obtain⟨i0,hi,hz0,hz1,hz2⟩:=info_parts Tryz.info3;rcases h.2 with⟨rfl,h0⟩|⟨g,cap,cur,e,hg,hcur,hnc,hcm,hcs,htk⟩
 {
 have hn:p=[]:=List.length_eq_zero_iff.1 (by simpa using h0);subst hn;refine(AnyE.slices_Clone_nil Tryz.laysCloneI 0 0 w).mono ?_;rintro _ _ ⟨rfl,rfl⟩;exact⟨_,rfl,h,fun q e=>(by cases e),Fr.refl _ _⟩}
 {
 subst e;refine(AnyE.slices_Clone Tryz.laysCloneI i0 (.int .i64 0) 1 8 hi hz0 hz1 hz2 rfl (by decide) Tryz.sizeOf3 g 0 p.length cap (gA p) w (by simp[gA]) (by unfold maxLen;omega) (by omega) (fun j u hj=>?_) (fun u hu=>?_)).mono ?_
 {
 have hjl:j<p.length:=by have:=(zC.1 hj).1;simpa[gA] using this
 obtain⟨b', cap', e,_,hc⟩:=h.at hjl;simp only[qY,qQ,Addr.mk.injEq,true_and]at e;obtain⟨⟨rfl,_⟩,_⟩:=e;rw[Nat.zero_add,hc,<-hj,aTG hjl]}
 {
 simp only[gA,zF]at hu;obtain⟨k,_,rfl⟩:=hu;rfl}
 {
 rintro _ w' ⟨v', rfl,h1,_,hB⟩;refine⟨v', rfl,?_,mL h1,Fr.of_below hB⟩;exact mK h1}}
end
end Go.Proofs.YtgmnemndjjmgkaaGreat
namespace Go.Proofs.YtgmnemndjjmgkaaGreat
open Go.RowKit
section
variable {w w' :World} {ps:Nat} {s:Sm} {K:List Nat}
end
theorem uZ{M N:Md}(hM:M.Ok)(hN:N.Ok){x:Nat}(h:∀j,(x,j)∈M.L↔(x,j)∈N.L):M.find x=N.find x:=by
 apply Option.ext;intro j;rw[Md.find_iff hM,Md.find_iff hN,h]
theorem aDE{M:Md}(h:M.Ok){id x:Nat}(hne:x≠id):(M.del id).M.find x=M.find x:=by
 refine uZ (Md.ok_del h id) h fun j=>?_;unfold Md.del;cases hi:M.find id with
 | none=>exact Iff.rfl
 | some i=>{
 simp only[Md.rem,zJ,bne_iff_ne];exact⟨fun h=>h.1,fun h=>⟨h,hne⟩⟩}
theorem vA{M:Md}(h:M.Ok){L:List Lv}{id x:Nat}(hx:x=id->cB L id≠[]):(Sm.delIf M L id).find x=M.find x:=by
 unfold Sm.delIf;split
 {
 rename_i hn;exact aDE h (fun e=>hx e hn)}
 · rfl
theorem aDF{M:Md}(h:M.Ok){id x:Nat}(hid:id<18446744073709551616)(hx:(M.find x).isSome=true∨x≠id):(M.put id).M.find x=M.find x:=by
 unfold Md.put;cases hi:M.find id with
 | some i=>rfl
 | none=>{
 cases hn:M.next with
 | none=>rfl
 | some i=>{
 show(M.add id i).find x=_
 rw[uQ h hid hi hn,qH];rintro rfl;rcases hx with e|e
 · rw[hi]at e;cases e
 · exact e rfl}}
section
variable {s:Sm} {i:Nat}
theorem lF{e:Lv}:e∈(s.rem i).L↔e∈s.L/\e.slot≠i:=by
 show e∈s.L.filter (fun e=>e.slot != i)↔_
 simp[zJ]
theorem pP(h:s.Ok){e:Lv}(he:e∈(s.rem i).L){x:Nat}(hx:e.at x=true):(s.rem i).M.find x=s.M.find x:=by
 have hne:cB (s.L.filter fun e=>e.slot != i) x≠[]:=List.ne_nil_of_mem (fI.2 ⟨e,he,hx,rfl⟩);show(Sm.delIf (Sm.delIf s.M (s.L.filter fun e=>e.slot != i) (aD s.L i).u) (s.L.filter fun e=>e.slot != i) (aD s.L i).v).find x=_
 rw[vA (Sm.delIf_ok h.md _ _) (fun e=>e▸hne),vA h.md (fun e=>e▸hne)]
theorem gG(h:s.Ok){e:Lv}(he:e∈s.L){x:Nat}(hx:e.at x=true):(s.M.find x).isSome=true:=(h.vert x).2 (List.ne_nil_of_mem (fI.2 ⟨e,he,hx,rfl⟩))
end
structure Lk (s:Sm) (Q:Nat->Option Int) (G:Nat->Option (Nat×Nat×Int)):Prop where
  q:∀i x,Q i=some x↔∃e∈s.L,e.slot=i/\e.x=x
  g:∀i a b x,G i=some (a,b,x)↔∃e∈s.L,e.slot=i/\s.M.find e.u=some a/\s.M.find e.v=some b/\e.x=x
section
variable {s:Sm} {Q:Nat->Option Int} {G:Nat->Option (Nat×Nat×Int)}
theorem Lk.new(V E last:Nat):Lk (Sm.new V E last) (fun _=>none) (fun _=>none):=⟨fun i x=>by simp[Sm.new],fun i a b x=>by simp[Sm.new]⟩
theorem Lk.drop(h:Lk s Q G)(hok:s.Ok)(i:Nat):Lk (s.rem i) (fun j=>if j=i then none else Q j) (fun j=>if j=i then none else G j):=by
 constructor
 {
 intro j x;by_cases e:j=i
 {
 subst e;simp only[if_true];constructor
 · intro h;cases h
 {
 rintro⟨e,he,hs,_⟩;exact absurd hs (lF.1 he).2}}
 {
 simp only[qH e];rw[h.q];constructor
 · rintro⟨d,hd,hs,hx⟩;exact⟨d,lF.2 ⟨hd,by omega⟩,hs,hx⟩
 · rintro⟨d,hd,hs,hx⟩;exact⟨d,(lF.1 hd).1,hs,hx⟩}}
 {
 intro j a b x;by_cases e:j=i
 {
 subst e;simp only[if_true];constructor
 · intro h;cases h
 {
 rintro⟨e,he,hs,_⟩;exact absurd hs (lF.1 he).2}}
 {
 simp only[qH e];rw[h.g];constructor
 {
 rintro⟨d,hd,hs,h1,h2,hx⟩;have hd' :d∈(s.rem i).L:=lF.2 ⟨hd,by omega⟩;exact⟨d,hd', hs,by rw[pP hok hd' (by simp[Lv.at])];exact h1,by rw[pP hok hd' (by simp[Lv.at])];exact h2,hx⟩}
 {
 rintro⟨d,hd,hs,h1,h2,hx⟩;rw[pP hok hd (by simp[Lv.at])]at h1;rw[pP hok hd (by simp[Lv.at])]at h2;exact⟨d,(lF.1 hd).1,hs,h1,h2,hx⟩}}}
theorem Lk.free(h:Lk s Q G)(hok:s.Ok){i:Nat}(hi:¬s.A.isUsed i):Q i=none/\G i=none:=by
 have hno:∀e∈s.L,e.slot≠i:=fun e he hs=>hi ((hok.used i).2 ⟨e,he,hs⟩);constructor
 {
 cases hq:Q i with
 | none=>rfl
 | some x=>{
 obtain⟨e,he,hs,_⟩:=(h.q i x).1 hq;exact absurd hs (hno e he)}}
 {
 cases hg:G i with
 | none=>rfl
 | some p=>{
 obtain⟨a,b,x⟩:=p;obtain⟨e,he,hs,_⟩:=(h.g i a b x).1 hg;exact absurd hs (hno e he)}}
theorem Lk.ins(h:Lk s Q G)(hok:s.Ok){u v:Nat}(hu:u<18446744073709551616)(hv:v<18446744073709551616)(hc:s.chk u v=0)(wt t x:Int){a b:Nat}(ha:(s.ins u v wt t x).M.find u=some a)(hb:(s.ins u v wt t x).M.find v=some b):
    Lk (s.ins u v wt t x) (fun j=>if j=s.slot then some x else Q j) (fun j=>if j=s.slot then some (a,b,x) else G j):=by
 have hok1:=Md.ok_put hok.md hu;have hfree:∀e∈s.L,e.slot≠s.slot:=fun e he hs=>(Md.isUsed_alloc' hok.ar (Sm.slot_next hok hc)).1 ((hok.used _).2 ⟨e,he,hs⟩);have hf:∀y,(s.M.find y).isSome=true->(s.ins u v wt t x).M.find y=s.M.find y:=fun y hy=>by
   show((s.M.put u).M.put v).M.find y=_
   have h1:=aDF hok.md (x:=y) hu (.inl hy);rw[aDF hok1 hv (.inl (by rw[h1];exact hy)),h1]
 have hL:(s.ins u v wt t x).L=s.L++[s.edge u v wt t x]:=rfl;constructor
 {
 intro j y;rw[hL];by_cases e:j=s.slot
 {
 subst e;simp only[if_true,qJ,qP];constructor
 · intro hx;exact⟨s.edge u v wt t x,.inr rfl,rfl,Option.some.inj hx⟩
 {
 rintro⟨d,hd|hd,hs,hx⟩
 · exact absurd hs (hfree d hd)
 · subst hd;exact congrArg some hx}}
 {
 simp only[qH e,qJ,qP];rw[h.q];constructor
 · rintro⟨d,hd,hs,hx⟩;exact⟨d,.inl hd,hs,hx⟩
 {
 rintro⟨d,hd|hd,hs,hx⟩
 · exact⟨d,hd,hs,hx⟩
 · subst hd;exact absurd hs.symm e}}}
 {
 intro j c d y;rw[hL];by_cases e:j=s.slot
 {
 subst e;simp only[if_true,qJ,qP];constructor
 {
 intro hx;simp only[qQ,zN]at hx;obtain⟨rfl,rfl,rfl⟩:=hx;exact⟨s.edge u v wt t x,.inr rfl,rfl,ha,hb,rfl⟩}
 {
 rintro⟨d', hd|hd,hs,h1,h2,hx⟩
 · exact absurd hs (hfree d' hd)
 {
 subst hd;have e1:some a=some c:=ha.symm.trans h1;have e2:some b=some d:=hb.symm.trans h2;have e3:x=y:=hx;rw[Option.some.inj e1,Option.some.inj e2,e3]}}}
 {
 simp only[qH e,qJ,qP];rw[h.g];constructor
 {
 rintro⟨d', hd,hs,h1,h2,hx⟩;exact⟨d', .inl hd,hs,by rw[hf _ (gG hok hd (by simp[Lv.at]))];exact h1,by rw[hf _ (gG hok hd (by simp[Lv.at]))];exact h2,hx⟩}
 {
 rintro⟨d', hd|hd,hs,h1,h2,hx⟩
 {
 rw[hf _ (gG hok hd (by simp[Lv.at]))]at h1 h2;exact⟨d', hd,hs,h1,h2,hx⟩}
 · subst hd;exact absurd hs.symm e}}}
end
inductive fC (to:Int):(Nat->Option Int)->List Nat->(Nat->Option Int)->Prop
  | done (Q:Nat->Option Int) (h:∀i x,Q i=some x->to<x):fC to Q [] Q
  | more (Q : Nat -> Option Int) (i : Nat) (x : Int) (ds : List Nat) (Q' : Nat -> Option Int) (hq : Q i = some x) (hx : x <= to) (hm : ∀ j y, Q j = some y -> ¬ (y < x ∨ (y = x /\ j < i)))
      (h:fC to (fun j=>if j=i then none else Q j) ds Q'):fC to Q (i::ds) Q'
def Sm.rems(s:Sm)(ds:List Nat):Sm:=ds.foldl Sm.rem s
theorem Sm.rems_cons(s:Sm)(i:Nat)(ds:List Nat):s.rems (i::ds)=(s.rem i).rems ds:=rfl
theorem pQ{s:Sm}{Q:Nat->Option Int}{G:Nat->Option (Nat×Nat×Int)}(h:Lk s Q G)(hok:s.Ok){i:Nat}{x:Int}(hq:Q i=some x):s.A.isUsed i:=by
 obtain⟨e,he,hs,_⟩:=(h.q i x).1 hq;exact(hok.used i).2 ⟨e,he,hs⟩
theorem aNX{L:List Lv}(h:(L.map (·.slot)).Nodup){e d:Lv}(he:e∈L)(hd:d∈L)(hs:e.slot=d.slot):e=d:=by
 have h1:=gR h he;have h2:=gR h hd;rw[<-h1,<-h2,hs]
theorem kG(s:Sm):∀ds:List Nat,(s.rems ds).V=s.V/\(s.rems ds).E=s.E/\(s.rems ds).last=s.last:=by
 intro ds;induction ds generalizing s with
 | nil=>exact⟨rfl,rfl,rfl⟩
 | cons i r ih=>rw[Sm.rems_cons];exact ih (s.rem i)
theorem fC.law{to:Int}{Q Q' :Nat->Option Int}{ds:List Nat}(h:fC to Q ds Q'):∀{s:Sm} {G:Nat->Option (Nat×Nat×Int)},Lk s Q G->s.Ok ->
    (s.rems ds).Ok/\(s.rems ds).L=s.L.filter (fun e=>decide (to<e.x))/\Lk (s.rems ds) Q' (fun j=>if j∈ds then none else G j)/\ds.length+(s.rems ds).L.length=s.L.length:=by
 induction h with
 | done Q h=>{
 intro s G hl hok;have hf:s.L.filter (fun e=>decide (to<e.x))=s.L:=List.filter_eq_self.2 fun e he=>by simpa using h e.slot e.x ((hl.q _ _).2 ⟨e,he,rfl,rfl⟩)
 refine⟨hok,hf.symm,?_,by simp[Sm.rems]⟩;simpa[Sm.rems] using hl}
 | more Q i x ds Q' hq hx hm h ih=>{
 intro s G hl hok;have hu:=pQ hl hok hq;obtain⟨d,hd,hds,hdx⟩:=(hl.q i x).1 hq;have hok1:=Sm.ok_rem hok hu;obtain⟨h1,h2,h3,h4⟩:=ih (hl.drop hok i) hok1;have hL:(s.rem i).L=s.L.filter (fun e=>e.slot != i):=rfl;rw[Sm.rems_cons];refine⟨h1,?_,?_,?_⟩
 {
 rw[h2,hL,List.filter_filter];refine List.filter_congr fun e he=>?_;by_cases hs:e.slot=i
 {
 have:e=d:=aNX hok.one he hd (by omega);subst this;simp[hs];omega}
 · simp[hs]}
 {
 have:(fun j=>if j∈i::ds then none else G j)=fun j=>if j∈ds then none else if j=i then none else G j:=by {
 funext j
 by_cases e:j=i
 · subst e;simp
 · by_cases e2:j∈ds<;>simp[e,e2]};rw[this];exact h3}
 {
 have h5:(s.L.filter fun e=>e.slot != i).length+1=s.L.length:=by {
 have hp:∀L:List Lv,(L.map (·.slot)).Nodup->d∈L->(L.filter fun e=>e.slot != i).length+1=L.length:=by {
 intro L;induction L with
 | nil=>intro _ h;cases h
 | cons a r ihr=>{
 intro hn hm;simp only[List.map_cons,qX]at hn;rcases qF.1 hm with rfl|hm
 {
 have hr:r.filter (fun e=>e.slot != i)=r:=List.filter_eq_self.2 fun e he=>by
   simp only[bne_iff_ne];exact fun h=>hn.1 (zF.2 ⟨e,he,by omega⟩)
 rw[List.filter_cons_of_neg (by simp[hds]),hr];rfl}
 {
 have hne:a.slot≠i:=fun h=>hn.1 (zF.2 ⟨d,hm,by omega⟩);rw[List.filter_cons_of_pos (by simpa using hne)];simp only[zI];have:=ihr hn.2 hm;omega}}};exact hp s.L hok.one hd};rw[hL]at h4;simp only[zI];omega}}
theorem jW{l m:List Nat}(hl:l.Nodup)(hs:∀x∈l,x∈m):l.length<=m.length:=by
 induction l generalizing m with
 | nil=>simp
 | cons a r ih=>{
 simp only[qX]at hl;have ha:a∈m:=hs a (by simp);have h1:r.length<=(m.erase a).length:=ih hl.2 fun x hx=>(List.mem_erase_of_ne (fun e=>hl.1 (by rw[<-e];exact hx))).2 (hs x (by simp[hx]));rw[List.length_erase_of_mem ha]at h1;have:0<m.length:=List.length_pos_of_mem ha;simp only[zI];omega}
def lG(M:Md)(u v:Nat):List Nat:=M.L.map (·.1)++[u,v].filter fun x=> !(M.find x).isSome
theorem oU(M:Md)(u v:Nat):(lG M u v).length=M.L.length+((if (M.find u).isSome=true then 0 else 1)+if (M.find v).isSome=true then 0 else 1):=by
 unfold lG;rw[zO,List.length_map];congr 1
 cases hu:(M.find u).isSome<;>cases hv:(M.find v).isSome<;>simp only[List.filter,hu,hv]<;>rfl
theorem gH{M:Md}(h:M.Ok){x:Nat}:x∈M.L.map (·.1)↔(M.find x).isSome=true:=by
 rw[zF,zE];constructor
 · rintro⟨⟨a,i⟩,hx,rfl⟩;exact⟨i,(Md.find_iff h).2 hx⟩
 · rintro⟨i,hi⟩;exact⟨(x,i),Md.find_mem hi,rfl⟩
theorem oV{M:Md}(h:M.Ok){u v x:Nat}:x∈lG M u v↔(M.find x).isSome=true∨x=u∨x=v:=by
 unfold lG;rw[qJ,gH h];simp only[zJ,qF,List.not_mem_nil,or_false,Bool.not_eq_true'];constructor
 {
 rintro(h|⟨h,_⟩)
 · exact .inl h
 · exact .inr h}
 {
 rintro(h|h)
 · exact .inl h
 {
 by_cases hf:(M.find x).isSome=true
 · exact .inl hf
 · exact .inr ⟨h,by simpa using hf⟩}}
theorem pR{M:Md}(h:M.Ok){u v:Nat}(hne:u≠v):(lG M u v).Nodup:=by
 unfold lG;rw[qW];refine⟨h.ids,(qX.2 ⟨by simpa using hne,by simp⟩).filter _,fun a ha b hb e=>?_⟩;subst e;rw[gH h]at ha;simp only[zJ,Bool.not_eq_true']at hb;rw[ha]at hb;cases hb.2
theorem aNY{s s' :Sm}(h:s.Ok)(h' :s'.Ok)(hV:s'.V=s.V)(hE:s'.E=s.E)(hL:∀e∈s'.L,e∈s.L)(hn:s'.L.length<=s.L.length){u v:Nat}(hc:s.chk u v=0):s'.chk u v=0:=by
 obtain⟨h1,h2,h3⟩:=Sm.chk_ok h hc;rw[Sm.len_used h]at h2;have hm:s'.M.L.length+s'.more u v<=s.M.L.length+s.more u v:=by {
 have e1:=oU s.M u v;have e2:=oU s'.M u v;have e3:(lG s'.M u v).length<=(lG s.M u v).length:=jW (pR h'.md h1) fun x hx=>by
   rw[oV h.md];rw[oV h'.md]at hx;refine hx.imp (fun hx=>?_) id;rw[h.vert];rw[h'.vert]at hx;obtain⟨k,hk⟩:=List.exists_mem_of_ne_nil _ hx;obtain⟨e,he,hat,_⟩:=fI.1 hk;exact List.ne_nil_of_mem (fI.2 ⟨e,hL e he,hat,rfl⟩)
 unfold Sm.more;omega};unfold Sm.chk;rw[qH h1,Sm.len_used h', hE,hV,qH (by omega),qH (by omega)]
structure Wm where
  m:Int
  E:Nat
  V:Nat
  D:Int
  now:Int
  s:Sm
  Q:Nat->Option Int
  G:Nat->Option (Nat×Nat×Int)
  gone:Nat
structure Wm.Ok (W:Wm):Prop where
  ok:W.s.Ok
  hV:W.s.V=W.V
  hE:W.s.E=W.E
  lk:Lk W.s W.Q W.G
  x:∀e∈W.s.L,e.x=e.t+W.m/\0<=e.t/\e.t<=W.now/\W.now<e.x
  mono:W.s.L.Pairwise fun a b=>a.t<=b.t
  num:∀i (h:i<W.s.L.length),(W.s.L[i]).seq=W.gone+i+1
  last:W.s.last=W.gone+W.s.L.length
  max:W.s.last<=9223372036854775807
  m1:1<=W.m
  m2:W.m<=9223372036854775807
  n0:0<=W.now
  n1:W.now+W.m<=9223372036854775807
theorem aDG{L:List Lv}{to:Int}(h:L.Pairwise fun a b=>a.x<=b.x):∃k,k<=L.length/\L.filter (fun e=>decide (to<e.x))=L.drop k:=by
 induction L with
 | nil=>exact⟨0,by simp,rfl⟩
 | cons a r ih=>{
 rw[List.pairwise_cons]at h;by_cases ha:to<a.x
 {
 refine⟨0,by simp,?_⟩;rw[List.drop_zero];refine List.filter_eq_self.2 fun e he=>?_;rcases qF.1 he with rfl|he
 · simpa using ha
 {
 have:=h.1 e he;simp;omega}}
 {
 obtain⟨k,hk,e⟩:=ih h.2;refine⟨k+1,by simp;omega,?_⟩;rw[List.filter_cons_of_neg (by simpa using ha),e];rfl}}
def Wm.tick(W:Wm)(to:Int)(ds:List Nat)(Q' :Nat->Option Int):Wm:={ W with now:=to,s:=W.s.rems ds,Q:=Q', G:=fun j=>if j∈ds then none else W.G j,gone:=W.gone+ds.length }
theorem Wm.tick_ok{W:Wm}(h:W.Ok){to:Int}(h1:W.now<=to)(h2:to+W.m<=9223372036854775807){ds:List Nat}{Q' :Nat->Option Int}(hm:fC to W.Q ds Q'):(W.tick to ds Q').Ok/\(W.tick to ds Q').s.L=W.s.L.filter (fun e=>decide (to<e.x))/\(W.tick to ds Q').s.last=W.s.last:=by
 obtain⟨k1,k2,k3,k4⟩:=hm.law h.lk h.ok;obtain⟨r1,r2,r3⟩:=kG W.s ds;have hx:W.s.L.Pairwise fun a b=>a.x<=b.x:=by {
 refine List.Pairwise.imp_of_mem ?_ h.mono;intro a b ha hb hab;have:=h.x a ha;have:=h.x b hb;omega};obtain⟨k,hk,hf⟩:=aDG (to:=to) hx;have hkd:k=ds.length:=by rw[k2,hf,List.length_drop]at k4;omega
 refine⟨⟨k1,r1.trans h.hV,r2.trans h.hE,k3,fun e he=>?_,?_,fun i hi=>?_,?_,?_,h.m1,h.m2,Int.le_trans h.n0 h1,h2⟩,k2,r3⟩
 {
 rw[show(W.tick to ds Q').s.L=_ from k2,zJ]at he;have h3:=h.x e he.1;have h4:to<e.x:=by simpa using he.2
 exact⟨h3.1,h3.2.1,Int.le_trans h3.2.2.1 h1,h4⟩}
 {
 show((W.s.rems ds).L).Pairwise _
 rw[k2];exact h.mono.sublist List.filter_sublist}
 {
 have hL:(W.s.rems ds).L=W.s.L.drop ds.length:=by rw[k2,hf,hkd]
 have hi' :i<(W.s.rems ds).L.length:=hi;have hi2:ds.length+i<W.s.L.length:=by rw[hL,List.length_drop]at hi'; omega
 have e:(W.s.rems ds).L[i]'hi' =W.s.L[ds.length+i]'hi2:=by {
 have h5:(W.s.rems ds).L[i]? =W.s.L[ds.length+i]? :=by rw[hL,List.getElem?_drop]
 rw[qT hi', qT hi2]at h5;exact Option.some.inj h5};show((W.s.rems ds).L[i]'hi').seq=W.gone+ds.length+i+1
 rw[e,h.num];omega}
 {
 show(W.s.rems ds).last=W.gone+ds.length+(W.s.rems ds).L.length
 rw[r3,h.last];omega}
 {
 show(W.s.rems ds).last<=_
 rw[r3];exact h.max}
def Wm.put(W:Wm)(u v:Nat)(wt:Int)(a b:Nat):Wm:={ W with s:=W.s.ins u v wt W.now (W.now+W.m),Q:=fun j=>if j=W.s.slot then some (W.now+W.m) else W.Q j,G:=fun j=>if j=W.s.slot then some (a,b,W.now+W.m) else W.G j }
theorem Wm.put_ok{W:Wm}(h:W.Ok){u v:Nat}(hu:u<18446744073709551616)(hv:v<18446744073709551616)(wt:Int)(hc:W.s.chk u v=0)(hl:W.s.last<9223372036854775807){a b:Nat}
    (ha:(W.s.ins u v wt W.now (W.now+W.m)).M.find u=some a) (hb:(W.s.ins u v wt W.now (W.now+W.m)).M.find v=some b):(W.put u v wt a b).Ok:=by
 have hL:(W.put u v wt a b).s.L=W.s.L++[W.s.edge u v wt W.now (W.now+W.m)]:=rfl;have hm1:=h.m1;refine⟨Sm.ok_ins h.ok hu hv hc (by omega) wt W.now (W.now+W.m),h.hV,h.hE,h.lk.ins h.ok hu hv hc wt W.now (W.now+W.m) ha hb,fun e he=>?_,?_,fun i hi=>?_,?_,?_,h.m1,h.m2,h.n0,h.n1⟩
 {
 rw[hL,qJ,qP]at he;rcases he with he|rfl
 · exact h.x e he
 · exact⟨rfl,h.n0,Int.le_refl _,by show W.now<W.now+W.m;omega⟩}
 {
 rw[hL,List.pairwise_append];exact⟨h.mono,by simp,fun d hd e he=>by
   rw[qP]at he;subst he;exact(h.x d hd).2.2.1⟩}
 {
 have hi' :i<(W.s.L++[W.s.edge u v wt W.now (W.now+W.m)]).length:=hi;show((W.s.L++[W.s.edge u v wt W.now (W.now+W.m)])[i]'hi').seq=W.gone+i+1
 rw[List.getElem_append];split
 · exact h.num i _
 {
 have:i=W.s.L.length:=by simp at hi'; omega
 subst this;simp only[Nat.sub_self,List.getElem_singleton];show W.s.last+1=_
 rw[h.last]}}
 {
 show W.s.last+1=W.gone+(W.s.L++[W.s.edge u v wt W.now (W.now+W.m)]).length
 rw[h.last];simp;omega}
 {
 show W.s.last+1<=_
 omega}
def Wm.new(m:Int)(E V:Nat)(D:Int)(gone:Nat):Wm:={ m:=m,E:=E,V:=V,D:=D,now:=0,s:=Sm.new V E gone,Q:=fun _=>none,G:=fun _=>none,gone:=gone }
theorem Wm.new_ok{m:Int}{E V:Nat}{D:Int}{gone:Nat}(h1:1<=m)(h2:m<=9223372036854775807)(hE:E<=16384)(hV:V<=4096)(hg:gone<=9223372036854775807):(Wm.new m E V D gone).Ok:=
  ⟨Sm.ok_new hV hE (by omega),rfl,rfl,Lk.new _ _ _,fun e he=>(by cases he),List.Pairwise.nil,fun i hi=>absurd hi (Nat.not_lt_zero _),rfl,hg,h1,h2,Int.le_refl _,by show 0+m<=_;omega⟩
structure Nd where
  k0:Nat
  k1:Nat
  up:Nat
  flip:Bool
  key:Int
  size:Int
  first:Nat
  light:Int
  total:Int
def fv(n:Nd):Nat->Value
  | 0=>.int .i64 n.k0
  | 1=>.int .i64 n.k1
  | 2=>.int .i64 n.up
  | 3=>.bool n.flip
  | 4=>.int .i64 n.key
  | 5=>.int .i64 n.size
  | 6=>.int .i64 n.first
  | 7=>.int .i64 n.light
  | _=>.int .i64 n.total
abbrev Tbl:=Nat->Nd
def Tbl.upd(σ:Tbl)(i:Nat)(n:Nd):Tbl:=fun j=>if j=i then n else σ j
def bF(w:World)(g N:Nat)(σ:Tbl):Prop:=
  ∃arr:Array Value,w.heap[g]? =some (.cells arr 191 (0,0))/\N*9<=arr.size/\∀i,i<N->∀f,f<9->arr[i*9+f]? =some (fv (σ i) f)
theorem bF.cell{w:World}{g N:Nat}{σ:Tbl}(h:bF w g N σ){i f:Nat}(hi:i<N)(hf:f<9):w.cell? ⟨g,i*9+f,none⟩=some (fv (σ i) f):=by
 obtain⟨arr,h1,_,h2⟩:=h;simp[World.cell?,h1];exact h2 i hi f hf
theorem bF.frozen{w:World}{g N:Nat}{σ:Tbl}(h:bF w g N σ)(c:Nat):w.frozen? ⟨g,c,none⟩=false:=by
 obtain⟨arr,h1,_⟩:=h;simp[World.frozen?,h1]
theorem bF.lt{w:World}{g N:Nat}{σ:Tbl}(h:bF w g N σ):g<w.heap.size:=by
 obtain⟨arr,h1,_⟩:=h;exact(qU.1 h1).1
theorem bF.same{w w' :World}{g N:Nat}{σ:Tbl}(h:bF w g N σ)(e:w'.heap[g]? =w.heap[g]?):bF w' g N σ:=by
 obtain⟨arr,h1,r⟩:=h;exact⟨arr,e.trans h1,r⟩
theorem bF.eqv{w w' :World}{g N:Nat}{σ:Tbl}(h:bF w g N σ)(e:Eqv w' w):bF w' g N σ:=h.same (by rw[e.heap])
theorem bF.congr{w:World}{g N:Nat}{σ τ:Tbl}(h:bF w g N σ)(e:∀i,i<N->σ i=τ i):bF w g N τ:=by
 obtain⟨arr,h1,h2,h3⟩:=h;exact⟨arr,h1,h2,fun i hi f hf=>by rw[<-e i hi];exact h3 i hi f hf⟩
theorem bF.store{w:World}{g N:Nat}{σ:Tbl}(h:bF w g N σ){i f:Nat}(hi:i<N)(hf:f<9)(n:Nd)(v:Value)(hv:fv n f=v)(ho:∀f', f' < 9->f' ≠ f->fv n f' =fv (σ i) f'):
    bF (w.setCell ⟨g,i*9+f,none⟩ v) g N (σ.upd i n):=by
 obtain⟨arr,h1,h2,h3⟩:=h;refine⟨arr.setIfInBounds (i*9+f) v,?_,by simpa using h2,fun j hj f' hf' =>?_⟩
 {
 simp only[World.setCell,Array.getElem?_modify];simp[h1]}
 {
 rw[Array.getElem?_setIfInBounds];by_cases e:i*9+f=j*9+f'
 {
 have e1:i=j:=by omega
 have e2:f=f' :=by omega
 subst e1;subst e2;rw[qI rfl,qI (by omega)];simp[Tbl.upd,hv]}
 {
 rw[qH e,h3 j hj f' hf'];simp only[Tbl.upd];by_cases ej:j=i
 · subst ej;rw[qI rfl,ho f' hf' (fun e' =>e (by omega))]
 · rw[qH ej]}}
section
variable {w:World} {g N:Nat} {σ:Tbl} (h:bF w g N σ)
include h
theorem bF.c0:∀i,i<N->w.cell? ⟨g,i*9,none⟩=some (.int .i64 (σ i).k0):=fun i hi=>h.cell (f:=0) hi (by decide)
theorem bF.c1:∀i,i<N->w.cell? ⟨g,i*9+1,none⟩=some (.int .i64 (σ i).k1):=fun i hi=>h.cell (f:=1) hi (by decide)
theorem bF.c2:∀i,i<N->w.cell? ⟨g,i*9+2,none⟩=some (.int .i64 (σ i).up):=fun i hi=>h.cell (f:=2) hi (by decide)
theorem bF.c3:∀i,i<N->w.cell? ⟨g,i*9+3,none⟩=some (.bool (σ i).flip):=fun i hi=>h.cell (f:=3) hi (by decide)
theorem bF.c4:∀i,i<N->w.cell? ⟨g,i*9+4,none⟩=some (.int .i64 (σ i).key):=fun i hi=>h.cell (f:=4) hi (by decide)
theorem bF.c5:∀i,i<N->w.cell? ⟨g,i*9+5,none⟩=some (.int .i64 (σ i).size):=fun i hi=>h.cell (f:=5) hi (by decide)
theorem bF.c6:∀i,i<N->w.cell? ⟨g,i*9+6,none⟩=some (.int .i64 (σ i).first):=fun i hi=>h.cell (f:=6) hi (by decide)
theorem bF.c7:∀i,i<N->w.cell? ⟨g,i*9+7,none⟩=some (.int .i64 (σ i).light):=fun i hi=>h.cell (f:=7) hi (by decide)
theorem bF.c8:∀i,i<N->w.cell? ⟨g,i*9+8,none⟩=some (.int .i64 (σ i).total):=fun i hi=>h.cell (f:=8) hi (by decide)
end
structure aC (w:World) (pf g N:Nat) (cap:Nat) (σ:Tbl) (edges:Int):Prop where
  hd:Blk w pf 194 [.pointer (some ⟨pf,0,none⟩),.slice (some ⟨g,0,none⟩) N cap,.int .i64 edges]
  nodes:bF w g N σ
  ne:pf≠g
  le:N<=65537
  cap:N<=cap
def bR(σ:Tbl)(i j:Nat):Bool:=decide ((σ i).key<(σ j).key)||(decide ((σ i).key=(σ j).key)&&decide (i<j))
theorem aNZ{w:World}{pf g N cap:Nat}{σ:Tbl}{ed:Int}(h:aC w pf g N cap σ ed)(i j:Nat)(hi:i<N)(hj:j<N):
    Calls Tryz.prog 203 #[.pointer (some ⟨pf,0,none⟩),.int .i64 i,.int .i64 j] w fun e w' =>e=.returned (.bool (bR σ i j))/\∃n,w' =w.drewN n:=by
 have c1:=h.hd.cell 1;simp only[zS,zT]at c1;have ci:=h.nodes.c4 i hi;have cj:=h.nodes.c4 j hj;have hN:=h.le;have hi2:(i:Int)<N:=by omega
 have hj2:(j:Int)<N:=by omega
 by_cases h1:(σ i).key<(σ j).key
 {
 have d1:decide ((σ i).key<(σ j).key)=true:=qO h1;have hr:bR σ i j=true:=by simp[bR,h1]
 rw[hr];clear hr;go_enter Tryz.func203,Tryz.ntmps203
 go_wp2
 go_quiet (fail)
 go_wp2
 go_ret;exact⟨rfl,_,rfl⟩}
 {
 have d1:decide ((σ i).key<(σ j).key)=false:=qK h1;by_cases h2:(σ i).key=(σ j).key
 {
 have d2:((σ i).key == (σ j).key)=true:=beq_iff_eq.2 h2;have hr:bR σ i j=decide (i<j):=by simp[bR,h2]
 rw[hr];clear hr;have H2:=qB h2;clear h2;by_cases h3:i<j
 {
 have d3:decide ((i:Int)<(j:Int))=true:=qO (by omega);have d4:decide (i<j)=true:=qO h3;rw[d4];clear d4;go_enter Tryz.func203,Tryz.ntmps203
 go_wp2
 go_quiet (fail)
 go_wp2
 go_ret;exact⟨rfl,_,rfl⟩}
 {
 have d3:decide ((i:Int)<(j:Int))=false:=qK (by omega);have d4:decide (i<j)=false:=qK h3;rw[d4];clear d4;go_enter Tryz.func203,Tryz.ntmps203
 go_wp2
 go_quiet (fail)
 go_wp2
 go_ret;exact⟨rfl,_,rfl⟩}}
 {
 have d2:((σ i).key == (σ j).key)=false:=zA.2 h2;have hr:bR σ i j=false:=by simp[bR,h1,h2]
 rw[hr];clear hr;have H2:=qB h2;clear h2;go_enter Tryz.func203,Tryz.ntmps203
 go_wp2
 go_quiet (fail)
 go_wp2
 go_ret;exact⟨rfl,_,rfl⟩}}
def aX(σ:Tbl)(i k:Nat):Tbl:=
  if k=0 then σ else
    let σ1:=σ.upd i { σ i with size:=wrap64 ((σ i).size+(σ k).size) }
    let σ2:=σ1.upd i { σ1 i with total:=wrap64 ((σ1 i).total+(σ1 k).total) }
    if bR σ2 (σ2 k).first (σ2 i).first then σ2.upd i { σ2 i with first:=(σ2 k).first } else σ2
def dW(σ:Tbl)(i:Nat):Tbl:=σ.upd i { σ i with size:=1,first:=i,total:=wrap64 (1+(σ i).light) }
def aGK(σ:Tbl)(i:Nat):Nat->Tbl
  | 0=>dW σ i
  | 1=>aX (dW σ i) i (σ i).k0
  | _=>aX (aX (dW σ i) i (σ i).k0) i (σ i).k1
def refresh(σ:Tbl)(i:Nat):Tbl:=aGK σ i 2
theorem aK(σ:Tbl)(i:Nat)(n:Nd):σ.upd i n i=n:=by simp[Tbl.upd]
theorem aF{σ:Tbl}{i j:Nat}{n:Nd}(h:j≠i):σ.upd i n j=σ j:=by simp[Tbl.upd,h]
def InR(N:Nat)(σ:Tbl):Prop:=∀i,i<N->(σ i).k0<N/\(σ i).k1<N/\(σ i).up<N/\(σ i).first<N
theorem gI{σ:Tbl}{i k j:Nat}(h:j≠i):aX σ i k j=σ j:=by
 unfold aX;by_cases hk:k=0
 · rw[qI hk]
 · rw[qH hk];dsimp only;split<;>simp[aF h]
theorem iT{σ:Tbl}{i k j:Nat}:(aX σ i k j).k0=(σ j).k0/\(aX σ i k j).k1=(σ j).k1/\(aX σ i k j).up=(σ j).up/\(aX σ i k j).flip=(σ j).flip/\(aX σ i k j).key=(σ j).key/\(aX σ i k j).light=(σ j).light:=by
 by_cases h:j=i
 {
 subst h;unfold aX;by_cases hk:k=0
 · rw[qI hk];simp
 · rw[qH hk];dsimp only;split<;>simp[aK]}
 · rw[gI h];simp
theorem oW{N:Nat}{σ:Tbl}{i k:Nat}(h:InR N σ)(hi:i<N)(hk:k<N)(hki:k≠i):InR N (aX σ i k):=by
 intro j hj;obtain⟨a,b,c,_⟩:=@iT σ i k j;rw[a,b,c];refine⟨(h j hj).1,(h j hj).2.1,(h j hj).2.2.1,?_⟩;by_cases e:j=i
 {
 subst e;unfold aX;by_cases hk0:k=0
 · rw[qI hk0];exact(h j hj).2.2.2
 {
 rw[qH hk0];dsimp only;split
 · simp[aK,aF hki];exact(h k hk).2.2.2
 · simp[aK];exact(h j hj).2.2.2}}
 · rw[gI e];exact(h j hj).2.2.2
theorem vB{N:Nat}{σ:Tbl}{i:Nat}(h:InR N σ)(hi:i<N):InR N (dW σ i):=by
 intro j hj;by_cases e:j=i
 · subst e;simp only[dW,aK];exact⟨(h j hj).1,(h j hj).2.1,(h j hj).2.2.1,hi⟩
 · simp only[dW,aF e];exact h j hj
theorem aDH{N:Nat}{σ:Tbl}{i:Nat}(h:InR N σ)(hi:i<N)(h0:(σ i).k0≠i)(h1:(σ i).k1≠i)(t:Nat):InR N (aGK σ i t):=by
 match t with
 | 0=>exact vB h hi
 | 1=>exact oW (vB h hi) hi (h i hi).1 h0
 | t+2=>exact oW (oW (vB h hi) hi (h i hi).1 h0) hi (h i hi).2.1 h1
theorem aC.store{w w0:World}{pf g N cap:Nat}{σ:Tbl}{ed:Int}(h:aC w pf g N cap σ ed)(hF:Fr [g] w0 w){i f:Nat}(hi:i<N)(hf:f<9)(n:Nd)(v:Value)(hv:fv n f=v)(ho:∀f', f' < 9->f' ≠ f->fv n f' =fv (σ i) f'):
    aC (w.setCell ⟨g,i*9+f,none⟩ v) pf g N cap (σ.upd i n) ed/\Fr [g] w0 (w.setCell ⟨g,i*9+f,none⟩ v):=
  ⟨⟨h.hd.other _ _ h.ne,h.nodes.store hi hf n v hv ho,h.ne,h.le,h.cap⟩,hF.setCell _ _ (.inl (by simp))⟩
theorem aC.eqv{w w' :World}{pf g N cap:Nat}{σ:Tbl}{ed:Int}(h:aC w pf g N cap σ ed)(e:Eqv w' w):aC w' pf g N cap σ ed:=
  ⟨e.blk h.hd,h.nodes.eqv e,h.ne,h.le,h.cap⟩
section
variable {w w0:World} {pf g N cap:Nat} {σ:Tbl} {ed:Int} (h:aC w pf g N cap σ ed) (hF:Fr [g] w0 w) {i:Nat} (hi:i<N)
include h hF hi
theorem aC.st0(x:Nat):aC (w.setCell ⟨g,i*9,none⟩ (.int .i64 x)) pf g N cap (σ.upd i { σ i with k0:=x }) ed/\Fr [g] w0 (w.setCell ⟨g,i*9,none⟩ (.int .i64 x)):=
  h.store hF hi (f:=0) (by decide) _ _ rfl (by intro f' h1 h2;match f', h1,h2 with|1,_,_=>rfl|2,_,_=>rfl|3,_,_=>rfl|4,_,_=>rfl|5,_,_=>rfl|6,_,_=>rfl|7,_,_=>rfl|_+8,_,_=>rfl)
theorem aC.st1(x:Nat):aC (w.setCell ⟨g,i*9+1,none⟩ (.int .i64 x)) pf g N cap (σ.upd i { σ i with k1:=x }) ed/\Fr [g] w0 (w.setCell ⟨g,i*9+1,none⟩ (.int .i64 x)):=
  h.store hF hi (f:=1) (by decide) _ _ rfl (by intro f' h1 h2;match f', h1,h2 with|0,_,_=>rfl|2,_,_=>rfl|3,_,_=>rfl|4,_,_=>rfl|5,_,_=>rfl|6,_,_=>rfl|7,_,_=>rfl|_+8,_,_=>rfl)
theorem aC.st2(x:Nat):aC (w.setCell ⟨g,i*9+2,none⟩ (.int .i64 x)) pf g N cap (σ.upd i { σ i with up:=x }) ed/\Fr [g] w0 (w.setCell ⟨g,i*9+2,none⟩ (.int .i64 x)):=
  h.store hF hi (f:=2) (by decide) _ _ rfl (by intro f' h1 h2;match f', h1,h2 with|0,_,_=>rfl|1,_,_=>rfl|3,_,_=>rfl|4,_,_=>rfl|5,_,_=>rfl|6,_,_=>rfl|7,_,_=>rfl|_+8,_,_=>rfl)
theorem aC.st3(x:Bool):aC (w.setCell ⟨g,i*9+3,none⟩ (.bool x)) pf g N cap (σ.upd i { σ i with flip:=x }) ed/\Fr [g] w0 (w.setCell ⟨g,i*9+3,none⟩ (.bool x)):=
  h.store hF hi (f:=3) (by decide) _ _ rfl (by intro f' h1 h2;match f', h1,h2 with|0,_,_=>rfl|1,_,_=>rfl|2,_,_=>rfl|4,_,_=>rfl|5,_,_=>rfl|6,_,_=>rfl|7,_,_=>rfl|_+8,_,_=>rfl)
theorem aC.st4(x:Int):aC (w.setCell ⟨g,i*9+4,none⟩ (.int .i64 x)) pf g N cap (σ.upd i { σ i with key:=x }) ed/\Fr [g] w0 (w.setCell ⟨g,i*9+4,none⟩ (.int .i64 x)):=
  h.store hF hi (f:=4) (by decide) _ _ rfl (by intro f' h1 h2;match f', h1,h2 with|0,_,_=>rfl|1,_,_=>rfl|2,_,_=>rfl|3,_,_=>rfl|5,_,_=>rfl|6,_,_=>rfl|7,_,_=>rfl|_+8,_,_=>rfl)
theorem aC.st5(x:Int):aC (w.setCell ⟨g,i*9+5,none⟩ (.int .i64 x)) pf g N cap (σ.upd i { σ i with size:=x }) ed/\Fr [g] w0 (w.setCell ⟨g,i*9+5,none⟩ (.int .i64 x)):=
  h.store hF hi (f:=5) (by decide) _ _ rfl (by intro f' h1 h2;match f', h1,h2 with|0,_,_=>rfl|1,_,_=>rfl|2,_,_=>rfl|3,_,_=>rfl|4,_,_=>rfl|6,_,_=>rfl|7,_,_=>rfl|_+8,_,_=>rfl)
theorem aC.st6(x:Nat):aC (w.setCell ⟨g,i*9+6,none⟩ (.int .i64 x)) pf g N cap (σ.upd i { σ i with first:=x }) ed/\Fr [g] w0 (w.setCell ⟨g,i*9+6,none⟩ (.int .i64 x)):=
  h.store hF hi (f:=6) (by decide) _ _ rfl (by intro f' h1 h2;match f', h1,h2 with|0,_,_=>rfl|1,_,_=>rfl|2,_,_=>rfl|3,_,_=>rfl|4,_,_=>rfl|5,_,_=>rfl|7,_,_=>rfl|_+8,_,_=>rfl)
theorem aC.st7(x:Int):aC (w.setCell ⟨g,i*9+7,none⟩ (.int .i64 x)) pf g N cap (σ.upd i { σ i with light:=x }) ed/\Fr [g] w0 (w.setCell ⟨g,i*9+7,none⟩ (.int .i64 x)):=
  h.store hF hi (f:=7) (by decide) _ _ rfl (by intro f' h1 h2;match f', h1,h2 with|0,_,_=>rfl|1,_,_=>rfl|2,_,_=>rfl|3,_,_=>rfl|4,_,_=>rfl|5,_,_=>rfl|6,_,_=>rfl|_+8,_,_=>rfl)
theorem aC.st8(x:Int):aC (w.setCell ⟨g,i*9+8,none⟩ (.int .i64 x)) pf g N cap (σ.upd i { σ i with total:=x }) ed/\Fr [g] w0 (w.setCell ⟨g,i*9+8,none⟩ (.int .i64 x)):=
  h.store hF hi (f:=8) (by decide) _ _ rfl (by intro f' h1 h2;match f', h1,h2 with|0,_,_=>rfl|1,_,_=>rfl|2,_,_=>rfl|3,_,_=>rfl|4,_,_=>rfl|5,_,_=>rfl|6,_,_=>rfl|7,_,_=>rfl|m+8,h1,h2=>exact absurd (show m+8=8 by omega) h2)
end
theorem sA(x y:Value)(w:World):(Instr.index 189 (.agg #[x,y]) (.int .i64 0)).run Tryz.prog w=.ok x w:=by kernel_rfl
theorem sB(x y:Value)(w:World):(Instr.index 189 (.agg #[x,y]) (.int .i64 1)).run Tryz.prog w=.ok y w:=by kernel_rfl
theorem aOA{w:World}{pf g N cap:Nat}{σ:Tbl}{ed:Int}(h:aC w pf g N cap σ ed){i:Nat}(hi:i<N):
    aC (((w.setCell ⟨g,i*9+5,none⟩ (.int .i64 1)).setCell ⟨g,i*9+6,none⟩ (.int .i64 i)).setCell ⟨g,i*9+8,none⟩ (.int .i64 (wrap64 (1+(σ i).light)))) pf g N cap (dW σ i) ed /\
      Fr [g] w (((w.setCell ⟨g,i*9+5,none⟩ (.int .i64 1)).setCell ⟨g,i*9+6,none⟩ (.int .i64 i)).setCell ⟨g,i*9+8,none⟩ (.int .i64 (wrap64 (1+(σ i).light)))):=by
 obtain⟨h1,f1⟩:=h.st5 (Fr.refl _ _) hi 1;obtain⟨h2,f2⟩:=h1.st6 f1 hi i;obtain⟨h3,f3⟩:=h2.st8 f2 hi (wrap64 (1+(σ i).light));refine⟨⟨h3.hd,h3.nodes.congr ?_,h3.ne,h3.le,h3.cap⟩,f3⟩;intro j _;by_cases e:j=i
 · subst e;simp[dW,aK]
 · simp[dW,aF e]
theorem aOB(n:Int):IntKind.i64.wrap n=wrap64 n:=by rw[IntKind.wrap_i64];unfold wrap64;omega
theorem eF{w:World}{pf g N cap:Nat}{σ:Tbl}{ed:Int}(h:aC w pf g N cap σ ed)(i:Nat)(hi:i<N)(hR:InR N σ)(h0:(σ i).k0≠i)(h1:(σ i).k1≠i):
    Calls Tryz.prog 174 #[.pointer (some ⟨pf,0,none⟩),.int .i64 i] w fun e w' =>e=.returned (.tuple #[])/\aC w' pf g N cap (refresh σ i) ed/\Fr [g] w w' :=by
 have c1:=h.hd.cell 1;simp only[zS,zT]at c1;have hN:=h.le;have a0:=h.nodes.c0 i hi;have a1:=h.nodes.c1 i hi;have a5:=h.nodes.c5 i hi;have a6:=h.nodes.c6 i hi;have a7:=h.nodes.c7 i hi;have a8:=h.nodes.c8 i hi;have hfz:=h.nodes.frozen;have hi2:(i:Int)<N:=by omega
 obtain⟨hm0,hf0⟩:=aOA h hi;have HR:=qB hR;clear hR;have H0:=qB h0;clear h0;have H1:=qB h1;clear h1;go_enter Tryz.func174,Tryz.ntmps174
 go_wp2
 generalize hW:(((w.setCell ⟨g,i*9+5,none⟩ (.int .i64 1)).setCell ⟨g,i*9+6,none⟩ (.int .i64 i)).setCell ⟨g,i*9+8,none⟩ (.int .i64 (wrap64 (1+(σ i).light))))=W0 at *;clear hW a0 a1 a5 a6 a7 a8 hfz c1;go_loopw [33] (fun x wr=>∃t:Nat,t<=2/\x=.int .i64 t/\aC wr pf g N cap (aGK σ i t) ed/\Fr [g] w wr) (fun x _=>2-(intOf x).toNat)
 case atStart=>exact⟨0,by omega,rfl,hm0,hf0⟩
 case round=>
  clear hm0 hf0;obtain⟨t,ht,rfl,hL,hF⟩:=hrel;by_cases hlt:t<2
  {
  have hInR:=aDH HR.out hi H0.out H1.out t;obtain⟨k,hix,hkN,hki,hnx⟩:∃k:Nat,(∀W:World,(Instr.index 189 (.agg #[.int .i64 (σ i).k0,.int .i64 (σ i).k1]) (.int .i64 t)).run Tryz.prog W=.ok (.int .i64 k) W)/\k<N/\k≠i/\aGK σ i (t+1)=aX (aGK σ i t) i k:=by {
  rcases(show t=0∨t=1 by omega) with rfl|rfl
  · exact⟨(σ i).k0,fun W=>sA _ _ W,(HR.out i hi).1,H0.out,rfl⟩
  · exact⟨(σ i).k1,fun W=>sB _ _ W,(HR.out i hi).2.1,H1.out,rfl⟩};have Hnx:=qB hnx;clear hnx;have HIn:=qB hInR;clear hInR;generalize aGK σ i t=τ at *;by_cases hk0:k=0
  {
  subst hk0;go_wp2
  go_roundw
  case rel=>exact⟨t+1,by omega,by go_num,by rw[Hnx.out];exact hL,hF⟩
  case measure=>simp[intOf];omega}
  {
  have hb0:((k:Int) == 0)=false:=zA.2 (by omega);have hk2:(k:Int)<N:=by omega
  have c1:=hL.hd.cell 1;simp only[zS,zT]at c1;have a5:=hL.nodes.c5 i hi;have b5:=hL.nodes.c5 k hkN;have hfz:=hL.nodes.frozen;go_wp2
  refine bA 11 (fun w' =>aC w' pf g N cap (τ.upd i { τ i with size:=wrap64 ((τ i).size+(τ k).size) }) ed/\Fr [g] w w') (by kernel_rfl) (by kernel_rfl) (by kernel_rfl) ?_;iterate 11 (refine bM (by decide) (fun K hK=>?_);go_simp;refine hK _ ?_;clear hK K)
  refine aO rfl undef (fun w' hw' =>?_) ?_
  {
  obtain⟨nq,rfl⟩:=hw';go_simp;rw[aOB];exact(hL.eqv (Eqv.drewN wr nq)).st5 (hF.drewN nq) hi _};refine bN ?_;rintro w2 ⟨hL2,hF2⟩;have hk1:τ.upd i { τ i with size:=wrap64 ((τ i).size+(τ k).size) } k=τ k:=aF hki;have c1' :=hL2.hd.cell 1;simp only[zS,zT]at c1';have a8:=hL2.nodes.c8 i hi;have b8:=hL2.nodes.c8 k hkN;rw[hk1]at b8;rw[aK]at a8;have hfz2:=hL2.nodes.frozen;clear a5 b5 hfz c1 hk1;go_wp2
  refine bA 11 (fun w' =>aC w' pf g N cap ((τ.upd i { τ i with size:=wrap64 ((τ i).size+(τ k).size) }).upd i { τ i with size:=wrap64 ((τ i).size+(τ k).size),total:=wrap64 ((τ i).total+(τ k).total) }) ed/\Fr [g] w w') (by kernel_rfl) (by kernel_rfl) (by kernel_rfl) ?_;iterate 11 (refine bM (by decide) (fun K hK=>?_);go_simp;refine hK _ ?_;clear hK K)
  refine aO rfl undef (fun w' hw' =>?_) ?_
  {
  obtain⟨nq,rfl⟩:=hw';go_simp;have:=(hL2.eqv (Eqv.drewN w2 nq)).st8 (hF2.drewN nq) hi (wrap64 ((τ i).total+(τ k).total));rw[aK]at this;rw[aOB];exact this};refine bN ?_;rintro w3 ⟨hL3,hF3⟩;clear a8 b8 hfz2 c1' hL hL2 hF hF2;have hns:aX τ i k=if bR ((τ.upd i { τ i with size:=wrap64 ((τ i).size+(τ k).size) }).upd i { τ i with size:=wrap64 ((τ i).size+(τ k).size),total:=wrap64 ((τ i).total+(τ k).total) }) (τ k).first (τ i).first then((τ.upd i { τ i with size:=wrap64 ((τ i).size+(τ k).size) }).upd i { τ i with size:=wrap64 ((τ i).size+(τ k).size),total:=wrap64 ((τ i).total+(τ k).total) }).upd i { τ i with size:=wrap64 ((τ i).size+(τ k).size),total:=wrap64 ((τ i).total+(τ k).total),first:=(τ k).first } else((τ.upd i { τ i with size:=wrap64 ((τ i).size+(τ k).size) }).upd i { τ i with size:=wrap64 ((τ i).size+(τ k).size),total:=wrap64 ((τ i).total+(τ k).total) }):=by {
  unfold aX;rw[qH hk0];simp only[aK,aF hki]};have Hns:=qB hns;clear hns;have c6:=hL3.nodes.c6 i hi;have d6:=hL3.nodes.c6 k hkN;have hk1:((τ.upd i { τ i with size:=wrap64 ((τ i).size+(τ k).size) }).upd i { τ i with size:=wrap64 ((τ i).size+(τ k).size),total:=wrap64 ((τ i).total+(τ k).total) }) k=τ k:=by rw[aF hki,aF hki]
  have hi1:((τ.upd i { τ i with size:=wrap64 ((τ i).size+(τ k).size) }).upd i { τ i with size:=wrap64 ((τ i).size+(τ k).size),total:=wrap64 ((τ i).total+(τ k).total) }) i={ τ i with size:=wrap64 ((τ i).size+(τ k).size),total:=wrap64 ((τ i).total+(τ k).total) }:=aK _ _ _;rw[hi1]at c6;rw[hk1]at d6;have hst:=fun nq:Nat=>(hL3.eqv (Eqv.drewN w3 nq)).st6 (hF3.drewN nq) hi (τ k).first
  rw[hi1]at hst;generalize ((τ.upd i { τ i with size:=wrap64 ((τ i).size+(τ k).size) }).upd i { τ i with size:=wrap64 ((τ i).size+(τ k).size),total:=wrap64 ((τ i).total+(τ k).total) })=τ2 at *;have hbf:=fun W (hW:aC W pf g N cap τ2 ed)=>aNZ hW (τ k).first (τ i).first (HIn.out k hkN).2.2.2 (HIn.out i hi).2.2.2
  have Hbf:=qB hbf;clear hbf hk1 hi1;have hfz3:=hL3.nodes.frozen;have Hst:=qB hst;clear hst;dsimp only at c6
  cases hB:bR τ2 (τ k).first (τ i).first with
  | true=>{
  rw[hB]at Hbf Hns;clear hB;go_wp2
  go_quiet ((go_at_call 203;exact Calls.quiet_of (Hbf.out _ (hL3.eqv (Eqv.drewN _ _)))))
  go_wp2
  exact⟨⟨t+1,by omega,by go_num,by rw[Hnx.out,Hns.out,qI trivial];exact(Hst.out nq).1,(Hst.out nq).2⟩,by simp[intOf];omega⟩}
  | false=>{
  rw[hB]at Hbf Hns;clear hB;go_wp2
  go_quiet ((go_at_call 203;exact Calls.quiet_of (Hbf.out _ (hL3.eqv (Eqv.drewN _ _)))))
  go_wp2
  exact⟨⟨t+1,by omega,by go_num,by rw[Hnx.out,Hns.out,qH (by decide)];exact hL3.eqv (Eqv.drewN w3 nq),hF3.drewN nq⟩,by simp[intOf];omega⟩}}}
  {
  obtain rfl:t=2:=by omega
  go_wp2
  go_end0
  exact⟨rfl,hL,hF⟩}
def mO(σ:Tbl)(k:Nat):Tbl:=if k=0 then σ else σ.upd k { σ k with flip:= !(σ k).flip }
def lU(σ:Tbl)(i:Nat):Tbl:=σ.upd i { σ i with flip:=false,k0:=(σ i).k1,k1:=(σ i).k0 }
def yI(σ:Tbl)(i:Nat):Nat->Tbl
  | 0=>lU σ i
  | 1=>mO (lU σ i) (σ i).k1
  | _=>mO (mO (lU σ i) (σ i).k1) (σ i).k0
def push(σ:Tbl)(i:Nat):Tbl:=if (σ i).flip then yI σ i 2 else σ
theorem aC.congr{w:World}{pf g N cap:Nat}{σ τ:Tbl}{ed:Int}(h:aC w pf g N cap σ ed)(e:∀i,σ i=τ i):aC w pf g N cap τ ed:=by
 have:σ=τ:=funext e;rw[<-this];exact h
theorem aYP{w:World}{pf g N cap:Nat}{σ:Tbl}{ed:Int}(h:aC w pf g N cap σ ed)(i:Nat)(hi:i<N)(hR:InR N σ):
    Calls Tryz.prog 201 #[.pointer (some ⟨pf,0,none⟩),.int .i64 i] w fun e w' =>e=.returned (.tuple #[])/\aC w' pf g N cap (push σ i) ed/\Fr [g] w w' :=by
 have c1:=h.hd.cell 1;simp only[zS,zT]at c1;have hN:=h.le;have a3:=h.nodes.c3 i hi;have hfz:=h.nodes.frozen;have hi2:(i:Int)<N:=by omega
 have HR:=qB hR;clear hR;by_cases hfl:(σ i).flip=true
 {
 have hp:push σ i=yI σ i 2:=by unfold push;rw[qI hfl]
 have Hp:=qB hp;clear hp;rw[hfl]at a3;have Hfl:=qB hfl;clear hfl;obtain⟨h1,f1⟩:=h.st3 (Fr.refl _ _) hi false;go_enter Tryz.func201,Tryz.ntmps201
 go_wp2
 generalize hW:w.setCell ⟨g,i*9+3,none⟩ (.bool false)=W0 at *;clear hW a3 c1 hfz;have a0:=h1.nodes.c0 i hi;have a1:=h1.nodes.c1 i hi;rw[aK]at a0 a1;dsimp only at a0 a1
 have hfz:=h1.nodes.frozen;have c1:=h1.hd.cell 1;simp only[zS,zT]at c1;refine mM [15,19] [1] (fun q w' =>match q with
   | 0=>∃n,w' =W0.drewN n
   | 1=>aC w' pf g N cap ((σ.upd i { σ i with flip:=false }).upd i { σ i with flip:=false,k0:=(σ i).k1 }) ed/\Fr [g] w w'
   | _=>aC w' pf g N cap (lU σ i) ed/\Fr [g] w w') (fun w' =>Iff.rfl) (by kernel_rfl) (by kernel_rfl) (by kernel_rfl) ?_
 refine iZ (by decide) (fun K hK=>?_);go_simp;refine hK _ ?_;clear hK K;refine gT (by decide) (fun K hK=>?_);go_simp;refine hK _ ?_;clear hK K;iterate 13 (refine iZ (by decide) (fun K hK=>?_);go_simp;refine hK _ ?_;clear hK K)
 refine fW (q:=0) (by decide) rfl undef (fun w' hw' =>?_) ?_
 {
 obtain⟨nq,rfl⟩:=hw';go_simp;have:=(h1.eqv (Eqv.drewN W0 nq)).st0 (f1.drewN nq) hi (σ i).k1;rw[aK]at this;exact this};iterate 3 (refine gT (by decide) (fun K hK=>?_);go_simp;refine hK _ ?_;clear hK K)
 refine fW (q:=1) (by decide) rfl undef (fun w' hw' =>?_) ?_
 {
 obtain⟨hA,hB⟩:=hw';have hfz' :=hA.nodes.frozen;have b1:=hA.nodes.c1 i hi;go_simp;have:=hA.st1 hB hi (σ i).k0;rw[aK]at this;refine⟨this.1.congr ?_,this.2⟩;intro j;by_cases e:j=i
 · subst e;simp[lU,aK]
 · simp[lU,aF e]};refine rY ?_;rintro w2 ⟨h2,f2⟩;clear a0 a1 hfz c1 h1 f1;have a0:=h2.nodes.c0 i hi;have a1:=h2.nodes.c1 i hi;simp only[lU,aK]at a0 a1;go_wp2
 clear a0 a1;go_loopw [43] (fun x wr=>∃t:Nat,t<=2/\x=.int .i64 t/\aC wr pf g N cap (yI σ i t) ed/\Fr [g] w wr) (fun x _=>2-(intOf x).toNat)
 case atStart=>exact⟨0,by omega,rfl,h2,f2⟩
 case round=>
  clear h2 f2;obtain⟨t,ht,rfl,hL,hF⟩:=hrel;by_cases hlt:t<2
  {
  obtain⟨k,hix,hkN,hnx⟩:∃k:Nat,(∀W:World,(Instr.index 189 (.agg #[.int .i64 (σ i).k1,.int .i64 (σ i).k0]) (.int .i64 t)).run Tryz.prog W=.ok (.int .i64 k) W)/\k<N/\yI σ i (t+1)=mO (yI σ i t) k:=by {
  rcases(show t=0∨t=1 by omega) with rfl|rfl
  · exact⟨(σ i).k1,fun W=>sA _ _ W,(HR.out i hi).2.1,rfl⟩
  · exact⟨(σ i).k0,fun W=>sB _ _ W,(HR.out i hi).1,rfl⟩};have Hnx:=qB hnx;clear hnx;generalize yI σ i t=τ at *;by_cases hk0:k=0
  {
  subst hk0;go_wp2
  exact⟨⟨t+1,by omega,by go_num,by rw[Hnx.out];exact hL,hF⟩,by simp[intOf];omega⟩}
  {
  have hb0:((k:Int) == 0)=false:=zA.2 (by omega);have hk2:(k:Int)<N:=by omega
  have c1:=hL.hd.cell 1;simp only[zS,zT]at c1;have a3:=hL.nodes.c3 k hkN;have hfz:=hL.nodes.frozen;go_wp2
  refine bA 16 (fun w' =>aC w' pf g N cap (τ.upd k { τ k with flip:= !(τ k).flip }) ed/\Fr [g] w w') (by kernel_rfl) (by kernel_rfl) (by kernel_rfl) ?_;iterate 16 (refine bM (by decide) (fun K hK=>?_);go_simp;refine hK _ ?_;clear hK K)
  refine aO rfl undef (fun w' hw' =>?_) ?_
  {
  obtain⟨nq,rfl⟩:=hw';go_simp;exact(hL.eqv (Eqv.drewN wr nq)).st3 (hF.drewN nq) hkN _};refine bN ?_;rintro w3 ⟨h3,f3⟩;go_wp2
  exact⟨⟨t+1,by omega,by go_num,by rw[Hnx.out];unfold mO;rw[qH hk0];exact h3,f3⟩,by simp[intOf];omega⟩}}
  {
  obtain rfl:t=2:=by omega
  go_wp2
  go_end0
  exact⟨rfl,by rw[Hp.out];exact hL,hF⟩}}
 {
 have hfl:(σ i).flip=false:=by simpa using hfl
 have hp:push σ i=σ:=by unfold push;rw[qH (by simp[hfl])]
 rw[hp];clear hp;rw[hfl]at a3;go_enter Tryz.func201,Tryz.ntmps201
 go_wp2
 refine bodyPost_ret (results_none rfl _ _ _) rfl ?_;exact⟨rfl,h,Fr.refl _ _⟩}
def bC(σ:Tbl)(i:Nat):Nat×Bool:=
  if (σ i).up=0 then(0,false) else if (σ (σ i).up).k0=i then(0,true) else if (σ (σ i).up).k1=i then(1,true) else(0,false)
def aR(n:Nd)(s k:Nat):Nd:=if s=0 then { n with k0:=k } else { n with k1:=k }
def kid(n:Nd)(s:Nat):Nat:=if s=0 then n.k0 else n.k1
def hang(σ:Tbl)(i s k:Nat):Tbl:=
  let σ1:=σ.upd i (aR (σ i) s k)
  if k=0 then σ1 else σ1.upd k { σ1 k with up:=i }
theorem sC{w:World}{pf g N cap:Nat}{σ:Tbl}{ed:Int}(h:aC w pf g N cap σ ed)(i:Nat)(hi:i<N)(hR:InR N σ):
    Calls Tryz.prog 199 #[.pointer (some ⟨pf,0,none⟩),.int .i64 i] w fun e w' =>e=.returned (.tuple #[.int .i64 (bC σ i).1,.bool (bC σ i).2])/\w' =w:=by
 have c1:=h.hd.cell 1;simp only[zS,zT]at c1;have hN:=h.le;have a2:=h.nodes.c2 i hi;have hp:=(hR i hi).2.2.1;have hi2:(i:Int)<N:=by omega
 have HR:=qB hR;clear hR;have hs:bC σ i=if (σ i).up=0 then(0,false) else if (σ (σ i).up).k0=i then(0,true) else if (σ (σ i).up).k1=i then(1,true) else(0,false):=rfl;generalize hpp:(σ i).up=p at *;have Hs:=qB hs;clear hs;by_cases hp0:p=0
 {
 subst hp0;rw[Hs.out,qI rfl];clear Hs;go_enter Tryz.func199,Tryz.ntmps199
 go_wp2
 go_ret2;exact⟨rfl,rfl⟩}
 {
 have hp2:(p:Int)<N:=by omega
 have hb0:((p:Int) == 0)=false:=zA.2 (by omega);have b0:=h.nodes.c0 p hp;have b1:=h.nodes.c1 p hp;have Hp0:=qB hp0;clear hp0;go_enter Tryz.func199,Tryz.ntmps199
 go_wp2
 clear a2 b0 b1 c1;go_loopw [27] (fun x wr=>∃t:Nat,t<=2/\x=.int .i64 t/\wr=w/\(0<t->(σ p).k0≠i)/\(1<t->(σ p).k1≠i)) (fun x _=>2-(intOf x).toNat)
 case atStart=>exact⟨0,by omega,rfl,rfl,by omega,by omega⟩
 case round=>
  obtain⟨t,ht,rfl,rfl,he0,he1⟩:=hrel;by_cases hlt:t<2
  {
  obtain⟨k,hix,hkN,hy,hn0,hn1⟩:∃k:Nat,(∀W:World,(Instr.index 189 (.agg #[.int .i64 (σ p).k0,.int .i64 (σ p).k1]) (.int .i64 t)).run Tryz.prog W=.ok (.int .i64 k) W)/\k<N/\(k=i->bC σ i=(t,true))/\(k≠i->0<t+1->(σ p).k0≠i)/\(k≠i->1<t+1->(σ p).k1≠i):=by {
  rcases(show t=0∨t=1 by omega) with rfl|rfl
  · exact⟨(σ p).k0,fun W=>sA _ _ W,(HR.out p hp).1,fun e=>by rw[Hs.out,qH Hp0.out,qI e],fun e _=>e,fun _ e=>by omega⟩
  · exact⟨(σ p).k1,fun W=>sB _ _ W,(HR.out p hp).2.1,fun e=>by rw[Hs.out,qH Hp0.out,qH (he0 (by decide)),qI e],fun _ _=>he0 (by decide),fun e _=>e⟩};have Hy:=qB hy;clear hy;have Hn0:=qB hn0;clear hn0;have Hn1:=qB hn1;clear hn1;clear he0 he1;by_cases hki:k=i
  {
  have hb:((k:Int) == (i:Int))=true:=beq_iff_eq.2 (by omega);go_wp2
  go_ret2;rw[Hy.out hki];exact⟨rfl,rfl⟩}
  {
  have hb:((k:Int) == (i:Int))=false:=zA.2 (by omega);go_wp2
  exact⟨⟨t+1,by omega,by go_num,trivial,Hn0.out hki,Hn1.out hki⟩,by simp[intOf];omega⟩}}
  {
  obtain rfl:t=2:=by omega
  have hs:bC σ i=(0,false):=by rw[Hs.out,qH Hp0.out,qH (he0 (by decide)),qH (he1 (by decide))]
  have Hs' :=qB hs;clear hs;clear Hs he0 he1;go_wp2
  go_ret2;rw[Hs'.out];exact⟨rfl,rfl⟩}}
theorem lH{w:World}{pf g N cap:Nat}{σ:Tbl}{ed:Int}(h:aC w pf g N cap σ ed)(i s k:Nat)(hi:i<N)(hs:s<2)(hk:k<N):
    Calls Tryz.prog 223 #[.pointer (some ⟨pf,0,none⟩),.int .i64 i,.int .i64 s,.int .i64 k] w fun e w' =>e=.returned (.tuple #[])/\aC w' pf g N cap (hang σ i s k) ed/\Fr [g] w w' :=by
 have c1:=h.hd.cell 1;simp only[zS,zT]at c1;have hN:=h.le;have hfz:=h.nodes.frozen;have hi2:(i:Int)<N:=by omega
 have hk2:(k:Int)<N:=by omega
 have key:∀W1:World,aC W1 pf g N cap (σ.upd i (aR (σ i) s k)) ed/\Fr [g] w W1->(k=0->aC W1 pf g N cap (hang σ i s k) ed/\Fr [g] w W1)/\(k≠0->aC (W1.setCell ⟨g,k*9+2,none⟩ (.int .i64 i)) pf g N cap (hang σ i s k) ed/\Fr [g] w (W1.setCell ⟨g,k*9+2,none⟩ (.int .i64 i))):=by {
 intro W1 ⟨h1,f1⟩;constructor
 · intro e;unfold hang;rw[qI e];exact⟨h1,f1⟩
 · intro e;unfold hang;rw[qH e];exact h1.st2 f1 hk i};have Key:=qB key;clear key;rcases(show s=0∨s=1 by omega) with rfl|rfl
 {
 obtain⟨h1,f1⟩:=h.st0 (Fr.refl _ _) hi k;have a0:=h.nodes.c0 i hi;have K:=qB (Key.out _ ⟨h1,f1⟩);clear Key f1;by_cases hk0:k=0
 {
 have r:=K.out.1 hk0;clear K h1;subst hk0;go_enter Tryz.func223,Tryz.ntmps223
 go_wp2
 go_end0
 exact⟨rfl,r⟩}
 {
 have hb0:((k:Int) == 0)=false:=zA.2 (by omega);have hfz1:=h1.nodes.frozen;have d1:=h1.hd.cell 1;simp only[zS,zT]at d1;have b2:=h1.nodes.c2 k hk;have r:=K.out.2 hk0;clear K h1;go_enter Tryz.func223,Tryz.ntmps223
 go_wp2
 go_end0
 exact⟨rfl,r⟩}}
 {
 obtain⟨h1,f1⟩:=h.st1 (Fr.refl _ _) hi k;have a0:=h.nodes.c1 i hi;have K:=qB (Key.out _ ⟨h1,f1⟩);clear Key f1;by_cases hk0:k=0
 {
 have r:=K.out.1 hk0;clear K h1;subst hk0;go_enter Tryz.func223,Tryz.ntmps223
 go_wp2
 go_end0
 exact⟨rfl,r⟩}
 {
 have hb0:((k:Int) == 0)=false:=zA.2 (by omega);have hfz1:=h1.nodes.frozen;have d1:=h1.hd.cell 1;simp only[zS,zT]at d1;have b2:=h1.nodes.c2 k hk;have r:=K.out.2 hk0;clear K h1;go_enter Tryz.func223,Tryz.ntmps223
 go_wp2
 go_end0
 exact⟨rfl,r⟩}}
def rot1(σ:Tbl)(i:Nat):Tbl:=
  if (bC σ (σ i).up).2 then hang σ (σ (σ i).up).up (bC σ (σ i).up).1 i else σ.upd i { σ i with up:=(σ (σ i).up).up }
def xK(σ:Tbl)(i:Nat):Tbl:=hang (rot1 σ i) (σ i).up (bC σ i).1 (kid (rot1 σ i i) (1-(bC σ i).1))
def dN(σ:Tbl)(i:Nat):Tbl:=hang (xK σ i) i (1-(bC σ i).1) (σ i).up
def rotate(σ:Tbl)(i:Nat):Tbl:=refresh (refresh (dN σ i) (σ i).up) i
theorem Fr.then{g:Nat}{a b c:World}(h:Fr [g] a b)(h' :Fr [g] b c):Fr [g] a c:=h.trans h' (fun _ h=>.inl h)
theorem yJ(σ:Tbl)(i:Nat):(bC σ i).1<2:=by unfold bC;split<;>(try split)<;>(try split)<;>decide
theorem InR.upd{N:Nat}{σ:Tbl}(h:InR N σ){i:Nat}{n:Nd}(hn:n.k0<N/\n.k1<N/\n.up<N/\n.first<N):InR N (σ.upd i n):=by
 intro j hj;by_cases e:j=i
 · subst e;rw[aK];exact hn
 · rw[aF e];exact h j hj
theorem InR.hang{N:Nat}{σ:Tbl}(h:InR N σ){i s k:Nat}(hi:i<N)(hk:k<N):InR N (hang σ i s k):=by
 have h1:InR N (σ.upd i (aR (σ i) s k)):=by {
 refine h.upd ?_;unfold aR;have:=h i hi;split
 · exact⟨hk,this.2⟩
 · exact⟨this.1,hk,this.2.2⟩};unfold Proofs.YtgmnemndjjmgkaaGreat.hang;dsimp only
 split
 · exact h1
 · exact h1.upd ⟨(h1 k hk).1,(h1 k hk).2.1,hi,(h1 k hk).2.2.2⟩
theorem InR.refresh{N:Nat}{σ:Tbl}(h:InR N σ){i:Nat}(hi:i<N)(h0:(σ i).k0≠i)(h1:(σ i).k1≠i):InR N (refresh σ i):=aDH h hi h0 h1 2
theorem InR.kid{N:Nat}{σ:Tbl}(h:InR N σ){i:Nat}(hi:i<N)(s:Nat):kid (σ i) s<N:=by
 unfold Proofs.YtgmnemndjjmgkaaGreat.kid;split
 · exact(h i hi).1
 · exact(h i hi).2.1
theorem InR.rot1{N:Nat}{σ:Tbl}(h:InR N σ){i:Nat}(hi:i<N):InR N (rot1 σ i):=by
 have hp:=(h i hi).2.2.1;have hg:=(h _ hp).2.2.1;unfold Proofs.YtgmnemndjjmgkaaGreat.rot1;split
 · exact h.hang hg hi
 · exact h.upd ⟨(h i hi).1,(h i hi).2.1,hg,(h i hi).2.2.2⟩
theorem aH{σ:Tbl}{i j:Nat}:(refresh σ i j).k0=(σ j).k0/\(refresh σ i j).k1=(σ j).k1/\(refresh σ i j).up=(σ j).up/\(refresh σ i j).flip=(σ j).flip/\(refresh σ i j).key=(σ j).key/\(refresh σ i j).light=(σ j).light:=by
 unfold refresh aGK;have a:=@iT (aX (dW σ i) i (σ i).k0) i (σ i).k1 j;have b:=@iT (dW σ i) i (σ i).k0 j;have c:(dW σ i j).k0=(σ j).k0/\(dW σ i j).k1=(σ j).k1/\(dW σ i j).up=(σ j).up/\(dW σ i j).flip=(σ j).flip/\(dW σ i j).key=(σ j).key/\(dW σ i j).light=(σ j).light:=by {
 by_cases e:j=i
 · subst e;simp[dW,aK]
 · simp[dW,aF e]};refine⟨a.1.trans (b.1.trans c.1),a.2.1.trans (b.2.1.trans c.2.1),a.2.2.1.trans (b.2.2.1.trans c.2.2.1),a.2.2.2.1.trans (b.2.2.2.1.trans c.2.2.2.1),a.2.2.2.2.1.trans (b.2.2.2.2.1.trans c.2.2.2.2.1),a.2.2.2.2.2.trans (b.2.2.2.2.2.trans c.2.2.2.2.2)⟩
theorem dE{σ:Tbl}{i j:Nat}(h:j≠i):refresh σ i j=σ j:=by
 show aX (aX (dW σ i) i (σ i).k0) i (σ i).k1 j=_
 rw[gI h,gI h,dW,aF h]
theorem mP{w:World}{pf g N cap:Nat}{σ:Tbl}{ed:Int}(h:aC w pf g N cap σ ed)(i:Nat)(hi:i<N)(hR:InR N σ)
    (q0:(dN σ i (σ i).up).k0≠(σ i).up) (q1:(dN σ i (σ i).up).k1≠(σ i).up) (q2:(dN σ i i).k0≠i) (q3:(dN σ i i).k1≠i):
    Calls Tryz.prog 202 #[.pointer (some ⟨pf,0,none⟩),.int .i64 i] w fun e w' =>e=.returned (.tuple #[])/\aC w' pf g N cap (rotate σ i) ed/\Fr [g] w w' :=by
 have c1:=h.hd.cell 1;simp only[zS,zT]at c1;have hN:=h.le;have hi2:(i:Int)<N:=by omega
 have hp:=(hR i hi).2.2.1;have hp2:((σ i).up:Int)<N:=by omega
 have hg:=(hR _ hp).2.2.1;have a2:=h.nodes.c2 i hi;have b2:=h.nodes.c2 _ hp;have hfz:=h.nodes.frozen;have hR1:=hR.rot1 hi;have hs:=yJ σ i;have hs' :=yJ σ (σ i).up;have hR2:InR N (xK σ i):=hR1.hang hp (hR1.kid hi _);have hR3:InR N (dN σ i):=hR2.hang hi hp;have HR:=qB hR;clear hR;have HR1:=qB hR1;clear hR1;have HR2:=qB hR2;clear hR2;have HR3:=qB hR3;clear hR3;have Q:=qB (zR (zR q0 q1) (zR q2 q3));clear q0 q1 q2 q3;have Hst:=qB (h.st2 (Fr.refl _ _) hi (σ (σ i).up).up);have hr1t:(bC σ (σ i).up).2=true->rot1 σ i=hang σ (σ (σ i).up).up (bC σ (σ i).up).1 i:=fun e=>by unfold rot1;rw[qI e]
 have hr1f:(bC σ (σ i).up).2=false->rot1 σ i=σ.upd i { σ i with up:=(σ (σ i).up).up }:=fun e=>by unfold rot1;rw[qH (by simp[e])]
 have Hr1t:=qB hr1t;clear hr1t;have Hr1f:=qB hr1f;clear hr1f;have Hr2:=qB (show xK σ i=hang (rot1 σ i) (σ i).up (bC σ i).1 (kid (rot1 σ i i) (1-(bC σ i).1)) from rfl);have Hr3:=qB (show dN σ i=hang (xK σ i) i (1-(bC σ i).1) (σ i).up from rfl);have s1:=sC h i hi HR.out;have s2:=sC h (σ i).up hp HR.out;have hh:=fun s (hs:s<2)=>lH h (σ (σ i).up).up s i hg hs hi;generalize hsi:bC σ i=si at *;generalize hsp:bC σ (σ i).up=sp at *;obtain⟨s,ok⟩:=si;obtain⟨s', b⟩:=sp;dsimp only at s1 s2 hs hs' Hr1t Hr1f Hr2 Hr3
 clear hsi hsp;have S1:=qB s1;clear s1;have S2:=qB s2;clear s2;have Hh:=qB (hh s' hs');clear hh hs';generalize hτ1:rot1 σ i=τ1 at *;generalize hτ2:xK σ i=τ2 at *;generalize hτ3:dN σ i=τ3 at *;have Hrot:=qB (show rotate σ i=refresh (refresh τ3 (σ i).up) i by rw[<-hτ3];rfl);clear hτ1 hτ2 hτ3;rcases(show s=0∨s=1 by omega) with rfl|rfl
 {
 have Hr2:=qB (show τ2=hang τ1 (σ i).up 0 (τ1 i).k1 from Hr2.out);have Hr3:=qB (show τ3=hang τ2 i 1 (σ i).up from Hr3.out);cases b with
 | true=>{
 have hr:=Hr1t.out rfl;have Hr:=qB hr;clear hr Hr1t Hr1f Hst;go_enter Tryz.func202,Tryz.ntmps202
 go_wp2_with fail
 refine S1.out.mono ?_;rintro _ _ ⟨rfl,rfl⟩;go_wp2_with fail
 refine S2.out.mono ?_;rintro _ _ ⟨rfl,rfl⟩;go_wp2_with fail
 refine Hh.out.mono ?_;rintro _ w1 ⟨rfl,hL1,hF1⟩;rw[<-Hr.out]at hL1;have k0:=hL1.nodes.c0 i hi;have k1:=hL1.nodes.c1 i hi;have u2:=hL1.nodes.c2 i hi;have hfz1:=hL1.nodes.frozen;have d1:=hL1.hd.cell 1;simp only[zS,zT]at d1;go_wp2_with fail
 refine(lH hL1 (σ i).up 0 (τ1 i).k1 hp (by decide) (HR1.out i hi).2.1).mono ?_;rintro _ w2 ⟨rfl,hL2,hF2⟩;rw[<-Hr2.out]at hL2;clear hfz1 k0 k1 d1 hL1 u2;go_wp2_with fail
 refine(lH hL2 i 1 (σ i).up hi (by decide) hp).mono ?_;rintro _ w3 ⟨rfl,hL3,hF3⟩;rw[<-Hr3.out]at hL3;clear hL2;go_wp2_with fail
 refine(eF hL3 (σ i).up hp HR3.out Q.out.1.1 Q.out.1.2).mono ?_;rintro _ w4 ⟨rfl,hL4,hF4⟩;clear hL3;go_wp2_with fail
 refine(eF hL4 i hi (HR3.out.refresh hp Q.out.1.1 Q.out.1.2) (by rw[aH.1];exact Q.out.2.1) (by rw[aH.2.1];exact Q.out.2.2)).mono ?_;rintro _ w5 ⟨rfl,hL5,hF5⟩;clear hL4;go_wp2
 go_end0
 rw[<-Hrot.out]at hL5;exact⟨rfl,hL5,hF1.then (hF2.then (hF3.then (hF4.then hF5)))⟩}
 | false=>{
 have hr:=Hr1f.out rfl;have hst:=Hst.out;rw[<-hr]at hst;obtain⟨hL1,hF1⟩:=hst;clear hr Hr1t Hr1f Hst;go_enter Tryz.func202,Tryz.ntmps202
 go_wp2_with fail
 refine S1.out.mono ?_;rintro _ _ ⟨rfl,rfl⟩;go_wp2_with fail
 refine S2.out.mono ?_;rintro _ _ ⟨rfl,rfl⟩;have k0:=hL1.nodes.c0 i hi;have k1:=hL1.nodes.c1 i hi;have u2:=hL1.nodes.c2 i hi;have hfz1:=hL1.nodes.frozen;have d1:=hL1.hd.cell 1;simp only[zS,zT]at d1;go_wp2_with fail
 refine(lH hL1 (σ i).up 0 (τ1 i).k1 hp (by decide) (HR1.out i hi).2.1).mono ?_;rintro _ w2 ⟨rfl,hL2,hF2⟩;rw[<-Hr2.out]at hL2;clear hfz1 k0 k1 d1 hL1 u2;go_wp2_with fail
 refine(lH hL2 i 1 (σ i).up hi (by decide) hp).mono ?_;rintro _ w3 ⟨rfl,hL3,hF3⟩;rw[<-Hr3.out]at hL3;clear hL2;go_wp2_with fail
 refine(eF hL3 (σ i).up hp HR3.out Q.out.1.1 Q.out.1.2).mono ?_;rintro _ w4 ⟨rfl,hL4,hF4⟩;clear hL3;go_wp2_with fail
 refine(eF hL4 i hi (HR3.out.refresh hp Q.out.1.1 Q.out.1.2) (by rw[aH.1];exact Q.out.2.1) (by rw[aH.2.1];exact Q.out.2.2)).mono ?_;rintro _ w5 ⟨rfl,hL5,hF5⟩;clear hL4;go_wp2
 go_end0
 rw[<-Hrot.out]at hL5;exact⟨rfl,hL5,hF1.then (hF2.then (hF3.then (hF4.then hF5)))⟩}}
 {
 have Hr2:=qB (show τ2=hang τ1 (σ i).up 1 (τ1 i).k0 from Hr2.out);have Hr3:=qB (show τ3=hang τ2 i 0 (σ i).up from Hr3.out);cases b with
 | true=>{
 have hr:=Hr1t.out rfl;have Hr:=qB hr;clear hr Hr1t Hr1f Hst;go_enter Tryz.func202,Tryz.ntmps202
 go_wp2_with fail
 refine S1.out.mono ?_;rintro _ _ ⟨rfl,rfl⟩;go_wp2_with fail
 refine S2.out.mono ?_;rintro _ _ ⟨rfl,rfl⟩;go_wp2_with fail
 refine Hh.out.mono ?_;rintro _ w1 ⟨rfl,hL1,hF1⟩;rw[<-Hr.out]at hL1;have k0:=hL1.nodes.c0 i hi;have k1:=hL1.nodes.c1 i hi;have u2:=hL1.nodes.c2 i hi;have hfz1:=hL1.nodes.frozen;have d1:=hL1.hd.cell 1;simp only[zS,zT]at d1;go_wp2_with fail
 refine(lH hL1 (σ i).up 1 (τ1 i).k0 hp (by decide) (HR1.out i hi).1).mono ?_;rintro _ w2 ⟨rfl,hL2,hF2⟩;rw[<-Hr2.out]at hL2;clear hfz1 k0 k1 d1 hL1 u2;go_wp2_with fail
 refine(lH hL2 i 0 (σ i).up hi (by decide) hp).mono ?_;rintro _ w3 ⟨rfl,hL3,hF3⟩;rw[<-Hr3.out]at hL3;clear hL2;go_wp2_with fail
 refine(eF hL3 (σ i).up hp HR3.out Q.out.1.1 Q.out.1.2).mono ?_;rintro _ w4 ⟨rfl,hL4,hF4⟩;clear hL3;go_wp2_with fail
 refine(eF hL4 i hi (HR3.out.refresh hp Q.out.1.1 Q.out.1.2) (by rw[aH.1];exact Q.out.2.1) (by rw[aH.2.1];exact Q.out.2.2)).mono ?_;rintro _ w5 ⟨rfl,hL5,hF5⟩;clear hL4;go_wp2
 go_end0
 rw[<-Hrot.out]at hL5;exact⟨rfl,hL5,hF1.then (hF2.then (hF3.then (hF4.then hF5)))⟩}
 | false=>{
 have hr:=Hr1f.out rfl;have hst:=Hst.out;rw[<-hr]at hst;obtain⟨hL1,hF1⟩:=hst;clear hr Hr1t Hr1f Hst;go_enter Tryz.func202,Tryz.ntmps202
 go_wp2_with fail
 refine S1.out.mono ?_;rintro _ _ ⟨rfl,rfl⟩;go_wp2_with fail
 refine S2.out.mono ?_;rintro _ _ ⟨rfl,rfl⟩;have k0:=hL1.nodes.c0 i hi;have k1:=hL1.nodes.c1 i hi;have u2:=hL1.nodes.c2 i hi;have hfz1:=hL1.nodes.frozen;have d1:=hL1.hd.cell 1;simp only[zS,zT]at d1;go_wp2_with fail
 refine(lH hL1 (σ i).up 1 (τ1 i).k0 hp (by decide) (HR1.out i hi).1).mono ?_;rintro _ w2 ⟨rfl,hL2,hF2⟩;rw[<-Hr2.out]at hL2;clear hfz1 k0 k1 d1 hL1 u2;go_wp2_with fail
 refine(lH hL2 i 0 (σ i).up hi (by decide) hp).mono ?_;rintro _ w3 ⟨rfl,hL3,hF3⟩;rw[<-Hr3.out]at hL3;clear hL2;go_wp2_with fail
 refine(eF hL3 (σ i).up hp HR3.out Q.out.1.1 Q.out.1.2).mono ?_;rintro _ w4 ⟨rfl,hL4,hF4⟩;clear hL3;go_wp2_with fail
 refine(eF hL4 i hi (HR3.out.refresh hp Q.out.1.1 Q.out.1.2) (by rw[aH.1];exact Q.out.2.1) (by rw[aH.2.1];exact Q.out.2.2)).mono ?_;rintro _ w5 ⟨rfl,hL5,hF5⟩;clear hL4;go_wp2
 go_end0
 rw[<-Hrot.out]at hL5;exact⟨rfl,hL5,hF1.then (hF2.then (hF3.then (hF4.then hF5)))⟩}}
inductive BT where
  | nil
  | node (f:Bool) (l:BT) (v:Nat) (r:BT)
namespace BT
def root:BT->Nat
  | nil=>0
  | node _ _ v _=>v
def nodes:BT->List Nat
  | nil=>[]
  | node _ l v r=>l.nodes++v::r.nodes
def seq:BT->List Nat
  | nil=>[]
  | node f l v r=>if f then(l.seq++v::r.seq).reverse else l.seq++v::r.seq
def flip:BT->BT
  | nil=>nil
  | node f l v r=>node (!f) l v r
theorem seq_flip(t:BT):t.flip.seq=t.seq.reverse:=by
 cases t with
 | nil=>rfl
 | node f l v r=>cases f<;>simp[flip,seq]
theorem nodes_flip(t:BT):t.flip.nodes=t.nodes:=by cases t<;>rfl
theorem root_flip(t:BT):t.flip.root=t.root:=by cases t<;>rfl
theorem seq_perm(t:BT):t.seq.Perm t.nodes:=by
 induction t with
 | nil=>exact .nil
 | node f l v r hl hr=>{
 have h:(l.seq++v::r.seq).Perm (l.nodes++v::r.nodes):=hl.append (hr.cons v);cases f with
 | false=>simpa[seq,nodes] using h
 | true=>simp only[seq,nodes,if_true];exact(List.reverse_perm _).trans h}
theorem root_mem{t:BT}(h:t.root≠0):t.root∈t.nodes:=by
 cases t with
 | nil=>exact absurd rfl h
 | node f l v r=>simp[root,nodes]
end BT
def tot(σ:Tbl)(l:List Nat):Int:=(l.map fun v=>1+(σ v).light).sum
def fG(σ:Tbl)(l:List Nat)(x:Nat):Prop:=x∈l/\∀y∈l,y≠x->bR σ x y=true
def Rep(σ:Tbl):BT->Nat->Prop
  | .nil,_=>True
  | .node f l v r,u=>(v≠0/\(σ v).up=u/\(σ v).flip=f/\(σ v).k0=l.root/\(σ v).k1=r.root)/\Rep σ l v/\Rep σ r v /\
      (σ v).size=wrap64 (BT.node f l v r).nodes.length/\(σ v).total=wrap64 (tot σ (BT.node f l v r).nodes)/\fG σ (BT.node f l v r).nodes (σ v).first
theorem cJ{σ σ' :Tbl}{l:List Nat}(h:∀x∈l,(σ' x).light=(σ x).light):tot σ' l=tot σ l:=by
 unfold tot;congr 1;exact List.map_congr_left (fun x hx=>by rw[h x hx])
theorem mQ{σ:Tbl}{l m:List Nat}(h:l.Perm m):tot σ l=tot σ m:=by
 unfold tot;induction h with
 | nil=>rfl
 | cons x _ ih=>simp[ih]
 | swap x y l=>simp;omega
 | trans _ _ h1 h2=>exact h1.trans h2
theorem dP{σ σ' :Tbl}{l:List Nat}{x:Nat}(h:∀x∈l,(σ' x).key=(σ x).key)(hb:fG σ l x):fG σ' l x:=by
 refine⟨hb.1,fun y hy hne=>?_⟩;have:=hb.2 y hy hne;unfold bR at this ⊢;rw[h x hb.1,h y hy];exact this
theorem Rep.congr{σ σ' :Tbl}:∀{t:BT} {u:Nat},(∀x∈t.nodes,σ' x=σ x)->Rep σ t u->Rep σ' t u
  | .nil,_,_,_=>trivial
  | .node f l v r,u,h,⟨h1,hl,hr,h2,h3,h4⟩=>by
    have hv:=h v (by simp[BT.nodes]);refine⟨by rw[hv];exact h1,hl.congr (fun x hx=>h x (by simp[BT.nodes,hx])),hr.congr (fun x hx=>h x (by simp[BT.nodes,hx])),by rw[hv];exact h2,?_,?_⟩
    · rw[hv,cJ (fun x hx=>by rw[h x hx])];exact h3
    · rw[hv];exact dP (fun x hx=>by rw[h x hx]) h4
theorem Rep.reup{σ σ' :Tbl}{t:BT}{u u' :Nat}(h:Rep σ t u)(hnd:t.nodes.Nodup)(ho:∀x∈t.nodes,x≠t.root->σ' x=σ x)(hr:t.root≠0->σ' t.root={ σ t.root with up:=u' }):Rep σ' t u' :=by
 cases t with
 | nil=>trivial
 | node f l v r=>{
 obtain⟨h1,hl,hrr,h2,h3,h4⟩:=h;have hv:σ' v={ σ v with up:=u' }:=hr h1.1;have hnl:∀x∈l.nodes,x≠v:=by {
 intro x hx e;subst e;simp only[BT.nodes]at hnd;exact(qW.1 hnd).2.2 x hx x (by simp) rfl};have hnr:∀x∈r.nodes,x≠v:=by {
 intro x hx e;subst e;simp only[BT.nodes]at hnd;exact(qX.1 (qW.1 hnd).2.1).1 hx};have hlk:∀x∈(BT.node f l v r).nodes,(σ' x).light=(σ x).light/\(σ' x).key=(σ x).key:=by {
 intro x hx;by_cases e:x=v
 · subst e;rw[hv];exact⟨rfl,rfl⟩
 · rw[ho x hx e];exact⟨rfl,rfl⟩};refine⟨by rw[hv];exact⟨h1.1,rfl,h1.2.2⟩,hl.congr (fun x hx=>ho x (by simp[BT.nodes,hx]) (hnl x hx)),hrr.congr (fun x hx=>ho x (by simp[BT.nodes,hx]) (hnr x hx)),by rw[hv];exact h2,?_,?_⟩
 · rw[hv,cJ (fun x hx=>(hlk x hx).1)];exact h3
 · rw[hv];exact dP (fun x hx=>(hlk x hx).2) h4}
theorem vC(a b:Int):wrap64 (wrap64 a+wrap64 b)=wrap64 (a+b):=by unfold wrap64;omega
theorem aBC{σ:Tbl}{x y:Nat}(h:x≠y):bR σ x y= !bR σ y x:=by
 unfold bR;by_cases h1:(σ x).key<(σ y).key
 {
 have h2:¬(σ y).key<(σ x).key:=by omega
 have h3:¬(σ y).key=(σ x).key:=by omega
 simp[h1,h2,h3]}
 {
 by_cases h2:(σ y).key<(σ x).key
 {
 have h3:¬(σ x).key=(σ y).key:=by omega
 simp[h1,h2,h3]}
 {
 have h3:(σ x).key=(σ y).key:=by omega
 by_cases h4:x<y
 {
 have:¬y<x:=by omega
 simp[h3,h4,this]}
 {
 have:y<x:=by omega
 simp[h3,h4,this]}}}
theorem pS{σ:Tbl}{x y z:Nat}(h1:bR σ x y=true)(h2:bR σ y z=true):bR σ x z=true:=by
 unfold bR at *;simp only[Bool.or_eq_true,zG,decide_eq_true_eq]at *;omega
theorem aKU{σ:Tbl}{l m:List Nat}{x y:Nat}(hx:fG σ l x)(hy:fG σ m y):fG σ (l++m) (if bR σ y x then y else x):=by
 by_cases hb:bR σ y x=true
 {
 rw[qI hb];refine⟨by simp[hy.1],fun z hz hne=>?_⟩;rcases qJ.1 hz with hz|hz
 {
 by_cases e:z=x
 · rw[e];exact hb
 · exact pS hb (hx.2 z hz e)}
 · exact hy.2 z hz hne}
 {
 rw[qH hb];refine⟨by simp[hx.1],fun z hz hne=>?_⟩;rcases qJ.1 hz with hz|hz
 · exact hx.2 z hz hne
 {
 by_cases e:x=y
 · exact hy.2 z hz (by rw[<-e];exact hne) |> fun h=>by rw[e];exact h
 {
 have hxy:bR σ x y=true:=by rw[aBC e];simpa using hb
 by_cases e' :z=y
 · rw[e'];exact hxy
 · exact pS hxy (hy.2 z hz e')}}}
theorem kH{σ:Tbl}{l m:List Nat}{x:Nat}(h:l.Perm m)(hx:fG σ l x):fG σ m x:=
  ⟨h.mem_iff.1 hx.1,fun y hy=>hx.2 y (h.mem_iff.2 hy)⟩
theorem vD{σ:Tbl}{i:Nat}{k:BT}{l:List Nat}(hi:i∉k.nodes)(hk:Rep σ k i)(hsz:(σ i).size=wrap64 l.length)(htot:(σ i).total=wrap64 (tot σ l))(hb:fG σ l (σ i).first):
    (aX σ i k.root i).size=wrap64 (l++k.nodes).length/\(aX σ i k.root i).total=wrap64 (tot σ (l++k.nodes))/\fG σ (l++k.nodes) (aX σ i k.root i).first:=by
 cases k with
 | nil=>simpa[aX,BT.root,BT.nodes] using ⟨hsz,htot,hb⟩
 | node f a v b=>{
 obtain⟨h1,_,_,h2,h3,h4⟩:=hk;have hvi:v≠i:=by rintro rfl;exact hi (by simp[BT.nodes])
 have hj:=aKU hb h4;have hbef:∀τ:Tbl,(∀x,(τ x).key=(σ x).key)->∀x y,bR τ x y=bR σ x y:=by intro τ hτ x y;unfold bR;rw[hτ,hτ]
 have hfirst:(aX σ i v i).first=if bR σ (σ v).first (σ i).first then(σ v).first else(σ i).first:=by {
 unfold aX;rw[qH h1.1];simp only[aK,aF hvi];rw[hbef _ (fun x=>by by_cases e:x=i<;>simp[Tbl.upd,e])];split<;>simp[aK]};have hsize:(aX σ i v i).size=wrap64 ((σ i).size+(σ v).size)/\(aX σ i v i).total=wrap64 ((σ i).total+(σ v).total):=by {
 unfold aX;rw[qH h1.1];simp only[aK,aF hvi];split<;>simp[aK]};show(aX σ i v i).size=_/\(aX σ i v i).total=_/\fG σ _ (aX σ i v i).first
 refine⟨?_,?_,?_⟩
 · rw[hsize.1,hsz,h2,vC,zO,Int.natCast_add]
 · rw[hsize.2,htot,h3,vC];unfold tot;rw[List.map_append,List.sum_append]
 · rw[hfirst];exact hj}
theorem eA{σ:Tbl}{f:Bool}{l r:BT}{v u:Nat}(hv:v≠0)(hup:(σ v).up=u)(hf:(σ v).flip=f)(h0:(σ v).k0=l.root)(h1:(σ v).k1=r.root)(hl:Rep σ l v)(hr:Rep σ r v)(nl:v∉l.nodes)(nr:v∉r.nodes):
    Rep (refresh σ v) (.node f l v r) u:=by
 have hlk:=@aH σ v v;have hc:∀x,x≠v->refresh σ v x=σ x:=fun x hx=>dE hx;have key:(refresh σ v v).size=wrap64 (([v]++l.nodes)++r.nodes).length/\(refresh σ v v).total=wrap64 (tot σ (([v]++l.nodes)++r.nodes))/\fG σ (([v]++l.nodes)++r.nodes) (refresh σ v v).first:=by {
 have a:=vD (σ:=dW σ v) (i:=v) (k:=l) (l:=[v]) nl (hl.congr (fun x hx=>by rw[dW,aF (by rintro rfl;exact nl hx)])) (by simp[dW,aK,wrap64]) (by simp[dW,aK,tot]) (by simp[dW,aK,fG]);have hk0:∀x,(dW σ v x).light=(σ x).light/\(dW σ v x).key=(σ x).key:=by {
 intro x;by_cases e:x=v
 · subst e;simp[dW,aK]
 · simp[dW,aF e]};have hk1:∀x,(aX (dW σ v) v l.root x).light=(σ x).light/\(aX (dW σ v) v l.root x).key=(σ x).key:=by {
 intro x;have:=@iT (dW σ v) v l.root x;exact⟨this.2.2.2.2.2.trans (hk0 x).1,this.2.2.2.2.1.trans (hk0 x).2⟩};have b:=vD (σ:=aX (dW σ v) v l.root) (i:=v) (k:=r) (l:=[v]++l.nodes) nr (hr.congr (fun x hx=>by
   have:x≠v:=by rintro rfl;exact nr hx
   rw[gI this,dW,aF this])) a.1 (by rw[a.2.1,cJ (fun x _=>(hk0 x).1),cJ (σ' :=aX (dW σ v) v l.root) (fun x _=>(hk1 x).1)]) (dP (fun x _=>by rw[(hk1 x).2,(hk0 x).2]) a.2.2)
 have e:refresh σ v=aX (aX (dW σ v) v l.root) v r.root:=by {
 show aX (aX (dW σ v) v (σ v).k0) v (σ v).k1=_
 rw[h0,h1]};rw[e];refine⟨b.1,?_,?_⟩
 · rw[b.2.1,cJ (fun x _=>(hk1 x).1)]
 · exact dP (fun x _=>((hk1 x).2).symm) b.2.2};have hp:(([v]++l.nodes)++r.nodes).Perm (l.nodes++v::r.nodes):=by {
 simp only[zL];exact List.perm_middle.symm};refine⟨⟨hv,by rw[hlk.2.2.1];exact hup,by rw[hlk.2.2.2.1];exact hf,by rw[hlk.1];exact h0,by rw[hlk.2.1];exact h1⟩,hl.congr (fun x hx=>hc x (by rintro rfl;exact nl hx)),hr.congr (fun x hx=>hc x (by rintro rfl;exact nr hx)),?_,?_,?_⟩
 · rw[key.1,hp.length_eq];rfl
 · rw[key.2.1,cJ (σ:=σ) (σ' :=refresh σ v) (fun x _=>aH.2.2.2.2.2),mQ hp];rfl
 · exact dP (fun x _=>aH.2.2.2.2.1) (kH hp key.2.2)
theorem pT{σ:Tbl}{i s k x:Nat}(hik:k≠i):hang σ i s k x=if x=i then aR (σ i) s k else if x=k/\k≠0 then { σ k with up:=i } else σ x:=by
 unfold hang;by_cases hk:k=0
 {
 simp only[qI hk];by_cases e:x=i
 · subst e;rw[aK,qI rfl]
 · rw[aF e,qH e,qH (by simp[hk])]}
 {
 simp only[qH hk];by_cases e:x=k
 · subst e;rw[aK,qH hik,qI ⟨rfl,hk⟩,aF hik]
 {
 rw[aF e];by_cases e' :x=i
 · subst e'; rw[aK,qI rfl]
 · rw[aF e', qH e', qH (by simp[e])]}}
theorem vE(n:Nd)(s k:Nat):kid (aR n s k) s=k:=by unfold kid aR;split<;>rfl
theorem oG{n:Nd}{s s' k:Nat}(hs:s<2)(hs' :s' < 2)(h:s' ≠ s):kid (aR n s k) s' =kid n s' :=by
 unfold kid aR;rcases(show s=0∨s=1 by omega) with rfl|rfl
 · rw[qH h,qH h];simp
 {
 obtain rfl:s' =0:=by omega
 simp}
theorem jS(n:Nd)(s k:Nat):(aR n s k).up=n.up/\(aR n s k).flip=n.flip/\(aR n s k).key=n.key/\(aR n s k).size=n.size/\(aR n s k).first=n.first/\(aR n s k).light=n.light/\(aR n s k).total=n.total:=by
 unfold aR;split<;>simp
theorem aOC(n:Nd)(s u:Nat):kid { n with up:=u } s=kid n s:=rfl
theorem aTH{σ:Tbl}{i p g s s' :Nat}(_hs:s<2)(hp:(σ i).up=p)(hg:(σ p).up=g)(h1:bC σ i=(s,true))(h2:bC σ p=(s', true))(hpi:p≠i)(hgi:g≠i)(hgp:g≠p)(hi0:i≠0)(hp0:p≠0)
    (hki:kid (σ i) (1-s)≠i) (hkp:kid (σ i) (1-s)≠p) (hkg:kid (σ i) (1-s)≠g∨kid (σ i) (1-s)=0) (x:Nat):
    dN σ i x=if x=i then { aR (σ i) (1-s) p with up:=g } else if x=p then { aR (σ p) s (kid (σ i) (1-s)) with up:=i } else if x=g then aR (σ g) s' i else if x=kid (σ i) (1-s)/\kid (σ i) (1-s)≠0 then { σ x with up:=p } else σ x:=by
 have a1:∀x,rot1 σ i x=if x=g then aR (σ g) s' i else if x=i then { σ i with up:=g } else σ x:=by {
 intro x;unfold rot1;rw[hp,h2,hg,qI rfl,pT (fun e=>hgi e.symm)];by_cases e:x=g
 · rw[qI e,qI e]
 {
 rw[qH e,qH e];by_cases e' :x=i
 · rw[qI ⟨e', hi0⟩,qI e']
 · rw[qH (fun h=>e' h.1),qH e']}};have hk1:kid (rot1 σ i i) (1-s)=kid (σ i) (1-s):=by rw[a1,qH (fun e=>hgi e.symm),qI rfl,aOC]
 generalize hk:kid (σ i) (1-s)=k at *;have a2:∀x,xK σ i x=if x=p then aR (σ p) s k else if x=k/\k≠0 then { rot1 σ i k with up:=p } else rot1 σ i x:=by {
 intro x;unfold xK;rw[hp,h1,hk1,pT hkp];have e:rot1 σ i p=σ p:=by rw[a1 p,qH (fun e=>hgp e.symm),qH hpi]
 rw[e]};unfold dN;rw[hp,h1,pT hpi];by_cases e1:x=i
 {
 subst e1;rw[qI rfl,qI rfl,a2,qH (fun e=>hpi e.symm),qH (fun h=>hki h.1.symm),a1,qH (fun e=>hgi e.symm),qI rfl];dsimp only;unfold aR;split<;>rfl}
 {
 rw[qH e1,qH e1];by_cases e2:x=p
 {
 subst e2;rw[qI ⟨rfl,hp0⟩,qI rfl,a2,qI rfl]}
 {
 rw[qH (fun h=>e2 h.1),qH e2,a2,qH e2];by_cases e3:x=k/\k≠0
 {
 have hxg:x≠g:=by {
 intro e;rcases hkg with h|h
 · exact h (e3.1.symm.trans e)
 · exact e3.2 h};rw[qI e3,qH hxg,qI e3,<-e3.1,a1,qH hxg,qH e1]}
 {
 rw[qH e3,a1];by_cases e4:x=g
 · rw[qI e4,qI e4]
 · rw[qH e4,qH e4,qH e1,qH e3]}}}
theorem aOD{σ:Tbl}{i p g s s' :Nat}(_hs:s<2)(hp:(σ i).up=p)(hg:(σ p).up=g)(h1:bC σ i=(s,true))(h2:bC σ p=(s', false))(hpi:p≠i)(hi0:i≠0)(hp0:p≠0)
    (hki:kid (σ i) (1-s)≠i) (hkp:kid (σ i) (1-s)≠p) (x:Nat):
    dN σ i x=if x=i then { aR (σ i) (1-s) p with up:=g } else if x=p then { aR (σ p) s (kid (σ i) (1-s)) with up:=i } else if x=kid (σ i) (1-s)/\kid (σ i) (1-s)≠0 then { σ x with up:=p } else σ x:=by
 have a1:∀x,rot1 σ i x=if x=i then { σ i with up:=g } else σ x:=by {
 intro x;unfold rot1;rw[hp,h2,hg,qH (by simp)];rfl};have hk1:kid (rot1 σ i i) (1-s)=kid (σ i) (1-s):=by rw[a1,qI rfl,aOC]
 generalize hk:kid (σ i) (1-s)=k at *;have a2:∀x,xK σ i x=if x=p then aR (σ p) s k else if x=k/\k≠0 then { rot1 σ i k with up:=p } else rot1 σ i x:=by {
 intro x;unfold xK;rw[hp,h1,hk1,pT hkp];have e:rot1 σ i p=σ p:=by rw[a1 p,qH hpi]
 rw[e]};unfold dN;rw[hp,h1,pT hpi];by_cases e1:x=i
 {
 subst e1;rw[qI rfl,qI rfl,a2,qH (fun e=>hpi e.symm),qH (fun h=>hki h.1.symm),a1,qI rfl];dsimp only;unfold aR;split<;>rfl}
 {
 rw[qH e1,qH e1];by_cases e2:x=p
 {
 subst e2;rw[qI ⟨rfl,hp0⟩,qI rfl,a2,qI rfl]}
 {
 rw[qH (fun h=>e2 h.1),qH e2,a2,qH e2];by_cases e3:x=k/\k≠0
 · rw[qI e3,qI e3,<-e3.1,a1,qH e1]
 · rw[qH e3,a1,qH e1,qH e3]}}
structure Fm where
  s:Bool
  f:Bool
  p:Nat
  o:BT
def Fm.fill(a:Fm)(t:BT):BT:=if a.s then .node a.f a.o a.p t else .node a.f t a.p a.o
def aV:List Fm->BT->BT
  | [],t=>t
  | a::c,t=>aV c (a.fill t)
def pU:List Fm->Nat->Nat
  | [],u=>u
  | a::_,_=>a.p
def sd(b:Bool):Nat:=if b then 1 else 0
def oX(σ:Tbl):List Fm->Nat->List Nat->Nat->Prop
  | [],_,_,_=>True
  | a::c,x,ns,u=>(a.p≠0/\(σ a.p).up=pU c u/\(σ a.p).flip=a.f/\kid (σ a.p) (sd a.s)=x/\kid (σ a.p) (sd !a.s)=a.o.root)/\Rep σ a.o a.p /\
      ((σ a.p).size=wrap64 (ns++a.p::a.o.nodes).length/\(σ a.p).total=wrap64 (tot σ (ns++a.p::a.o.nodes))/\fG σ (ns++a.p::a.o.nodes) (σ a.p).first)/\oX σ c a.p (ns++a.p::a.o.nodes) u
theorem kI(a:Fm)(t:BT):(a.fill t).nodes.Perm (t.nodes++a.p::a.o.nodes):=by
 unfold Fm.fill;cases a.s with
 | false=>exact .refl _
 | true=>{
 simp only[if_true,BT.nodes];refine List.perm_middle.trans (((List.perm_append_comm).cons a.p).trans List.perm_middle.symm)}
theorem kJ(a:Fm)(t:BT):(a.fill t).root=a.p:=by unfold Fm.fill;split<;>rfl
theorem oX.perm{σ:Tbl}:∀{c:List Fm} {x:Nat} {ns ms:List Nat} {u:Nat},ns.Perm ms->oX σ c x ns u->oX σ c x ms u
  | [],_,_,_,_,_,_=>trivial
  | a::c,x,ns,ms,u,hp,⟨h1,h2,⟨h3,h4,h5⟩,h6⟩=>by
    have hq:(ns++a.p::a.o.nodes).Perm (ms++a.p::a.o.nodes):=hp.append_right _;exact⟨h1,h2,⟨by rw[h3,hq.length_eq],by rw[h4,mQ hq],kH hq h5⟩,h6.perm hq⟩
theorem aOE{σ:Tbl}{a:Fm}{t:BT}{u:Nat}:Rep σ (a.fill t) u↔Rep σ t a.p/\(a.p≠0/\(σ a.p).up=u/\(σ a.p).flip=a.f/\kid (σ a.p) (sd a.s)=t.root/\kid (σ a.p) (sd !a.s)=a.o.root)/\Rep σ a.o a.p /\
      ((σ a.p).size=wrap64 (t.nodes++a.p::a.o.nodes).length/\(σ a.p).total=wrap64 (tot σ (t.nodes++a.p::a.o.nodes))/\fG σ (t.nodes++a.p::a.o.nodes) (σ a.p).first):=by
 have hp:=kI a t;obtain⟨s,f,p,o⟩:=a;cases s with
 | false=>{
 simp only[Fm.fill,Rep,kid,sd,Bool.not_false,if_true,Bool.false_eq_true,if_false,BT.nodes,Nat.one_ne_zero];constructor
 · rintro⟨⟨a1,a2,a3,a4,a5⟩,b,c,d⟩;exact⟨b,⟨a1,a2,a3,a4,a5⟩,c,d⟩
 · rintro⟨b,⟨a1,a2,a3,a4,a5⟩,c,d⟩;exact⟨⟨a1,a2,a3,a4,a5⟩,b,c,d⟩}
 | true=>{
 simp only[Fm.fill,if_true,BT.nodes]at hp;simp only[Fm.fill,Rep,kid,sd,Bool.not_true,if_true,Bool.false_eq_true,if_false,BT.nodes,Nat.one_ne_zero];rw[hp.length_eq,mQ hp];constructor
 · rintro⟨⟨a1,a2,a3,a4,a5⟩,b,c,d,e,g⟩;exact⟨c,⟨a1,a2,a3,a5,a4⟩,b,d,e,kH hp g⟩
 · rintro⟨c,⟨a1,a2,a3,a5,a4⟩,b,d,e,g⟩;exact⟨⟨a1,a2,a3,a4,a5⟩,b,c,d,e,kH hp.symm g⟩}
theorem fJ{σ:Tbl}:∀{c:List Fm} {t:BT} {u:Nat},Rep σ (aV c t) u↔Rep σ t (pU c u)/\oX σ c t.root t.nodes u
  | [],t,u=>by simp[aV,pU,oX]
  | a::c,t,u=>by
    simp only[aV,pU,oX];rw[fJ,aOE,kJ];constructor
    · rintro⟨⟨h1,h2,h3,h4⟩,h5⟩;exact⟨h1,h2,h3,h4,h5.perm (kI a t)⟩
    · rintro⟨h1,h2,h3,h4,h5⟩;exact⟨⟨h1,h2,h3,h4⟩,h5.perm (kI a t).symm⟩
def aY:List Fm->List Nat
  | []=>[]
  | a::c=>a.p::a.o.nodes++aY c
def Out(σ:Tbl)(u:Nat)(ns:List Nat):Prop:=u=0∨(u∉ns/\(σ u).k0∉ns/\(σ u).k1∉ns)
theorem yK(b:Bool):sd b<2:=by cases b<;>decide
theorem iU{σ:Tbl}{i p o:Nat}{s:Bool}(_hi:i≠0)(hp:p≠0)(hup:(σ i).up=p)(h1:kid (σ p) (sd s)=i)(h2:kid (σ p) (sd !s)=o)(ho:o≠i):bC σ i=(sd s,true):=by
 unfold bC;rw[hup,qH hp];cases s with
 | false=>simp only[sd,kid]at h1;rw[qI (by simpa using h1)];rfl
 | true=>{
 simp[sd,kid]at h1 h2;rw[qH (by rw[h2];exact ho),qI h1];rfl}
theorem vF{σ:Tbl}{i u:Nat}{ns:List Nat}(hup:(σ i).up=u)(h:Out σ u ns)(hi:i∈ns):bC σ i=(0,false):=by
 unfold bC;rw[hup];rcases h with h|⟨_,h0,h1⟩
 · rw[qI h]
 {
 by_cases e:u=0
 · rw[qI e]
 · rw[qH e,qH (by rintro rfl;exact h0 hi),qH (by rintro rfl;exact h1 hi)]}
def xL(a:Fm)(l:BT)(i:Nat)(r:BT):BT:=if a.s then .node false (.node false a.o a.p l) i r else .node false l i (.node false r a.p a.o)
theorem aOF(a:Fm)(hf:a.f=false)(l:BT)(i:Nat)(r:BT):(xL a l i r).seq=(a.fill (.node false l i r)).seq:=by
 obtain⟨s,f,p,o⟩:=a;subst hf;cases s<;>simp[xL,Fm.fill,BT.seq]
theorem vG(a:Fm)(l:BT)(i:Nat)(r:BT):(xL a l i r).nodes=(a.fill (.node false l i r)).nodes:=by
 obtain⟨s,f,p,o⟩:=a;cases s<;>simp[xL,Fm.fill,BT.nodes]
theorem kK:∀(c:List Fm) {t t' :BT},t.seq=t'.seq->(aV c t).seq=(aV c t').seq
  | [],_,_,h=>h
  | a::c,t,t', h=>kK c (by unfold Fm.fill;split<;>simp[BT.seq,h])
theorem bH:∀(c:List Fm) (t:BT),(aV c t).nodes.Perm (t.nodes++aY c)
  | [],t=>by simp[aV,aY]
  | a::c,t=>by
    refine(bH c (a.fill t)).trans ?_;simp only[aY];have:=(kI a t).append_right (aY c);simpa using this
theorem Rep.ne0{σ:Tbl}:∀{t:BT} {u x:Nat},Rep σ t u->x∈t.nodes->x≠0
  | .nil,_,_,_,hx=>by cases hx
  | .node f l v r,u,x,⟨h1,hl,hr,_⟩,hx=>by
    simp only[BT.nodes,qJ,qF]at hx;rcases hx with hx|rfl|hx
    · exact hl.ne0 hx
    · exact h1.1
    · exact hr.ne0 hx
theorem oX.congr{σ σ' :Tbl}:∀{c:List Fm} {x:Nat} {ns:List Nat} {u:Nat},(∀y∈aY c,σ' y=σ y)->(∀y∈ns,(σ' y).light=(σ y).light/\(σ' y).key=(σ y).key)->oX σ c x ns u->oX σ' c x ns u
  | [],_,_,_,_,_,_=>trivial
  | a::c,x,ns,u,hc,hn,⟨h1,h2,⟨h3,h4,h5⟩,h6⟩=>by
    have hp:σ' a.p=σ a.p:=hc a.p (by simp[aY]);have ho:∀y∈a.o.nodes,σ' y=σ y:=fun y hy=>hc y (by simp[aY,hy]);have hlk:∀y∈ns++a.p::a.o.nodes,(σ' y).light=(σ y).light/\(σ' y).key=(σ y).key:=by
      intro y hy;simp only[qJ,qF]at hy;rcases hy with hy|rfl|hy
      · exact hn y hy
      · rw[hp];exact⟨rfl,rfl⟩
      · rw[ho y hy];exact⟨rfl,rfl⟩
    refine⟨by rw[hp];exact h1,h2.congr ho,⟨by rw[hp];exact h3,by rw[hp,cJ (fun y hy=>(hlk y hy).1)];exact h4,by rw[hp];exact dP (fun y hy=>(hlk y hy).2) h5⟩,?_⟩;exact h6.congr (fun y hy=>hc y (by simp[aY,hy])) hlk
theorem oX.move{σ σ' :Tbl}{a:Fm}{c:List Fm}{x x' :Nat}{ns:List Nat}{u:Nat}(h:oX σ (a::c) x ns u)(hp:σ' a.p=aR (σ a.p) (sd a.s) x')(hn:∀y∈ns,(σ' y).light=(σ y).light/\(σ' y).key=(σ y).key)
    (ho:∀y∈a.o.nodes++aY c,σ' y=σ y):oX σ' (a::c) x' ns u:=by
 obtain⟨⟨h1,h1a,h1b,h1c,h1d⟩,h2,⟨h3,h4,h5⟩,h6⟩:=h;have hr:=jS (σ a.p) (sd a.s) x';have hlk:∀y∈ns++a.p::a.o.nodes,(σ' y).light=(σ y).light/\(σ' y).key=(σ y).key:=by {
 intro y hy;simp only[qJ,qF]at hy;rcases hy with hy|rfl|hy
 · exact hn y hy
 · rw[hp];exact⟨hr.2.2.2.2.2.1,hr.2.2.1⟩
 · rw[ho y (by simp[hy])];exact⟨rfl,rfl⟩};refine⟨⟨h1,by rw[hp,hr.1];exact h1a,by rw[hp,hr.2.1];exact h1b,by rw[hp,vE],?_⟩,h2.congr (fun y hy=>ho y (by simp[hy])),⟨by rw[hp,hr.2.2.2.1];exact h3,?_,?_⟩,?_⟩
 · rw[hp,oG (yK _) (yK _) (by cases a.s<;>decide)];exact h1d
 · rw[hp,hr.2.2.2.2.2.2,cJ (fun y hy=>(hlk y hy).1)];exact h4
 · rw[hp,hr.2.2.2.2.1];exact dP (fun y hy=>(hlk y hy).2) h5
 · exact h6.congr (fun y hy=>ho y (by simp[hy])) hlk
structure dB (σ σ' :Tbl) (ns:List Nat):Prop where
  other:∀x,x∉ns->σ' x=σ x
  lk:∀x,(σ' x).light=(σ x).light/\(σ' x).key=(σ x).key
theorem oY{σ:Tbl}{a:Fm}{c:List Fm}{l r:BT}{i u:Nat}(h:Rep σ (aV (a::c) (.node false l i r)) u)(haf:a.f=false)(hnd:(aV (a::c) (.node false l i r)).nodes.Nodup)
    (hO:Out σ u (aV (a::c) (.node false l i r)).nodes):
    Rep (rotate σ i) (aV c (xL a l i r)) u/\dB σ (rotate σ i) (aV (a::c) (.node false l i r)).nodes /\
      ((dN σ i (σ i).up).k0≠(σ i).up/\(dN σ i (σ i).up).k1≠(σ i).up/\(dN σ i i).k0≠i/\(dN σ i i).k1≠i):=by
  have hpm:=bH (a::c) (.node false l i r);have hnd' :=hpm.nodup_iff.1 hnd;have hmem:∀x,x∈(aV (a::c) (.node false l i r)).nodes↔x∈(BT.node false l i r).nodes++aY (a::c):=fun x=>hpm.mem_iff;have hall0:∀x,x∈(aV (a::c) (.node false l i r)).nodes->x≠0:=fun x hx=>h.ne0 hx;obtain⟨hT,hC⟩:=fJ.1 h;generalize hNS:(aV (a::c) (BT.node false l i r)).nodes=NS at *;obtain⟨s,f,p,o⟩:=a;dsimp only at haf;subst haf
  obtain⟨⟨hi0,hiu,hif,hik0,hik1⟩,hl,hr,_⟩:=hT;obtain⟨⟨hp0,hpu,hpf,hpk,hpo⟩,hRo,_,hC'⟩:=id hC;simp only[pU]at hiu hl hr;dsimp only at hp0 hpu hpf hpk hpo hRo hC'
  replace hpk:kid (σ p) (sd s)=i:=hpk;simp only[aY,BT.nodes,qW,qX,qJ,qF,zL,List.append_assoc]at hnd' hmem;have dil:i∉l.nodes:=by grind
  have dir:i∉r.nodes:=by grind
  have dio:i∉o.nodes:=by grind
  have dic:i∉aY c:=by grind
  have dpi:p≠i:=by grind
  have dpl:p∉l.nodes:=by grind
  have dpr:p∉r.nodes:=by grind
  have dpo:p∉o.nodes:=by grind
  have dpc:p∉aY c:=by grind
  have ndl:l.nodes.Nodup:=by grind
  have ndr:r.nodes.Nodup:=by grind
  have dlr:∀x∈l.nodes,x∉r.nodes:=by grind
  have dlo:∀x∈l.nodes,x∉o.nodes:=by grind
  have dro:∀x∈r.nodes,x∉o.nodes:=by grind
  have dlc:∀x∈l.nodes,x∉aY c:=by grind
  have drc:∀x∈r.nodes,x∉aY c:=by grind
  have doc:∀x∈o.nodes,x∉aY c:=by grind
  have h1:bC σ i=(sd s,true):=by
    refine iU hi0 hp0 hiu hpk hpo ?_;intro e;by_cases h0:o.root=0
    · exact hi0 (e.symm.trans h0)
    · exact dio (e▸BT.root_mem h0)
  obtain⟨m,hm,hmn,hmr⟩:∃m:BT,m=(if s then l else r)/\(∀x∈m.nodes,x∈l.nodes∨x∈r.nodes)/\kid (σ i) (1-sd s)=m.root:=by
    cases s with
    | false=>exact⟨r,rfl,fun x hx=>.inr hx,by simpa[sd,kid] using hik1⟩
    | true=>exact⟨l,rfl,fun x hx=>.inl hx,by simpa[sd,kid] using hik0⟩
  have hRm:Rep σ m i:=by rw[hm];split<;>assumption
  have ndm:m.nodes.Nodup:=by rw[hm];split<;>assumption
  have hki:kid (σ i) (1-sd s)≠i:=by
    rw[hmr];intro e;have:=hmn _ (BT.root_mem (by rw[e];exact hi0));rw[e]at this;exact this.elim dil dir
  have hkp:kid (σ i) (1-sd s)≠p:=by
    rw[hmr];intro e;have:=hmn _ (BT.root_mem (by rw[e];exact hp0));rw[e]at this;exact this.elim dpl dpr
  have key:(∀x,x≠i->x≠p->(x≠m.root∨m.root=0)->(c=[]∨x≠pU c u)->dN σ i x=σ x)/\dN σ i i={ aR (σ i) (1-sd s) p with up:=pU c u }/\dN σ i p={ aR (σ p) (sd s) m.root with up:=i } /\
      (m.root≠0->dN σ i m.root={ σ m.root with up:=p })/\(∀b c', c=b::c' -> dN σ i b.p=aR (σ b.p) (sd b.s) i):=by
    cases c with
    | nil=>
      have h2:bC σ p=(0,false):=vF (ns:=NS) (by rw[hpu];rfl) hO ((hmem p).2 (by simp));have hx:=aOD (yK s) hiu (by rw[hpu]) h1 h2 dpi hi0 hp0 hki hkp;rw[hmr]at hx hki hkp;refine⟨fun x e1 e2 e3 _=>?_,?_,?_,fun hm0=>?_,fun b c' e=>by cases e⟩
      · rw[hx,qH e1,qH e2,qH (fun h=>e3.elim (fun e=>e h.1) h.2)]
      · rw[hx,qI rfl]
      · rw[hx,qH dpi,qI rfl]
      · rw[hx,qH hki,qH hkp,qI ⟨rfl,hm0⟩]
    | cons b c' =>
      obtain⟨⟨hb0,hbu,hbf,hbk,hbo⟩,hRb,_,_⟩:=hC';simp only[pU]at hpu;have hbc:b.p∈aY (b::c'):=by simp[aY]
      have dbi:b.p≠i:=fun e=>dic (e▸hbc);have dbp:b.p≠p:=fun e=>dpc (e▸hbc);have h2:bC σ p=(sd b.s,true):=by
        refine iU hp0 hb0 hpu hbk hbo ?_;intro e;by_cases h0:b.o.root=0
        · exact hp0 (e.symm.trans h0)
        · exact dpc (by simp only[aY,zL,qF,qJ];exact .inr (.inl (e▸BT.root_mem h0)))
      have hkg:kid (σ i) (1-sd s)≠b.p∨kid (σ i) (1-sd s)=0:=by
        rw[hmr];by_cases h0:m.root=0
        · exact .inr h0
        · refine .inl (fun e => ?_)
          have:=hmn _ (BT.root_mem h0);rw[e]at this;exact this.elim (fun h=>dlc _ h hbc) (fun h=>drc _ h hbc)
      have hx:=aTH (yK s) hiu hpu h1 h2 dpi dbi dbp hi0 hp0 hki hkp hkg;rw[hmr]at hx hki hkp hkg;refine⟨fun x e1 e2 e3 e4=>?_,?_,?_,fun hm0=>?_,fun b' c'' e=>?_⟩
      · rw[hx,qH e1,qH e2,qH (show x≠b.p from e4.elim (fun h=>by cases h) id),qH (fun h=>e3.elim (fun e=>e h.1) h.2)]
      · rw[hx,qI rfl];rfl
      · rw[hx,qH dpi,qI rfl]
      · rw[hx,qH hki,qH hkp,qH (hkg.elim id (fun h=>absurd h hm0)),qI ⟨rfl,hm0⟩]
      · cases e;rw[hx,qH dbi,qH dbp,qI rfl]
  obtain⟨k1,k2,k3,k4,k5⟩:=key;have hupc:c=[]∨pU c u∈aY c:=by cases c with
    | nil=>exact .inl rfl
    | cons b c' =>right;simp[pU,aY]
  have dmi:∀x∈m.nodes,x≠i:=fun x hx e=>(hmn x hx).elim (fun h=>dil (e▸h)) (fun h=>dir (e▸h));have dmp:∀x∈m.nodes,x≠p:=fun x hx e=>(hmn x hx).elim (fun h=>dpl (e▸h)) (fun h=>dpr (e▸h));have dmc:∀x∈m.nodes,c=[]∨x≠pU c u:=fun x hx=>hupc.imp id (fun hc e=>(hmn x hx).elim (fun h=>dlc _ h (e▸hc)) (fun h=>drc _ h (e▸hc)));have hRm3:Rep (dN σ i) m p:=hRm.reup ndm (fun x hx hne=>k1 x (dmi x hx) (dmp x hx) (.inl hne) (dmc x hx)) k4;have hRo3:Rep (dN σ i) o p:=hRo.congr (fun x hx=>k1 x (fun e=>dio (e▸hx)) (fun e=>dpo (e▸hx)) (.inl (fun e=>by
    have h0:m.root≠0:=by rw[<-e];exact hRo.ne0 hx
    exact(hmn _ (BT.root_mem h0)).elim (fun h=>dlo _ h (e▸hx)) (fun h=>dro _ h (e▸hx)))) (hupc.imp id (fun hc e=>doc x hx (e▸hc))))
  have hsr:=jS (σ p) (sd s) m.root;have hsi:=jS (σ i) (1-sd s) p;have nmp:p∉m.nodes:=fun hx=>dmp p hx rfl;have hP:Rep (refresh (dN σ i) p) (if s then .node false o p m else .node false m p o) i:=by
    have hk:kid (dN σ i p) (sd s)=m.root/\kid (dN σ i p) (sd !s)=o.root:=by
      rw[k3];refine⟨vE _ _ _,?_⟩;show kid (aR _ _ _) _=_
      rw[oG (yK _) (yK _) (by cases s<;>decide)];exact hpo
    cases s with
    | false=>exact eA hp0 (by rw[k3]) (by rw[k3];exact hsr.2.1.trans hpf) (by simpa[sd,kid] using hk.1) (by simpa[sd,kid] using hk.2) hRm3 hRo3 nmp dpo
    | true=>exact eA hp0 (by rw[k3]) (by rw[k3];exact hsr.2.1.trans hpf) (by simpa[sd,kid] using hk.2) (by simpa[sd,kid] using hk.1) hRo3 hRm3 dpo nmp
  have r2:∀x,x≠p->refresh (dN σ i) p x=dN σ i x:=fun x hx=>dE hx;have hI:∀(e:BT),Rep σ e i->(∀x∈e.nodes,x∉m.nodes/\x≠i/\x≠p/\x∉aY c)->Rep (refresh (dN σ i) p) e i:=by
    intro e he hd;refine he.congr (fun x hx=>?_);obtain⟨d1,d2,d3,d4⟩:=hd x hx;rw[r2 x d3];refine k1 x d2 d3 (.inl (fun e' =>?_)) (hupc.imp id (fun hc e' =>d4 (e' ▸ hc)));exact d1 (e' ▸ BT.root_mem (by rw[<-e'];exact he.ne0 hx))
  have hT2:Rep (rotate σ i) (xL ⟨s,false,p,o⟩ l i r) (pU c u):=by
    unfold rotate;rw[hiu];have hi3:refresh (dN σ i) p i={ aR (σ i) (1-sd s) p with up:=pU c u }:=by rw[r2 i dpi.symm,k2]
    cases s with
    | false=>
      simp only[Bool.false_eq_true,if_false]at hP hm;subst hm;refine eA hi0 (by rw[hi3]) (by rw[hi3];exact hsi.2.1.trans hif) (by rw[hi3];simpa[aR,sd] using hik0) (by rw[hi3];simp[aR,sd,BT.root]) (hI l hl (fun x hx=>⟨dlr x hx,fun e=>dil (e▸hx),fun e=>dpl (e▸hx),dlc x hx⟩)) hP dil ?_;simp only[BT.nodes,qJ,qF,not_or];exact⟨dir,dpi.symm,dio⟩
    | true=>
      simp only[if_true]at hP hm;subst hm;refine eA hi0 (by rw[hi3]) (by rw[hi3];exact hsi.2.1.trans hif) (by rw[hi3];simp[aR,sd,BT.root]) (by rw[hi3];simpa[aR,sd] using hik1) hP (hI r hr (fun x hx=>⟨fun h=>dlr x h hx,fun e=>dir (e▸hx),fun e=>dpr (e▸hx),drc x hx⟩)) ?_ dir;simp only[BT.nodes,qJ,qF,not_or];exact⟨dio,dpi.symm,dil⟩
  have hR:∀x,x≠i->x≠p->rotate σ i x=dN σ i x:=by
    intro x e1 e2;unfold rotate;rw[dE e1,hiu,dE e2]
  have hlk3:∀x,(dN σ i x).light=(σ x).light/\(dN σ i x).key=(σ x).key:=by
    intro x;by_cases e1:x=i
    · subst e1;rw[k2];exact⟨hsi.2.2.2.2.2.1,hsi.2.2.1⟩
    by_cases e2:x=p
    · subst e2;rw[k3];exact⟨hsr.2.2.2.2.2.1,hsr.2.2.1⟩
    by_cases e3:c=[]∨x≠pU c u
    · by_cases e4 : x ≠ m.root ∨ m.root = 0
      · rw[k1 x e1 e2 e4 e3];exact⟨rfl,rfl⟩
      · simp only [not_or, ne_eq, Classical.not_not] at e4
        rw[e4.1,k4 e4.2];exact⟨rfl,rfl⟩
    · cases c with
      | nil=>exact absurd (.inl rfl) e3
      | cons b c' =>
        have e4:x=b.p:=by
          apply qZ;intro hne;exact e3 (.inr hne)
        rw[e4,k5 b c' rfl];have:=jS (σ b.p) (sd b.s) i;exact⟨this.2.2.2.2.2.1,this.2.2.1⟩
  have hlk:∀x,(rotate σ i x).light=(σ x).light/\(rotate σ i x).key=(σ x).key:=by
    intro x;unfold rotate;have a:=@aH (refresh (dN σ i) (σ i).up) i x;have b:=@aH (dN σ i) (σ i).up x;exact⟨a.2.2.2.2.2.trans (b.2.2.2.2.2.trans (hlk3 x).1),a.2.2.2.2.1.trans (b.2.2.2.2.1.trans (hlk3 x).2)⟩
  refine⟨fJ.2 ⟨hT2,?_⟩,⟨fun x hx=>?_,hlk⟩,?_⟩
  · rw [vG, show (xL ⟨s, false, p, o⟩ l i r).root = i by unfold xL; split <;> rfl]
    have hC2:oX σ c p (Fm.fill ⟨s,false,p,o⟩ (.node false l i r)).nodes u:=hC'.perm (kI ⟨s,false,p,o⟩ (.node false l i r)).symm;cases c with
    | nil=>trivial
    | cons b c' =>
      have hbc:b.p∈aY (b::c'):=by simp[aY]
      refine hC2.move ?_ (fun y _=>hlk y) (fun y hy=>?_)
      · rw[hR _ (fun e=>dic (e▸hbc)) (fun e=>dpc (e▸hbc)),k5 b c' rfl]
      · have hyc : y ∈ aY (b :: c') := by simp only [aY, zL, qF]; exact .inr hy
        have hbn:y≠b.p:=by
          have:b.p∉b.o.nodes++aY c' :=by
            have:=hnd'.2.1;simp only[aY,zL,qW,qX,qJ]at this;simp only[qJ];grind
          exact fun e=>this (e▸hy)
        have e1:y≠i:=fun e=>dic (e▸hyc);have e2:y≠p:=fun e=>dpc (e▸hyc);rw[hR y e1 e2];refine k1 y e1 e2 ?_ (.inr hbn);by_cases h0:m.root=0
        · exact .inr h0
        · exact .inl (fun e=>(hmn _ (BT.root_mem h0)).elim (fun h=>dlc _ h (e▸hyc)) (fun h=>drc _ h (e▸hyc)))
  · have hx' : ¬ (x ∈ l.nodes ∨ x = i ∨ x ∈ r.nodes ∨ x = p ∨ x ∈ o.nodes ∨ x ∈ aY c) := fun h => hx ((hmem x).2 (by grind))
    simp only[not_or]at hx';obtain⟨e1,e2,e3,e4,e5,e6⟩:=hx';rw[hR x e2 e4];refine k1 x e2 e4 ?_ (hupc.imp id (fun hc e=>e6 (e▸hc)));by_cases h00:m.root=0
    · exact .inr h00
    · exact .inl (fun h0=>(hmn _ (BT.root_mem h00)).elim (fun h=>e1 (h0▸h)) (fun h=>e3 (h0▸h)))
  · rw [hiu, k3, k2]
    refine⟨?_,?_,?_,?_⟩
    · cases s with
      | false=>simp only[aR,sd,Bool.false_eq_true,if_false,if_true];rw[<-hmr];exact hkp
      | true=>
        simp[sd,kid]at hpo;simp[aR,sd];rw[hpo];intro e;exact dpo (e▸BT.root_mem (by rw[e];exact hp0))
    · cases s with
      | false=>
        simp[sd,kid]at hpo;simp[aR,sd];rw[hpo];intro e;exact dpo (e▸BT.root_mem (by rw[e];exact hp0))
      | true=>simp[aR,sd];rw[<-hmr];exact hkp
    · cases s with
      | false=>
        simp[aR,sd];rw[hik0];intro e;exact dil (e▸BT.root_mem (by rw[e];exact hi0))
      | true=>simp[aR,sd];exact dpi
    · cases s with
      | false=>simp[aR,sd];exact dpi
      | true=>
        simp[aR,sd];rw[hik1];intro e;exact dir (e▸BT.root_mem (by rw[e];exact hi0))
end Go.Proofs.YtgmnemndjjmgkaaGreat
